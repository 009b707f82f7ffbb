/- Functions walked. -/
import Derived.Test.YtideafkiaipnoaaRead
namespace Go.Proofs.Ytideafkiaipnoaa.Q
open Go Go.RowKit Go.Proofs.YtideafkiaipnoaaW.PrintWords Go.Proofs.YtideafkiaipnoaaW.PrintLast Go.Proofs.Ytideafkiaipnoaa.Deed
set_option maxRecDepth 100000
theorem zb75 : (Try.prog.info? 75).map (·.zero) = some (some (.agg (bookCells (List.replicate 16 (.slice none 0 0)) Bk.zero).toArray)) := by kernel_rfl
theorem pb75 : places Try.prog 75 = some ([(0, 16), (16, 101), (117, 1), (118, 2)].map some) := by kernel_rfl
noncomputable def iBad (os : List Op) (i : Int) : Bool := ((!(iOp (go_ os i))) || ((decide (0 < i)) && (decide ((go_ os i).actor < (go_ os (i - 1)).actor)))) || ((go_ os i).seq != (num (os.take i.toNat) (go_ os i).actor + 1))
noncomputable def iKindBad (os : List Op) (i : Int) : Bool := ((gi (tf thing (os.take i.toNat)) (go_ os i).obj) != 0) && ((gi (tf thing (os.take i.toNat)) (go_ os i).obj) != (thing (go_ os i)))
noncomputable def depBad (os : List Op) (k b : Int) : Bool := (decide (num os b < gi (go_ os k).deps b)) || ((decide (0 < gi (go_ os k).deps b)) && (!(less ((onth os b (gi (go_ os k).deps b)).time, (onth os b (gi (go_ os k).deps b)).actor) ((go_ os k).time, (go_ os k).actor))))
def ILog (os : List Op) : Prop := os.length ≤ 1024 ∧ (∀ i : Int, 0 ≤ i → i < os.length → iBad os i = false ∧ iKindBad os i = false) ∧ ∀ k b : Int, 0 ≤ k → k < os.length → 0 ≤ b → b < 16 → depBad os k b = false
noncomputable def iLogOK (os : List Op) : Bool := by classical exact decide (ILog os)
theorem iLogOK_true {os : List Op} (h : ILog os) : iLogOK os = true := by simp [iLogOK, h]
theorem iLogOK_false {os : List Op} (h : ¬ ILog os) : iLogOK os = false := by simp [iLogOK, h]
theorem iLogOK_iff {os : List Op} : iLogOK os = true ↔ ILog os := by simp [iLogOK]
theorem iBad_ok {os : List Op} {i : Int} (h : iBad os i = false) : iOp (go_ os i) = true := by
  unfold iBad at h
  cases e : iOp (go_ os i) with
  | true => rfl
  | false => rw [e] at h; simp at h
set_option maxHeartbeats 2000000 in
theorem read_calls (A : Option Addr) (os : List Op) (D : Nat → Option Addr) (C : Nat → Nat) (c : Nat) (w : World) (HR : RO w A os D C) : Calls Try.prog 50 #[.slice A os.length c] w fun e w' => ∃ p, e = .returned (.tuple #[p, .bool (iLogOK os)]) ∧ (iLogOK os = true → ∃ g vs, p = .pointer (some ⟨g, 0, none⟩) ∧ BookAt w (okW w w') w' g vs (bk (los os D C os.length))) ∧ Below w.heap.size w w' := by
  refine calls_of_wp Try.func50 rfl ?_
  refine enter_ (N := 127) rfl ?_
  rintro a0 hN hD ⟨s0, -⟩
  have HB : Below w.heap.size w w := Below.refl _ _
  refine wp_seq ?_
  refine deedL [.eq 2 (.pointer none), .eq 3 (.bool false), .eq 0 (.slice A os.length c), .w (Below w.heap.size w)] 127 [[], []] [] [2, 3] hM hN hD (by kernel_rfl) ⟨s0, ⟨Below.refl _ _, below_drew (Below.refl _ _)⟩, trivial⟩ ⟨fun _ _ hb h => below_step h hb, trivial⟩ (fun hgrow => ⟨fun _ _ _ => rv rfl (x_assign rfl rfl) rfl,
    fun _ _ _ => rv rfl (x_assign rfl rfl) rfl, trivial⟩) ?_
  clear s0
  clear hN hD
  rintro a1 w1 hN hD ⟨s0, hGR, -⟩
  replace HB := below_step HB hGR
  clear hGR
  show Code.wp _ _ _ _ _
  refine wp_seq ?_
  refine wp_seq ?_
  refine deedL [.eq 11 (.slice A os.length c), .eq 12 (.int .i64 (os.length : Int)), .eq 13 (.bool (decide (1024 < (os.length : Int)))), .eq 0 (.slice A os.length c), .w (Below w1.heap.size w1)] 127 [[3], [0], [1]] [] [2, 3, 4] hM hN hD (by kernel_rfl) ⟨s0, ⟨Below.refl _ _, below_drew (Below.refl _ _)⟩, trivial⟩ ⟨fun _ _ hb h => below_step h hb, trivial⟩ (fun hgrow => ⟨fun _ _ h => rv rfl (x_move rfl h.1) rfl,
    fun _ _ h => rv rfl (x_len_slice rfl Try.underlying27 h.1) rfl,
    fun _ _ h => rv rfl (x_gtr rfl h.1 rfl) rfl, trivial⟩) ?_
  clear s0
  clear hN hD
  rintro a2 w2 hN hD ⟨s13, s0, hGR, -⟩
  replace HB := below_step HB hGR
  clear hGR
  show Code.wp _ _ _ _ _
  refine wp_cond (t := decide (1024 < (os.length : Int))) s13 ?_
  rcases Bool.eq_false_or_eq_true (decide (1024 < (os.length : Int))) with cd3 | cd3
  · rw [cd3]
    show Code.wp _ _ _ _ _
    have pd3 := of_decide_eq_true cd3
    refine wp_seq ?_
    refine deedL [.eq 2 (.pointer none), .eq 3 (.bool false), .w (Below w2.heap.size w2)] 127 [[], []] [] [0, 1, 2] hM hN hD (by kernel_rfl) ⟨⟨Below.refl _ _, below_drew (Below.refl _ _)⟩, trivial⟩ ⟨fun _ _ hb h => below_step h hb, trivial⟩ (fun hgrow => ⟨fun _ _ _ => rv rfl (x_assign rfl rfl) rfl,
      fun _ _ _ => rv rfl (x_assign rfl rfl) rfl, trivial⟩) ?_
    clear s0 s13
    clear hN hD
    rintro a4 w4 hN hD ⟨s2, s3, hGR, -⟩
    replace HB := below_step HB hGR
    clear hGR
    show Code.wp _ _ _ _ _
    refine wp_ret (then_ret ?_)
    refine bodyPost_ret (fn := Try.f50) (results_list (rs := [.tmp 2, .tmp 3]) (vs := [.pointer none, .bool false]) rfl (by simp) (vtmp s2 (vtmp s3 .nil))) hD ?_
    rw [iLogOK_false (fun h => by have := h.1; omega)]
    exact ⟨_, rfl, fun h => (by cases h), HB⟩
  · rw [cd3]
    show Code.wp _ _ _ _ _
    have pd3 := of_decide_eq_false cd3
    refine wp_skip ?_
    show Code.wp _ _ _ _ _
    refine wp_seq ?_
    refine deedL [.eq 14 (.agg (bookCells (List.replicate 16 (.slice none 0 0)) Bk.zero).toArray), .s1 15 (NewB w2.heap.size (bookCells (List.replicate 16 (.slice none 0 0)) Bk.zero) 75), .s2 15 4 fun x_ y_ _ => ∃ (g15 : Nat), x_ = .pointer (some ⟨g15, 0, none⟩) ∧ y_ = .pointer (some ⟨g15, 0, none⟩), .eq 0 (.slice A os.length c), .w (Below w2.heap.size w2)] 127 [[], [4, 0], [1]] [] [1, 2, 3, 4] hM hN hD (by kernel_rfl) ⟨s0, ⟨Below.refl _ _, below_drew (Below.refl _ _)⟩, trivial⟩ ⟨fun _ _ _ hb h => h.grow hb, fun _ _ _ _ hb h => h, fun _ _ hb h => below_step h hb, trivial⟩ (fun hgrow => ⟨fun _ _ _ => rv rfl (x_build rfl Try.underlying75 zb75 pb75 rfl rfl (ps := []) (vs := []) (L := bookCells (List.replicate 16 (.slice none 0 0)) Bk.zero)) rfl,
      fun _ _ h => rbox hgrow rfl (x_box rfl h.2.1) h.1.size (fun _ _ z => z),
      ?_, trivial⟩) ?_
    · rintro a_ W ⟨h1, -⟩
      obtain ⟨g15, e1, l1, hb1⟩ := h1
      exact rv rfl (x_assign rfl e1) ⟨_, e1, rfl⟩
    clear s0 s13
    clear hN hD
    rintro a5 w5 hN hD ⟨⟨g15, s15, lg15, HBX15⟩, q4, s0, hGR, -⟩
    obtain ⟨g15_, e_, s4⟩ := q4
    cases s15.symm.trans e_
    replace lg15 := Nat.le_trans HB.size lg15
    replace HB := below_step HB hGR
    have HBK : BookAt w (okW w w5) w5 g15 (List.replicate 16 (.slice none 0 0)) Bk.zero := BookAt.zero HBX15 ⟨lg15, blk_lt HBX15⟩
    clear HBX15
    clear hGR
    show Code.wp _ _ _ _ _
    refine wp_seq ?_
    refine wp_seq ?_
    refine deedL [.eq 16 (.slice A os.length c), .eq 17 (.int .i64 (os.length : Int)), .eq 18 (.int .i64 0), .eq 0 (.slice A os.length c), .eq 4 (.pointer (some ⟨g15, 0, none⟩)), .w (Below w5.heap.size w5)] 127 [[3], [0], []] [] [0, 1, 2, 3, 4, 5] hM hN hD (by kernel_rfl) ⟨s0, s4, ⟨Below.refl _ _, below_drew (Below.refl _ _)⟩, trivial⟩ ⟨fun _ _ hb h => below_step h hb, trivial⟩ (fun hgrow => ⟨fun _ _ h => rv rfl (x_move rfl h.1) rfl,
      fun _ _ h => rv rfl (x_len_slice rfl Try.underlying27 h.1) rfl,
      fun _ _ _ => rv rfl (x_move rfl rfl) rfl, trivial⟩) ?_
    clear s0 s4
    clear hN hD
    rintro a6 w6 hN hD ⟨s16, s17, s18, s0, s4, hGR, -⟩
    replace HB := below_step HB hGR
    replace HBK := HBK.stepW hGR
    clear hGR
    show Code.wp _ _ _ _ _
    refine wp_block ?_
    refine wp_loopN (fun n_ q_ w_ => ∃ (i : Int) (vs : List Value), (q_.tmps.size = 127) ∧ (q_.defers = []) ∧ (sl q_ 0 = .slice A os.length c) ∧ (sl q_ 4 = .pointer (some ⟨g15, 0, none⟩)) ∧ (sl q_ 16 = .slice A os.length c) ∧ (sl q_ 17 = .int .i64 (os.length : Int)) ∧ (sl q_ 18 = .int .i64 i) ∧ (Below w.heap.size w w_) ∧ (BookAt w (okW w w_) w_ g15 vs (bk (los os D C i.toNat))) ∧ (0 ≤ i) ∧ (i ≤ os.length) ∧ (∀ j : Int, 0 ≤ j → j < i → iBad os j = false ∧ iKindBad os j = false) ∧ (n_ = (os.length - i).toNat)) ((fun (i : Int) (vs : List Value) => (os.length - i).toNat) 0 (List.replicate 16 (.slice none 0 0))) ?_ ?_
    · exact ⟨0, (List.replicate 16 (.slice none 0 0)), hN, hD, s0, s4, s16, s17, s18, HB, HBK, (by omega), (by omega), (by intro j u v; omega), rfl⟩
    clear s0 s4 s16 s17 s18 HB HBK hN hD
    rintro n_7 a7 w7 ⟨i, vs, hN, hD, s0, s4, s16, s17, s18, HB, HBK, hi0, hi1, hi, hmeas⟩
    have hac := acts_of (fun j u v => iBad_ok (hi j u v).1) hi1
    have htn : i.toNat ≤ os.length := by omega
    have hnl := fun a => num_le (os.take i.toNat) a
    have htl : (os.take i.toNat).length ≤ os.length := by simp; omega
    refine wp_seq ?_
    refine deedL [.eq 19 (.bool (decide (i < (os.length : Int)))), .eq 0 (.slice A os.length c), .eq 4 (.pointer (some ⟨g15, 0, none⟩)), .eq 16 (.slice A os.length c), .eq 17 (.int .i64 (os.length : Int)), .eq 18 (.int .i64 i), .w (Below w7.heap.size w7)] 127 [[5, 4]] [] [0, 1, 2, 3, 4, 5, 6] hM hN hD (by kernel_rfl) ⟨s0, s4, s16, s17, s18, ⟨Below.refl _ _, below_drew (Below.refl _ _)⟩, trivial⟩ ⟨fun _ _ hb h => below_step h hb, trivial⟩ (fun hgrow => ⟨fun _ _ h => rv rfl (x_lss rfl h.1 h.2.1) rfl, trivial⟩) ?_
    clear s0 s4 s16 s17 s18
    clear hN hD
    rintro a8 w8 hN hD ⟨s19, s0, s4, s16, s17, s18, hGR, -⟩
    replace HB := below_step HB hGR
    replace HBK := HBK.stepW hGR
    clear hGR
    show Code.wp _ _ _ _ _
    refine wp_seq ?_
    refine wp_cond (t := decide (i < (os.length : Int))) s19 ?_
    rcases Bool.eq_false_or_eq_true (decide (i < (os.length : Int))) with cd9 | cd9
    · rw [cd9]
      show Code.wp _ _ _ _ _
      have pd9 := of_decide_eq_true cd9
      have hi2 := pd9
      refine wp_skip ?_
      show Code.wp _ _ _ _ _
      refine wp_seq ?_
      refine wp_block ?_
      refine wp_seq ?_
      refine deedL [.eq 20 (.int .i64 i), .eq 21 (.pointer (some ((adr A).add (i.toNat * 12)))), .eq 22 (.agg (opc (go_ os i) (D i.toNat) (C i.toNat)).toArray), .s1 6 (NewB w8.heap.size [.int .i64 0, .int .i64 0, .int .i64 0, .slice none 0 0, .int .i64 0, .int .i64 0, .int .i64 0, .int .i64 0, .int .i64 0, .int .i64 0, .string ⟨#[]⟩, .string ⟨#[]⟩] 67), .eq 5 (.int .i64 i), .s1 6 (NewB w8.heap.size (opc (go_ os i) (D i.toNat) (C i.toNat)) 67), .eq 0 (.slice A os.length c), .eq 4 (.pointer (some ⟨g15, 0, none⟩)), .eq 16 (.slice A os.length c), .eq 17 (.int .i64 (os.length : Int)), .eq 18 (.int .i64 i), .w (Below w8.heap.size w8)] 127 [[10], [8, 10], [1, 11], [11], [0], [3, 2, 11]] [[], [], [], [], [], [3]] [4, 5, 6, 7, 8, 9, 10, 11] hM hN hD (by kernel_rfl) ⟨s0, s4, s16, s17, s18, ⟨Below.refl _ _, below_drew (Below.refl _ _)⟩, trivial⟩ ⟨fun _ _ _ hb h => h.grow hb, fun _ _ _ hb h => h.grow hb, fun _ _ hb h => below_step h hb, trivial⟩ (fun hgrow => ⟨fun _ _ h => rv rfl (x_move rfl h.1) rfl,
        fun _ _ h => rv rfl (x_index_at rfl h.1 h.2.1 Try.underlying27 sz67 (by omega) (by omega) (RO.ad HR i (by omega) (by omega))) rfl,
        fun _ _ h => rv rfl (x_loadS rfl h.1 Try.underlying67 (opc (go_ os i) (D i.toNat) (C i.toNat)) sz67 (RO.cells HR (below_step HB h.2.1) (by omega) (by omega))) rfl,
        fun _ _ h => rbox hgrow rfl (x_alloc rfl zr67) h.1.size (fun _ _ z => z),
        fun _ _ h => rv rfl (x_assign rfl h.1) rfl,
        ?_, trivial⟩) ?_
      · rintro a_ W ⟨h3, h2, h11, -⟩
        obtain ⟨g6, e5, l5, hb5⟩ := h3
        exact rstoreS rfl rfl e5 h2 (by simp [Value.oneCell']) sz67 hb5 rfl ⟨_, e5, l5, blk_stored (cs := (opc (go_ os i) (D i.toNat) (C i.toNat))) 0 _ [.int .i64 0, .int .i64 0, .int .i64 0, .slice none 0 0, .int .i64 0, .int .i64 0, .int .i64 0, .int .i64 0, .int .i64 0, .int .i64 0, .string ⟨#[]⟩, .string ⟨#[]⟩] hb5 (of_decide_eq_true rfl)⟩ ⟨fun h => below_cells h l5, trivial⟩
      clear s0 s4 s16 s17 s18 s19
      clear hN hD
      rintro a10 w10 hN hD ⟨s5, ⟨g6, s6, lg6, HBX6⟩, s0, s4, s16, s17, s18, hGR, -⟩
      replace lg6 := Nat.le_trans HB.size lg6
      replace HB := below_step HB hGR
      replace HBK := HBK.stepW hGR
      clear hGR
      show Code.wp _ _ _ _ _
      refine wp_seq ?_
      refine wp_seq ?_
      refine deedL (.eq 23 (.agg (opc (go_ os i) (D i.toNat) (C i.toNat)).toArray) :: .eq 24 (.bool (iOp (go_ os i))) :: .eq 25 (.bool (!(iOp (go_ os i)))) :: .eq 26 (.bool (!(iOp (go_ os i)))) :: .gv (((!(iOp (go_ os i))) == false)) 27 (.int .i64 i) :: .gv (((!(iOp (go_ os i))) == false)) 28 (.bool (decide (0 < i))) :: .gv (((!(iOp (go_ os i))) == false)) 29 (.bool (decide (0 < i))) :: .gv (((!(iOp (go_ os i))) == false) && ((decide (0 < i)) == true)) 30 (.slice A os.length c) :: .gv (((!(iOp (go_ os i))) == false) && ((decide (0 < i)) == true)) 31 (.int .i64 i) :: .gv (((!(iOp (go_ os i))) == false) && ((decide (0 < i)) == true)) 32 (.int .i64 (i - 1)) :: .gv (((!(iOp (go_ os i))) == false) && ((decide (0 < i)) == true)) 33 (.pointer (some ((adr A).add ((i - 1).toNat * 12)))) :: .gv (((!(iOp (go_ os i))) == false) && ((decide (0 < i)) == true)) 34 (.pointer (some ((adr A).add ((i - 1).toNat * 12)))) :: .gv (((!(iOp (go_ os i))) == false) && ((decide (0 < i)) == true)) 35 (.int .i64 ((go_ os (i - 1)).actor)) :: .gv (((!(iOp (go_ os i))) == false) && ((decide (0 < i)) == true)) 36 (.pointer (some ⟨g6, 0, none⟩)) :: .gv (((!(iOp (go_ os i))) == false) && ((decide (0 < i)) == true)) 37 (.int .i64 ((go_ os i).actor)) :: .gv (((!(iOp (go_ os i))) == false) && ((decide (0 < i)) == true)) 38 (.bool (decide ((go_ os i).actor < (go_ os (i - 1)).actor))) :: .gv (((!(iOp (go_ os i))) == false)) 39 (.bool ((decide (0 < i)) && (decide ((go_ os i).actor < (go_ os (i - 1)).actor)))) :: .eq 40 (.bool ((!(iOp (go_ os i))) || ((decide (0 < i)) && (decide ((go_ os i).actor < (go_ os (i - 1)).actor))))) :: .eq 41 (.bool ((!(iOp (go_ os i))) || ((decide (0 < i)) && (decide ((go_ os i).actor < (go_ os (i - 1)).actor))))) :: .gv ((((!(iOp (go_ os i))) || ((decide (0 < i)) && (decide ((go_ os i).actor < (go_ os (i - 1)).actor)))) == false)) 42 (.pointer (some ⟨g6, 1, none⟩)) :: .gv ((((!(iOp (go_ os i))) || ((decide (0 < i)) && (decide ((go_ os i).actor < (go_ os (i - 1)).actor)))) == false)) 43 (.int .i64 ((go_ os i).seq)) :: .gv ((((!(iOp (go_ os i))) || ((decide (0 < i)) && (decide ((go_ os i).actor < (go_ os (i - 1)).actor)))) == false)) 44 (.pointer (some ⟨g15, 0, none⟩)) :: .gv ((((!(iOp (go_ os i))) || ((decide (0 < i)) && (decide ((go_ os i).actor < (go_ os (i - 1)).actor)))) == false)) 45 (.pointer (some ⟨g6, 0, none⟩)) :: .gv ((((!(iOp (go_ os i))) || ((decide (0 < i)) && (decide ((go_ os i).actor < (go_ os (i - 1)).actor)))) == false)) 46 (.int .i64 ((go_ os i).actor)) :: .gv ((((!(iOp (go_ os i))) || ((decide (0 < i)) && (decide ((go_ os i).actor < (go_ os (i - 1)).actor)))) == false)) 47 (.pointer (some ⟨g15, 0, none⟩)) :: .gv ((((!(iOp (go_ os i))) || ((decide (0 < i)) && (decide ((go_ os i).actor < (go_ os (i - 1)).actor)))) == false)) 48 (.pointer (some ⟨g15, 0, none⟩)) :: .gv ((((!(iOp (go_ os i))) || ((decide (0 < i)) && (decide ((go_ os i).actor < (go_ os (i - 1)).actor)))) == false)) 49 (.pointer (some ⟨g15, ((go_ os i).actor).toNat, none⟩)) :: .gv ((((!(iOp (go_ os i))) || ((decide (0 < i)) && (decide ((go_ os i).actor < (go_ os (i - 1)).actor)))) == false)) 50 (vs.getD (go_ os i).actor.toNat undef) :: .gv ((((!(iOp (go_ os i))) || ((decide (0 < i)) && (decide ((go_ os i).actor < (go_ os (i - 1)).actor)))) == false)) 51 (.int .i64 (num (os.take i.toNat) (go_ os i).actor)) :: .gv ((((!(iOp (go_ os i))) || ((decide (0 < i)) && (decide ((go_ os i).actor < (go_ os (i - 1)).actor)))) == false)) 52 (.int .i64 (num (os.take i.toNat) (go_ os i).actor + 1)) :: .gv ((((!(iOp (go_ os i))) || ((decide (0 < i)) && (decide ((go_ os i).actor < (go_ os (i - 1)).actor)))) == false)) 53 (.bool (((go_ os i).seq) != (num (os.take i.toNat) (go_ os i).actor + 1))) :: .eq 54 (.bool (((!(iOp (go_ os i))) || ((decide (0 < i)) && (decide ((go_ os i).actor < (go_ os (i - 1)).actor)))) || (((go_ os i).seq) != (num (os.take i.toNat) (go_ os i).actor + 1)))) :: .eq 0 (.slice A os.length c) :: .eq 4 (.pointer (some ⟨g15, 0, none⟩)) :: .eq 5 (.int .i64 i) :: .eq 6 (.pointer (some ⟨g6, 0, none⟩)) :: .eq 16 (.slice A os.length c) :: .eq 17 (.int .i64 (os.length : Int)) :: .eq 18 (.int .i64 i) :: .w (Below w10.heap.size w10) :: []) 127 ([35, 39] :: [0, 39] :: [1] :: [2] :: [3, 34] :: [3, 4] :: [3, 5] :: [6, 32] :: [6, 34] :: [6, 8] :: [6, 7, 9] :: [6, 10] :: [6, 11, 39] :: [6, 35] :: [6, 13, 39] :: [6, 12, 14] :: [3, 6, 15] :: [3, 16] :: [17] :: [18, 35] :: [18, 19, 39] :: [18, 33] :: [18, 35] :: [18, 22, 39] :: [18, 21] :: [18, 24] :: [18, 25, 23] :: [18, 26, 39] :: [18, 27, 39] :: [18, 28] :: [18, 20, 29] :: [18, 30] :: []) [] [31, 32, 33, 34, 35, 36, 37, 38, 39] hM hN hD (by kernel_rfl) ⟨s0, s4, s5, s6, s16, s17, s18, ⟨Below.refl _ _, below_drew (Below.refl _ _)⟩, trivial⟩ ⟨fun _ _ hb h => below_step h hb, trivial⟩ (fun hgrow => ⟨fun _ _ h => rv rfl (x_loadS rfl h.1 Try.underlying67 (opc (go_ os i) (D i.toNat) (C i.toNat)) sz67 (blk_list (L := opc (go_ os i) (D i.toNat) (C i.toNat)) (blk_below HBX6 h.2.1) 0 rfl)) rfl,
        fun _ _ h => rc hgrow rfl Try.func86 (by kernel_rfl) rfl rfl (args1 h.1) (iOp_calls (go_ os i) _ (D i.toNat) (C i.toNat) (RI.below (RO.deps HR (by omega) (by omega)) (below_step HB h.2.1))) (fun _ _ h => ⟨_, h.1, h.2, rfl⟩),
        fun _ _ h => rv rfl (x_not rfl h.1) rfl,
        fun _ _ h => rv rfl (x_move rfl h.1) rfl,
        fun _ _ h => rb rfl rfl h.1 (fun hgt => x_move rfl h.2.1) (fun _ z => z),
        fun _ _ h => rb rfl rfl h.1 (fun hgt => x_gtr rfl (h.2.1.1 hgt) rfl) (fun _ z => z),
        fun _ _ h => rb rfl rfl h.1 (fun hgt => x_move rfl (h.2.1.1 hgt)) (fun _ z => z),
        fun _ _ h => rg rfl rfl h.1 (fun hgt => x_move rfl h.2.1) (fun _ z => z),
        fun _ _ h => rg rfl rfl h.1 (fun hgt => x_move rfl h.2.1) (fun _ z => z),
        fun _ _ h => rg rfl rfl h.1 (fun hgt => x_sub' rfl (h.2.1.1 hgt) rfl (by simp at hgt; omega)) (fun _ z => z),
        fun _ _ h => rg rfl rfl h.1 (fun hgt => x_index_at rfl (h.2.1.1 hgt) (h.2.2.1.1 hgt) Try.underlying27 sz67 (by simp at hgt; omega) (by simp at hgt; omega) (RO.ad HR (i - 1) (by simp at hgt; omega) (by simp at hgt; omega))) (fun _ z => z),
        fun _ _ h => rg rfl rfl h.1 (fun hgt => x_field rfl (h.2.1.1 hgt) Try.underlying67 rfl sz3 (by decide) rfl) (fun _ z => z),
        fun _ _ h => rg rfl rfl h.1 (fun hgt => x_load1 rfl (h.2.1.1 hgt) Try.underlying3 rfl (RO.cell0 HR (below_step HB h.2.2.1) (by simp at hgt; omega) (by simp at hgt; omega))) (fun _ z => z),
        fun _ _ h => rg rfl rfl h.1 (fun hgt => x_field rfl h.2.1 Try.underlying67 rfl sz3 (by decide) rfl) (fun _ z => z),
        fun _ _ h => rg rfl rfl h.1 (fun hgt => x_load1 rfl (h.2.1.1 hgt) Try.underlying3 rfl (blk_one (L := opc (go_ os i) (D i.toNat) (C i.toNat)) (blk_below HBX6 h.2.2.1) 0 rfl)) (fun _ z => z),
        fun _ _ h => rg rfl rfl h.1 (fun hgt => x_gtr rfl (h.2.1.1 hgt) (h.2.2.1.1 hgt)) (fun _ z => z),
        fun _ _ h => rb rfl rfl h.1 (fun hgt => x_and rfl rfl (h.2.1.1 hgt) (fun hc => h.2.2.1.1 (Bool.and_eq_true _ _ ▸ ⟨hgt, beq_iff_eq.2 hc⟩))) (fun _ z => z),
        fun _ _ h => rv rfl (x_or rfl rfl h.1 (fun hc => h.2.1.1 (beq_iff_eq.2 hc))) rfl,
        fun _ _ h => rv rfl (x_move rfl h.1) rfl,
        fun _ _ h => rb rfl rfl h.1 (fun hgt => x_field rfl h.2.1 Try.underlying67 rfl sz3 (by decide) rfl) (fun _ z => z),
        fun _ _ h => rb rfl rfl h.1 (fun hgt => x_load1 rfl (h.2.1.1 hgt) Try.underlying3 rfl (blk_one (L := opc (go_ os i) (D i.toNat) (C i.toNat)) (blk_below HBX6 h.2.2.1) 1 rfl)) (fun _ z => z),
        fun _ _ h => rb rfl rfl h.1 (fun hgt => x_move rfl h.2.1) (fun _ z => z),
        fun _ _ h => rb rfl rfl h.1 (fun hgt => x_field rfl h.2.1 Try.underlying67 rfl sz3 (by decide) rfl) (fun _ z => z),
        fun _ _ h => rb rfl rfl h.1 (fun hgt => x_load1 rfl (h.2.1.1 hgt) Try.underlying3 rfl (blk_one (L := opc (go_ os i) (D i.toNat) (C i.toNat)) (blk_below HBX6 h.2.2.1) 0 rfl)) (fun _ z => z),
        fun _ _ h => rb rfl rfl h.1 (fun hgt => x_nil rfl (h.2.1.1 hgt)) (fun _ z => z),
        fun _ _ h => rb rfl rfl h.1 (fun hgt => x_field rfl (h.2.1.1 hgt) Try.underlying75 rfl sz72 (by decide) rfl) (fun _ z => z),
        fun _ _ h => rb rfl rfl h.1 (fun hgt => x_index_array rfl (h.2.1.1 hgt) (h.2.2.1.1 hgt) Try.underlying72 sz27 (by have hf := iOp_fine (nor_l hgt); exact hf.a0) (by have hf := iOp_fine (nor_l hgt); have := hf.a0; have := hf.a1; omega) (by rw [add_mk]; first | rfl | simp)) (fun _ z => z),
        fun _ _ h => rb rfl rfl h.1 (fun hgt => x_load1 rfl (h.2.1.1 hgt) Try.underlying27 rfl ((HBK.stepW h.2.2.1).cof (by have hf := iOp_fine (nor_l hgt); have := hf.a0; have := hf.a1; omega))) (fun _ z => z),
        fun _ _ h => rb rfl rfl h.1 (fun hgt => x_len_own rfl Try.underlying27 (h.2.1.1 hgt) ((HBK.stepW h.2.2.1).ownA htn hac (iOp_fine (nor_l hgt)).a0 (iOp_fine (nor_l hgt)).a1) (filt_num htn _)) (fun _ z => z),
        fun _ _ h => rb rfl rfl h.1 (fun hgt => x_add' rfl (h.2.1.1 hgt) rfl (by have := hnl (go_ os i).actor; omega)) (fun _ z => z),
        fun _ _ h => rb rfl rfl h.1 (fun hgt => x_neq rfl (h.2.1.1 hgt) (h.2.2.1.1 hgt)) (fun _ z => z),
        fun _ _ h => rv rfl (x_or rfl rfl h.1 (fun hc => h.2.1.1 (beq_iff_eq.2 hc))) rfl, trivial⟩) ?_
      clear s0 s4 s16 s17 s18 s5 s6
      clear hN hD
      rintro a11 w11 hN hD ⟨s54, s0, s4, s5, s6, s16, s17, s18, hGR, -⟩
      replace HB := below_step HB hGR
      replace HBK := HBK.stepW hGR
      replace HBX6 := blk_below HBX6 hGR
      clear hGR
      show Code.wp _ _ _ _ _
      refine wp_cond (t := ((!(iOp (go_ os i))) || ((decide (0 < i)) && (decide ((go_ os i).actor < (go_ os (i - 1)).actor)))) || (((go_ os i).seq) != (num (os.take i.toNat) (go_ os i).actor + 1))) s54 ?_
      rcases Bool.eq_false_or_eq_true (((!(iOp (go_ os i))) || ((decide (0 < i)) && (decide ((go_ os i).actor < (go_ os (i - 1)).actor)))) || (((go_ os i).seq) != (num (os.take i.toNat) (go_ os i).actor + 1))) with cd12 | cd12
      · rw [cd12]
        show Code.wp _ _ _ _ _
        have hs1 : iBad os i = true := cd12
        refine wp_seq ?_
        refine deedL [.eq 2 (.pointer none), .eq 3 (.bool false), .w (Below w11.heap.size w11)] 127 [[], []] [] [0, 1, 2] hM hN hD (by kernel_rfl) ⟨⟨Below.refl _ _, below_drew (Below.refl _ _)⟩, trivial⟩ ⟨fun _ _ hb h => below_step h hb, trivial⟩ (fun hgrow => ⟨fun _ _ _ => rv rfl (x_assign rfl rfl) rfl,
          fun _ _ _ => rv rfl (x_assign rfl rfl) rfl, trivial⟩) ?_
        clear s0 s4 s5 s6 s16 s17 s18 s54
        clear hN hD
        rintro a13 w13 hN hD ⟨s2, s3, hGR, -⟩
        replace HB := below_step HB hGR
        replace HBK := HBK.stepW hGR
        replace HBX6 := blk_below HBX6 hGR
        clear hGR
        show Code.wp _ _ _ _ _
        refine wp_ret (then_ret (blk_ret (then_ret (then_ret (blk_ret (then_ret ?_))))))
        refine bodyPost_ret (fn := Try.f50) (results_list (rs := [.tmp 2, .tmp 3]) (vs := [.pointer none, .bool false]) rfl (by simp) (vtmp s2 (vtmp s3 .nil))) hD ?_
        rw [iLogOK_false (fun h => by have := (h.2.1 i hi0 hi2).1; rw [hs1] at this; cases this)]
        exact ⟨_, rfl, fun h => (by cases h), HB⟩
      · rw [cd12]
        show Code.wp _ _ _ _ _
        have hs1 : iBad os i = false := cd12
        refine wp_skip ?_
        show Code.wp _ _ _ _ _
        refine wp_seq ?_
        refine wp_seq ?_
        have hf := iOp_fine (iBad_ok hs1)
        have hj0 := hf.j0
        have hj1 := hf.j1
        refine deedL (.eq 55 (.pointer (some ⟨g15, 0, none⟩)) :: .eq 56 (.pointer (some ⟨g6, 5, none⟩)) :: .eq 57 (.int .i64 ((go_ os i).obj)) :: .eq 58 (.pointer (some ⟨g15, 0, none⟩)) :: .eq 59 (.pointer (some ⟨g15, 16, none⟩)) :: .eq 60 (.pointer (some ⟨g15, 16 + ((go_ os i).obj).toNat, none⟩)) :: .eq 61 (.int .i64 (gi (tf thing (os.take i.toNat)) (go_ os i).obj)) :: .eq 62 (.bool ((gi (tf thing (os.take i.toNat)) (go_ os i).obj) != 0)) :: .eq 63 (.bool ((gi (tf thing (os.take i.toNat)) (go_ os i).obj) != 0)) :: .gv ((((gi (tf thing (os.take i.toNat)) (go_ os i).obj) != 0) == true)) 64 (.pointer (some ⟨g15, 0, none⟩)) :: .gv ((((gi (tf thing (os.take i.toNat)) (go_ os i).obj) != 0) == true)) 65 (.pointer (some ⟨g6, 5, none⟩)) :: .gv ((((gi (tf thing (os.take i.toNat)) (go_ os i).obj) != 0) == true)) 66 (.int .i64 ((go_ os i).obj)) :: .gv ((((gi (tf thing (os.take i.toNat)) (go_ os i).obj) != 0) == true)) 67 (.pointer (some ⟨g15, 0, none⟩)) :: .gv ((((gi (tf thing (os.take i.toNat)) (go_ os i).obj) != 0) == true)) 68 (.pointer (some ⟨g15, 16, none⟩)) :: .gv ((((gi (tf thing (os.take i.toNat)) (go_ os i).obj) != 0) == true)) 69 (.pointer (some ⟨g15, 16 + ((go_ os i).obj).toNat, none⟩)) :: .gv ((((gi (tf thing (os.take i.toNat)) (go_ os i).obj) != 0) == true)) 70 (.int .i64 (gi (tf thing (os.take i.toNat)) (go_ os i).obj)) :: .gv ((((gi (tf thing (os.take i.toNat)) (go_ os i).obj) != 0) == true)) 71 (.agg (opc (go_ os i) (D i.toNat) (C i.toNat)).toArray) :: .gv ((((gi (tf thing (os.take i.toNat)) (go_ os i).obj) != 0) == true)) 72 (.int .i64 (thing (go_ os i))) :: .gv ((((gi (tf thing (os.take i.toNat)) (go_ os i).obj) != 0) == true)) 73 (.bool ((gi (tf thing (os.take i.toNat)) (go_ os i).obj) != (thing (go_ os i)))) :: .eq 74 (.bool (((gi (tf thing (os.take i.toNat)) (go_ os i).obj) != 0) && ((gi (tf thing (os.take i.toNat)) (go_ os i).obj) != (thing (go_ os i))))) :: .eq 0 (.slice A os.length c) :: .eq 4 (.pointer (some ⟨g15, 0, none⟩)) :: .eq 6 (.pointer (some ⟨g6, 0, none⟩)) :: .eq 16 (.slice A os.length c) :: .eq 17 (.int .i64 (os.length : Int)) :: .eq 18 (.int .i64 i) :: .w (Below w11.heap.size w11) :: []) 127 ([21] :: [22] :: [1, 26] :: [0] :: [3] :: [4, 2] :: [5, 26] :: [6] :: [7] :: [8, 21] :: [8, 22] :: [8, 10, 26] :: [8, 9] :: [8, 12] :: [8, 13, 11] :: [8, 14, 26] :: [8, 22, 26] :: [8, 16] :: [8, 15, 17] :: [8, 18] :: []) [] [19, 20, 21, 22, 23, 24, 25, 26] hM hN hD (by kernel_rfl) ⟨s0, s4, s6, s16, s17, s18, ⟨Below.refl _ _, below_drew (Below.refl _ _)⟩, trivial⟩ ⟨fun _ _ hb h => below_step h hb, trivial⟩ (fun hgrow => ⟨fun _ _ h => rv rfl (x_move rfl h.1) rfl,
          fun _ _ h => rv rfl (x_field rfl h.1 Try.underlying67 rfl sz3 (by decide) rfl) rfl,
          fun _ _ h => rv rfl (x_load1 rfl h.1 Try.underlying3 rfl (blk_one (L := opc (go_ os i) (D i.toNat) (C i.toNat)) (blk_below HBX6 h.2.1) 5 rfl)) rfl,
          fun _ _ h => rv rfl (x_nil rfl h.1) rfl,
          fun _ _ h => rv rfl (x_field rfl h.1 Try.underlying75 rfl sz73 (by decide) rfl) rfl,
          fun _ _ h => rv rfl (x_index_array rfl h.1 h.2.1 Try.underlying73 sz3 (by omega) (by omega) (by rw [add_mk]; first | rfl | simp)) rfl,
          fun _ _ h => rv rfl (x_load1 rfl h.1 Try.underlying3 rfl ((HBK.stepW h.2.1).ckindT htn (by omega) (by omega))) rfl,
          fun _ _ h => rv rfl (x_neq rfl h.1 rfl) rfl,
          fun _ _ h => rv rfl (x_move rfl h.1) rfl,
          fun _ _ h => rb rfl rfl h.1 (fun hgt => x_move rfl h.2.1) (fun _ z => z),
          fun _ _ h => rb rfl rfl h.1 (fun hgt => x_field rfl h.2.1 Try.underlying67 rfl sz3 (by decide) rfl) (fun _ z => z),
          fun _ _ h => rb rfl rfl h.1 (fun hgt => x_load1 rfl (h.2.1.1 hgt) Try.underlying3 rfl (blk_one (L := opc (go_ os i) (D i.toNat) (C i.toNat)) (blk_below HBX6 h.2.2.1) 5 rfl)) (fun _ z => z),
          fun _ _ h => rb rfl rfl h.1 (fun hgt => x_nil rfl (h.2.1.1 hgt)) (fun _ z => z),
          fun _ _ h => rb rfl rfl h.1 (fun hgt => x_field rfl (h.2.1.1 hgt) Try.underlying75 rfl sz73 (by decide) rfl) (fun _ z => z),
          fun _ _ h => rb rfl rfl h.1 (fun hgt => x_index_array rfl (h.2.1.1 hgt) (h.2.2.1.1 hgt) Try.underlying73 sz3 (by omega) (by omega) (by rw [add_mk]; first | rfl | simp)) (fun _ z => z),
          fun _ _ h => rb rfl rfl h.1 (fun hgt => x_load1 rfl (h.2.1.1 hgt) Try.underlying3 rfl ((HBK.stepW h.2.2.1).ckindT htn (by omega) (by omega))) (fun _ z => z),
          fun _ _ h => rb rfl rfl h.1 (fun hgt => x_loadS rfl h.2.1 Try.underlying67 (opc (go_ os i) (D i.toNat) (C i.toNat)) sz67 (blk_list (L := opc (go_ os i) (D i.toNat) (C i.toNat)) (blk_below HBX6 h.2.2.1) 0 rfl)) (fun _ z => z),
          fun _ _ h => rcb hgrow rfl rfl h.1 Try.func93 (by kernel_rfl) rfl rfl (fun hgt => args1 (h.2.1.1 hgt)) (fun hgt => thing_calls (go_ os i) (D i.toNat) (C i.toNat) _) (fun _ _ _ h => h) (fun _ _ z => z),
          fun _ _ h => rb rfl rfl h.1 (fun hgt => x_neq rfl (h.2.1.1 hgt) (h.2.2.1.1 hgt)) (fun _ z => z),
          fun _ _ h => rv rfl (x_and rfl rfl h.1 (fun hc => h.2.1.1 (beq_iff_eq.2 hc))) rfl, trivial⟩) ?_
        clear s0 s4 s5 s6 s16 s17 s18 s54
        clear hN hD
        rintro a14 w14 hN hD ⟨s74, s0, s4, s6, s16, s17, s18, hGR, -⟩
        replace HB := below_step HB hGR
        replace HBK := HBK.stepW hGR
        replace HBX6 := blk_below HBX6 hGR
        clear hGR
        show Code.wp _ _ _ _ _
        refine wp_cond (t := ((gi (tf thing (os.take i.toNat)) (go_ os i).obj) != 0) && ((gi (tf thing (os.take i.toNat)) (go_ os i).obj) != (thing (go_ os i)))) s74 ?_
        rcases Bool.eq_false_or_eq_true (((gi (tf thing (os.take i.toNat)) (go_ os i).obj) != 0) && ((gi (tf thing (os.take i.toNat)) (go_ os i).obj) != (thing (go_ os i)))) with cd15 | cd15
        · rw [cd15]
          show Code.wp _ _ _ _ _
          have hs2 : iKindBad os i = true := cd15
          refine wp_seq ?_
          refine deedL [.eq 2 (.pointer none), .eq 3 (.bool false), .w (Below w14.heap.size w14)] 127 [[], []] [] [0, 1, 2] hM hN hD (by kernel_rfl) ⟨⟨Below.refl _ _, below_drew (Below.refl _ _)⟩, trivial⟩ ⟨fun _ _ hb h => below_step h hb, trivial⟩ (fun hgrow => ⟨fun _ _ _ => rv rfl (x_assign rfl rfl) rfl,
            fun _ _ _ => rv rfl (x_assign rfl rfl) rfl, trivial⟩) ?_
          clear s0 s4 s6 s16 s17 s18 s74
          clear hN hD
          rintro a16 w16 hN hD ⟨s2, s3, hGR, -⟩
          replace HB := below_step HB hGR
          replace HBK := HBK.stepW hGR
          replace HBX6 := blk_below HBX6 hGR
          clear hGR
          show Code.wp _ _ _ _ _
          refine wp_ret (then_ret (blk_ret (then_ret (then_ret (blk_ret (then_ret ?_))))))
          refine bodyPost_ret (fn := Try.f50) (results_list (rs := [.tmp 2, .tmp 3]) (vs := [.pointer none, .bool false]) rfl (by simp) (vtmp s2 (vtmp s3 .nil))) hD ?_
          rw [iLogOK_false (fun h => by have := (h.2.1 i hi0 hi2).2; rw [hs2] at this; cases this)]
          exact ⟨_, rfl, fun h => (by cases h), HB⟩
        · rw [cd15]
          show Code.wp _ _ _ _ _
          have hs2 : iKindBad os i = false := cd15
          refine wp_skip ?_
          show Code.wp _ _ _ _ _
          refine deedL [.eq 75 (.pointer (some ⟨g15, 0, none⟩)), .eq 76 (.agg (opc (go_ os i) (D i.toNat) (C i.toNat)).toArray), .w fun W => (∃ vs', BookAt w (okW w W) W g15 vs' ((bk (los os D C i.toNat)).put ⟨go_ os i, D i.toNat, C i.toNat⟩)) ∧ Kx (okW w w14) w14 W, .eq 0 (.slice A os.length c), .eq 4 (.pointer (some ⟨g15, 0, none⟩)), .eq 6 (.pointer (some ⟨g6, 0, none⟩)), .eq 16 (.slice A os.length c), .eq 17 (.int .i64 (os.length : Int)), .eq 18 (.int .i64 i), .w (Below w14.heap.size w14)] 127 [[4], [5, 9], [0, 1, 9]] [[], [], [9]] [2, 3, 4, 5, 6, 7, 8] hM hN hD (by kernel_rfl) ⟨s0, s4, s6, s16, s17, s18, ⟨Below.refl _ _, below_drew (Below.refl _ _)⟩, trivial⟩ ⟨fun _ _ hb h => ⟨⟨_, h.1.choose_spec.stepW hb⟩, h.2.step hb⟩, fun _ _ hb h => below_step h hb, trivial⟩ (fun hgrow => ⟨fun _ _ h => rv rfl (x_move rfl h.1) rfl,
            fun _ _ h => rv rfl (x_loadS rfl h.1 Try.underlying67 (opc (go_ os i) (D i.toNat) (C i.toNat)) sz67 (blk_list (L := opc (go_ os i) (D i.toNat) (C i.toNat)) (blk_below HBX6 h.2.1) 0 rfl)) rfl,
            ?_, trivial⟩) ?_
          · rintro a_ W ⟨h0, h1, h9, -⟩
            refine runs_call Try.func90 (by kernel_rfl) rfl #[.pointer (some ⟨g15, 0, none⟩), .agg (opc (go_ os i) (D i.toNat) (C i.toNat)).toArray] (wanted_none rfl) rfl (args2 h0 h1) ?_
            refine (put_calls w W (okW w W) g15 vs (bk (los os D C i.toNat)) ⟨go_ os i, D i.toNat, C i.toNat⟩ ⟨rfl, RO.deps HR hi0 hi2, RO.cap HR hi0 hi2⟩ (HBK.stepW h9) (fun k hk => hk.2) hf.a0 hf.a1 (by show 0 ≤ (go_ os i).obj; omega) (by show (go_ os i).obj < 101; omega) (fun j => by have := bk_of_le (los os D C i.toNat) j; rw [los_length] at this; omega) (by rw [bk_size]; omega) (by rw [bk_size, los_length]; omega)).mono ?_
            rintro e w3 ⟨rfl, ⟨vs1, hbk⟩, hkx⟩
            refine ⟨_, rfl, owe_keep trivial ⟨⟨vs1, hbk.lift (fun k hk => ?_)⟩, ?_⟩⟩
            · rcases hk with hk | hk
              · exact hk.1
              · exact Nat.le_trans (Nat.le_trans HB.size h9.size) hk
            · exact ⟨hkx.os.trans h9.os, hkx.tape.trans h9.tape, hkx.output.trans h9.output, Nat.le_trans h9.size hkx.size, fun k hk hn => (hkx.block k (Nat.lt_of_lt_of_le hk h9.size) (fun hk2 => hn ⟨hk2.1, hk⟩)).trans (h9.block k hk)⟩
          clear s0 s4 s6 s16 s17 s18 s74
          clear hN hD
          clear HBK
          clear HBX6
          rintro a17 w17 hN hD ⟨⟨⟨vs1, HBK⟩, hkx⟩, s0, s4, s6, s16, s17, s18, -⟩
          replace HB := Kx.below HB hkx HB.size (fun k hk => hk.1)
          show Code.wp _ _ _ _ _
          refine deedL [.eq 78 (.int .i64 (i + 1)), .eq 18 (.int .i64 (i + 1)), .eq 0 (.slice A os.length c), .eq 4 (.pointer (some ⟨g15, 0, none⟩)), .eq 16 (.slice A os.length c), .eq 17 (.int .i64 (os.length : Int)), .eq 18 (.int .i64 i), .w (Below w17.heap.size w17)] 127 [[6], [0]] [[], [6]] [1, 2, 3, 4, 5, 7] hM hN hD (by kernel_rfl) ⟨s0, s4, s16, s17, s18, ⟨Below.refl _ _, below_drew (Below.refl _ _)⟩, trivial⟩ ⟨fun _ _ hb h => below_step h hb, trivial⟩ (fun hgrow => ⟨fun _ _ h => rv rfl (x_add' rfl h.1 rfl (by omega)) rfl,
            fun _ _ h => rv rfl (x_move rfl h.1) rfl, trivial⟩) ?_
          clear s0 s4 s6 s16 s17 s18
          clear hN hD
          rintro a18 w18 hN hD ⟨s18, s0, s4, s16, s17, hGR, -⟩
          replace HB := below_step HB hGR
          replace HBK := HBK.stepW hGR
          clear hGR
          show ∃ m, m < n_7 ∧ _
          exact ⟨_, (by omega), ⟨(i + 1), vs1, hN, hD, s0, s4, s16, s17, s18, HB, (by rw [los_snoc hi0, bk_snoc]; exact HBK), (by omega), (by omega), (by intro j u v; by_cases e : j = i; (subst e; exact ⟨hs1, hs2⟩); exact hi j u (by omega)), rfl⟩⟩
    · rw [cd9]
      show Code.wp _ _ _ _ _
      have pd9 := of_decide_eq_false cd9
      refine wp_exit (then_exit (then_exit (at_exit ?_)))
      show Code.wp _ _ _ _ _
      refine wp_seq ?_
      refine wp_seq ?_
      have hin : i.toNat = os.length := by omega
      have hst : ∀ j : Int, 0 ≤ j → j < os.length → iBad os j = false ∧ iKindBad os j = false := fun j u v => hi j u (by omega)
      rw [hin] at HBK hac
      clear hnl htl htn
      refine deedL [.eq 79 (.slice A os.length c), .eq 80 (.int .i64 (os.length : Int)), .eq 81 (.int .i64 0), .eq 0 (.slice A os.length c), .eq 4 (.pointer (some ⟨g15, 0, none⟩)), .w (Below w8.heap.size w8)] 127 [[3], [0], []] [] [0, 1, 2, 3, 4, 5] hM hN hD (by kernel_rfl) ⟨s0, s4, ⟨Below.refl _ _, below_drew (Below.refl _ _)⟩, trivial⟩ ⟨fun _ _ hb h => below_step h hb, trivial⟩ (fun hgrow => ⟨fun _ _ h => rv rfl (x_move rfl h.1) rfl,
        fun _ _ h => rv rfl (x_len_slice rfl Try.underlying27 h.1) rfl,
        fun _ _ _ => rv rfl (x_move rfl rfl) rfl, trivial⟩) ?_
      clear s0 s4 s16 s17 s18 s19
      clear hN hD
      rintro a19 w19 hN hD ⟨s79, s80, s81, s0, s4, hGR, -⟩
      replace HB := below_step HB hGR
      replace HBK := HBK.stepW hGR
      clear hGR
      show Code.wp _ _ _ _ _
      refine wp_block ?_
      refine wp_loopN (fun n_ q_ w_ => ∃ (k : Int), (q_.tmps.size = 127) ∧ (q_.defers = []) ∧ (sl q_ 4 = .pointer (some ⟨g15, 0, none⟩)) ∧ (sl q_ 79 = .slice A os.length c) ∧ (sl q_ 80 = .int .i64 (os.length : Int)) ∧ (sl q_ 81 = .int .i64 k) ∧ (Below w.heap.size w w_) ∧ (BookAt w (okW w w_) w_ g15 vs (bk (los os D C os.length))) ∧ (0 ≤ k) ∧ (k ≤ os.length) ∧ (∀ j b : Int, 0 ≤ j → j < k → 0 ≤ b → b < 16 → depBad os j b = false) ∧ (n_ = (os.length - k).toNat)) ((fun (k : Int) => (os.length - k).toNat) 0) ?_ ?_
      · exact ⟨0, hN, hD, s4, s79, s80, s81, HB, HBK, (by omega), (by omega), (by intro j b2 u v; omega), rfl⟩
      clear s0 s4 s79 s80 s81 HB HBK hN hD
      rintro n_20 a20 w20 ⟨k, hN, hD, s4, s79, s80, s81, HB, HBK, hk0, hk1, hk, hmeas⟩
      refine wp_seq ?_
      refine deedL [.eq 82 (.bool (decide (k < (os.length : Int)))), .eq 4 (.pointer (some ⟨g15, 0, none⟩)), .eq 79 (.slice A os.length c), .eq 80 (.int .i64 (os.length : Int)), .eq 81 (.int .i64 k), .w (Below w20.heap.size w20)] 127 [[4, 3]] [] [0, 1, 2, 3, 4, 5] hM hN hD (by kernel_rfl) ⟨s4, s79, s80, s81, ⟨Below.refl _ _, below_drew (Below.refl _ _)⟩, trivial⟩ ⟨fun _ _ hb h => below_step h hb, trivial⟩ (fun hgrow => ⟨fun _ _ h => rv rfl (x_lss rfl h.1 h.2.1) rfl, trivial⟩) ?_
      clear s4 s79 s80 s81
      clear hN hD
      rintro a21 w21 hN hD ⟨s82, s4, s79, s80, s81, hGR, -⟩
      replace HB := below_step HB hGR
      replace HBK := HBK.stepW hGR
      clear hGR
      show Code.wp _ _ _ _ _
      refine wp_seq ?_
      refine wp_cond (t := decide (k < (os.length : Int))) s82 ?_
      rcases Bool.eq_false_or_eq_true (decide (k < (os.length : Int))) with cd22 | cd22
      · rw [cd22]
        show Code.wp _ _ _ _ _
        have pd22 := of_decide_eq_true cd22
        have hk2 := pd22
        refine wp_skip ?_
        show Code.wp _ _ _ _ _
        refine wp_seq ?_
        refine wp_block ?_
        refine wp_seq ?_
        refine deedL [.eq 83 (.pointer (some ((adr A).add (k.toNat * 12)))), .eq 84 (.agg (opc (go_ os k) (D k.toNat) (C k.toNat)).toArray), .s1 8 (NewB w21.heap.size [.int .i64 0, .int .i64 0, .int .i64 0, .slice none 0 0, .int .i64 0, .int .i64 0, .int .i64 0, .int .i64 0, .int .i64 0, .int .i64 0, .string ⟨#[]⟩, .string ⟨#[]⟩] 67), .s1 8 (NewB w21.heap.size (opc (go_ os k) (D k.toNat) (C k.toNat)) 67), .eq 4 (.pointer (some ⟨g15, 0, none⟩)), .eq 79 (.slice A os.length c), .eq 80 (.int .i64 (os.length : Int)), .eq 81 (.int .i64 k), .w (Below w21.heap.size w21)] 127 [[5, 7], [0, 8], [8], [2, 1, 8]] [[], [], [], [2]] [3, 4, 5, 6, 7, 8] hM hN hD (by kernel_rfl) ⟨s4, s79, s80, s81, ⟨Below.refl _ _, below_drew (Below.refl _ _)⟩, trivial⟩ ⟨fun _ _ _ hb h => h.grow hb, fun _ _ _ hb h => h.grow hb, fun _ _ hb h => below_step h hb, trivial⟩ (fun hgrow => ⟨fun _ _ h => rv rfl (x_index_at rfl h.1 h.2.1 Try.underlying27 sz67 (by omega) (by omega) (RO.ad HR k (by omega) (by omega))) rfl,
          fun _ _ h => rv rfl (x_loadS rfl h.1 Try.underlying67 (opc (go_ os k) (D k.toNat) (C k.toNat)) sz67 (RO.cells HR (below_step HB h.2.1) (by omega) (by omega))) rfl,
          fun _ _ h => rbox hgrow rfl (x_alloc rfl zr67) h.1.size (fun _ _ z => z),
          ?_, trivial⟩) ?_
        · rintro a_ W ⟨h2, h1, h8, -⟩
          obtain ⟨g8, e3, l3, hb3⟩ := h2
          exact rstoreS rfl rfl e3 h1 (by simp [Value.oneCell']) sz67 hb3 rfl ⟨_, e3, l3, blk_stored (cs := (opc (go_ os k) (D k.toNat) (C k.toNat))) 0 _ [.int .i64 0, .int .i64 0, .int .i64 0, .slice none 0 0, .int .i64 0, .int .i64 0, .int .i64 0, .int .i64 0, .int .i64 0, .int .i64 0, .string ⟨#[]⟩, .string ⟨#[]⟩] hb3 (of_decide_eq_true rfl)⟩ ⟨fun h => below_cells h l3, trivial⟩
        clear s4 s79 s80 s81 s82
        clear hN hD
        rintro a23 w23 hN hD ⟨⟨g8, s8, lg8, HBX8⟩, s4, s79, s80, s81, hGR, -⟩
        replace lg8 := Nat.le_trans HB.size lg8
        replace HB := below_step HB hGR
        replace HBK := HBK.stepW hGR
        clear hGR
        show Code.wp _ _ _ _ _
        refine wp_seq ?_
        have hf := iOp_fine (iBad_ok (hst k hk0 hk2).1)
        have hdl := hf.vec.1
        refine deedL [.eq 85 (.pointer (some ⟨g8, 3, none⟩)), .eq 86 (.pointer (some ⟨g8, 3, none⟩)), .eq 87 (.slice (D k.toNat) ((go_ os k).deps.length) (C k.toNat)), .eq 88 (.int .i64 ((go_ os k).deps.length)), .eq 89 (.int .i64 0), .eq 4 (.pointer (some ⟨g15, 0, none⟩)), .eq 8 (.pointer (some ⟨g8, 0, none⟩)), .eq 79 (.slice A os.length c), .eq 80 (.int .i64 (os.length : Int)), .eq 81 (.int .i64 k), .w (Below w23.heap.size w23)] 127 [[6], [0], [1, 10], [2], []] [] [2, 3, 4, 5, 6, 7, 8, 9, 10] hM hN hD (by kernel_rfl) ⟨s4, s8, s79, s80, s81, ⟨Below.refl _ _, below_drew (Below.refl _ _)⟩, trivial⟩ ⟨fun _ _ hb h => below_step h hb, trivial⟩ (fun hgrow => ⟨fun _ _ h => rv rfl (x_field rfl h.1 Try.underlying67 rfl sz41 (by decide) rfl) rfl,
          fun _ _ h => rv rfl (x_field rfl h.1 Try.underlying41 rfl sz24 (by decide) rfl) rfl,
          fun _ _ h => rv rfl (x_load1 rfl h.1 Try.underlying24 rfl (blk_one (L := opc (go_ os k) (D k.toNat) (C k.toNat)) (blk_below HBX8 h.2.1) 3 rfl)) rfl,
          fun _ _ h => rv rfl (x_len_slice rfl Try.underlying24 h.1) rfl,
          fun _ _ _ => rv rfl (x_move rfl rfl) rfl, trivial⟩) ?_
        clear s4 s79 s80 s81 s8
        clear hN hD
        rintro a24 w24 hN hD ⟨s87, s88, s89, s4, s8, s79, s80, s81, hGR, -⟩
        replace HB := below_step HB hGR
        replace HBK := HBK.stepW hGR
        replace HBX8 := blk_below HBX8 hGR
        clear hGR
        show Code.wp _ _ _ _ _
        refine wp_block ?_
        refine wp_loopN (fun n_ q_ w_ => ∃ (b : Int), (q_.tmps.size = 127) ∧ (q_.defers = []) ∧ (sl q_ 4 = .pointer (some ⟨g15, 0, none⟩)) ∧ (sl q_ 8 = .pointer (some ⟨g8, 0, none⟩)) ∧ (sl q_ 79 = .slice A os.length c) ∧ (sl q_ 80 = .int .i64 (os.length : Int)) ∧ (sl q_ 81 = .int .i64 k) ∧ (sl q_ 87 = .slice (D k.toNat) ((go_ os k).deps.length) (C k.toNat)) ∧ (sl q_ 88 = .int .i64 ((go_ os k).deps.length)) ∧ (sl q_ 89 = .int .i64 b) ∧ (Below w.heap.size w w_) ∧ (BookAt w (okW w w_) w_ g15 vs (bk (los os D C os.length))) ∧ (w_.heap[g8]? = some (.cells (opc (go_ os k) (D k.toNat) (C k.toNat)).toArray 67 (0, 0))) ∧ (0 ≤ b) ∧ (b ≤ 16) ∧ (∀ j : Int, 0 ≤ j → j < b → depBad os k j = false) ∧ (n_ = (16 - b).toNat)) ((fun (b : Int) => (16 - b).toNat) 0) ?_ ?_
        · exact ⟨0, hN, hD, s4, s8, s79, s80, s81, s87, s88, s89, HB, HBK, HBX8, (by omega), (by omega), (by intro j u v; omega), rfl⟩
        clear s4 s8 s79 s80 s81 s87 s88 s89 HB HBK HBX8 hN hD
        rintro n_25 a25 w25 ⟨b, hN, hD, s4, s8, s79, s80, s81, s87, s88, s89, HB, HBK, HBX8, hb0, hb1, hb, hmeas⟩
        refine wp_seq ?_
        refine deedL [.eq 90 (.bool (decide (b < (go_ os k).deps.length))), .eq 4 (.pointer (some ⟨g15, 0, none⟩)), .eq 8 (.pointer (some ⟨g8, 0, none⟩)), .eq 79 (.slice A os.length c), .eq 80 (.int .i64 (os.length : Int)), .eq 81 (.int .i64 k), .eq 87 (.slice (D k.toNat) ((go_ os k).deps.length) (C k.toNat)), .eq 88 (.int .i64 ((go_ os k).deps.length)), .eq 89 (.int .i64 b), .w (Below w25.heap.size w25)] 127 [[8, 7]] [] [0, 1, 2, 3, 4, 5, 6, 7, 8, 9] hM hN hD (by kernel_rfl) ⟨s4, s8, s79, s80, s81, s87, s88, s89, ⟨Below.refl _ _, below_drew (Below.refl _ _)⟩, trivial⟩ ⟨fun _ _ hb h => below_step h hb, trivial⟩ (fun hgrow => ⟨fun _ _ h => rv rfl (x_lss rfl h.1 h.2.1) rfl, trivial⟩) ?_
        clear s4 s8 s79 s80 s81 s87 s88 s89
        clear hN hD
        rintro a26 w26 hN hD ⟨s90, s4, s8, s79, s80, s81, s87, s88, s89, hGR, -⟩
        replace HB := below_step HB hGR
        replace HBK := HBK.stepW hGR
        replace HBX8 := blk_below HBX8 hGR
        clear hGR
        show Code.wp _ _ _ _ _
        refine wp_seq ?_
        refine wp_cond (t := decide (b < (go_ os k).deps.length)) s90 ?_
        rcases Bool.eq_false_or_eq_true (decide (b < (go_ os k).deps.length)) with cd27 | cd27
        · rw [cd27]
          show Code.wp _ _ _ _ _
          have pd27 := of_decide_eq_true cd27
          refine wp_skip ?_
          show Code.wp _ _ _ _ _
          refine wp_seq ?_
          refine wp_block ?_
          refine wp_seq ?_
          refine deedL [.eq 91 (.int .i64 b), .eq 92 (.pointer (some ((adr (D k.toNat)).add (b.toNat * 1)))), .eq 93 (.int .i64 (gi ((go_ os k).deps) b)), .eq 9 (.int .i64 b), .eq 10 (.int .i64 (gi ((go_ os k).deps) b)), .eq 4 (.pointer (some ⟨g15, 0, none⟩)), .eq 8 (.pointer (some ⟨g8, 0, none⟩)), .eq 79 (.slice A os.length c), .eq 80 (.int .i64 (os.length : Int)), .eq 81 (.int .i64 k), .eq 87 (.slice (D k.toNat) ((go_ os k).deps.length) (C k.toNat)), .eq 88 (.int .i64 ((go_ os k).deps.length)), .eq 89 (.int .i64 b), .w (Below w26.heap.size w26)] 127 [[12], [10, 12], [1, 13], [0], [2]] [] [3, 4, 5, 6, 7, 8, 9, 10, 11, 12, 13] hM hN hD (by kernel_rfl) ⟨s4, s8, s79, s80, s81, s87, s88, s89, ⟨Below.refl _ _, below_drew (Below.refl _ _)⟩, trivial⟩ ⟨fun _ _ hb h => below_step h hb, trivial⟩ (fun hgrow => ⟨fun _ _ h => rv rfl (x_move rfl h.1) rfl,
            fun _ _ h => rv rfl (x_index_at rfl h.1 h.2.1 Try.underlying24 sz3 (by omega) (by omega) (RI.ad (RO.deps HR (by omega) (by omega)) b (by omega) (by omega))) rfl,
            fun _ _ h => rv rfl (x_load1 rfl h.1 Try.underlying3 rfl (RI.at_ (RO.deps HR (by omega) (by omega)) (below_step HB h.2.1) (by omega) (by omega))) rfl,
            fun _ _ h => rv rfl (x_assign rfl h.1) rfl,
            fun _ _ h => rv rfl (x_assign rfl h.1) rfl, trivial⟩) ?_
          clear s4 s8 s79 s80 s81 s87 s88 s89 s90
          clear hN hD
          rintro a28 w28 hN hD ⟨s9, s10, s4, s8, s79, s80, s81, s87, s88, s89, hGR, -⟩
          replace HB := below_step HB hGR
          replace HBK := HBK.stepW hGR
          replace HBX8 := blk_below HBX8 hGR
          clear hGR
          show Code.wp _ _ _ _ _
          refine wp_seq ?_
          have hnl := num_le os b
          have hnum : num (os.take os.length) b = num os b := by rw [List.take_length]
          refine deedL (.eq 94 (.int .i64 (gi ((go_ os k).deps) b)) :: .eq 95 (.pointer (some ⟨g15, 0, none⟩)) :: .eq 96 (.int .i64 b) :: .eq 97 (.pointer (some ⟨g15, 0, none⟩)) :: .eq 98 (.pointer (some ⟨g15, 0, none⟩)) :: .eq 99 (.pointer (some ⟨g15, b.toNat, none⟩)) :: .eq 100 (vs.getD b.toNat undef) :: .eq 101 (.int .i64 (num os b)) :: .eq 102 (.bool (decide (num os b < gi ((go_ os k).deps) b))) :: .eq 103 (.bool (decide (num os b < gi ((go_ os k).deps) b))) :: .gv (((decide (num os b < gi ((go_ os k).deps) b)) == false)) 104 (.int .i64 (gi ((go_ os k).deps) b)) :: .gv (((decide (num os b < gi ((go_ os k).deps) b)) == false)) 105 (.bool (decide (0 < gi ((go_ os k).deps) b))) :: .gv (((decide (num os b < gi ((go_ os k).deps) b)) == false)) 106 (.bool (decide (0 < gi ((go_ os k).deps) b))) :: .gv (((decide (num os b < gi ((go_ os k).deps) b)) == false) && ((decide (0 < gi ((go_ os k).deps) b)) == true)) 107 (.pointer (some ⟨g15, 0, none⟩)) :: .gv (((decide (num os b < gi ((go_ os k).deps) b)) == false) && ((decide (0 < gi ((go_ os k).deps) b)) == true)) 108 (.int .i64 b) :: .gv (((decide (num os b < gi ((go_ os k).deps) b)) == false) && ((decide (0 < gi ((go_ os k).deps) b)) == true)) 109 (.pointer (some ⟨g15, 0, none⟩)) :: .gv (((decide (num os b < gi ((go_ os k).deps) b)) == false) && ((decide (0 < gi ((go_ os k).deps) b)) == true)) 110 (.pointer (some ⟨g15, 0, none⟩)) :: .gv (((decide (num os b < gi ((go_ os k).deps) b)) == false) && ((decide (0 < gi ((go_ os k).deps) b)) == true)) 111 (.pointer (some ⟨g15, b.toNat, none⟩)) :: .gv (((decide (num os b < gi ((go_ os k).deps) b)) == false) && ((decide (0 < gi ((go_ os k).deps) b)) == true)) 112 (vs.getD b.toNat undef) :: .gv (((decide (num os b < gi ((go_ os k).deps) b)) == false) && ((decide (0 < gi ((go_ os k).deps) b)) == true)) 113 (.int .i64 (gi ((go_ os k).deps) b)) :: .gv (((decide (num os b < gi ((go_ os k).deps) b)) == false) && ((decide (0 < gi ((go_ os k).deps) b)) == true)) 114 (.int .i64 ((gi ((go_ os k).deps) b) - 1)) :: .gv (((decide (num os b < gi ((go_ os k).deps) b)) == false) && ((decide (0 < gi ((go_ os k).deps) b)) == true)) 115 (.pointer (some ((vadr (vs.getD b.toNat undef)).add ((gi (go_ os k).deps b - 1).toNat * 12)))) :: .gv (((decide (num os b < gi ((go_ os k).deps) b)) == false) && ((decide (0 < gi ((go_ os k).deps) b)) == true)) 116 (.agg (opc ((lnth os D C b (gi (go_ os k).deps b)).o) ((lnth os D C b (gi (go_ os k).deps b)).A) ((lnth os D C b (gi (go_ os k).deps b)).c)).toArray) :: .gv (((decide (num os b < gi ((go_ os k).deps) b)) == false) && ((decide (0 < gi ((go_ os k).deps) b)) == true)) 117 (.agg #[Value.int .i64 (((lnth os D C b (gi (go_ os k).deps b)).o).time), Value.int .i64 (((lnth os D C b (gi (go_ os k).deps b)).o).actor)]) :: .gv (((decide (num os b < gi ((go_ os k).deps) b)) == false) && ((decide (0 < gi ((go_ os k).deps) b)) == true)) 118 (.agg (opc (go_ os k) (D k.toNat) (C k.toNat)).toArray) :: .gv (((decide (num os b < gi ((go_ os k).deps) b)) == false) && ((decide (0 < gi ((go_ os k).deps) b)) == true)) 119 (.agg #[Value.int .i64 ((go_ os k).time), Value.int .i64 ((go_ os k).actor)]) :: .gv (((decide (num os b < gi ((go_ os k).deps) b)) == false) && ((decide (0 < gi ((go_ os k).deps) b)) == true)) 120 (.bool (less (((lnth os D C b (gi (go_ os k).deps b)).o).time, ((lnth os D C b (gi (go_ os k).deps b)).o).actor) ((go_ os k).time, (go_ os k).actor))) :: .gv (((decide (num os b < gi ((go_ os k).deps) b)) == false) && ((decide (0 < gi ((go_ os k).deps) b)) == true)) 121 (.bool (!(less (((lnth os D C b (gi (go_ os k).deps b)).o).time, ((lnth os D C b (gi (go_ os k).deps b)).o).actor) ((go_ os k).time, (go_ os k).actor)))) :: .gv (((decide (num os b < gi ((go_ os k).deps) b)) == false)) 122 (.bool ((decide (0 < gi ((go_ os k).deps) b)) && (!(less (((lnth os D C b (gi (go_ os k).deps b)).o).time, ((lnth os D C b (gi (go_ os k).deps b)).o).actor) ((go_ os k).time, (go_ os k).actor))))) :: .eq 123 (.bool ((decide (num os b < gi ((go_ os k).deps) b)) || ((decide (0 < gi ((go_ os k).deps) b)) && (!(less (((lnth os D C b (gi (go_ os k).deps b)).o).time, ((lnth os D C b (gi (go_ os k).deps b)).o).actor) ((go_ os k).time, (go_ os k).actor)))))) :: .eq 4 (.pointer (some ⟨g15, 0, none⟩)) :: .eq 8 (.pointer (some ⟨g8, 0, none⟩)) :: .eq 9 (.int .i64 b) :: .eq 10 (.int .i64 (gi ((go_ os k).deps) b)) :: .eq 79 (.slice A os.length c) :: .eq 80 (.int .i64 (os.length : Int)) :: .eq 81 (.int .i64 k) :: .eq 87 (.slice (D k.toNat) ((go_ os k).deps.length) (C k.toNat)) :: .eq 88 (.int .i64 ((go_ os k).deps.length)) :: .eq 89 (.int .i64 b) :: .w (Below w28.heap.size w28) :: []) 127 ([33] :: [30] :: [32] :: [1] :: [3] :: [4, 2] :: [5, 40] :: [6, 40] :: [0, 7] :: [8] :: [9, 33] :: [9, 10] :: [9, 11] :: [12, 30] :: [12, 32] :: [12, 13] :: [12, 15] :: [12, 16, 14] :: [12, 17, 40] :: [12, 33] :: [12, 19] :: [12, 18, 20, 40] :: [12, 21, 40] :: [12, 22] :: [12, 31, 40] :: [12, 24] :: [12, 23, 25] :: [12, 26] :: [9, 12, 27] :: [9, 28] :: []) [] [29, 30, 31, 32, 33, 34, 35, 36, 37, 38, 39, 40] hM hN hD (by kernel_rfl) ⟨s4, s8, s9, s10, s79, s80, s81, s87, s88, s89, ⟨Below.refl _ _, below_drew (Below.refl _ _)⟩, trivial⟩ ⟨fun _ _ hb h => below_step h hb, trivial⟩ (fun hgrow => ⟨fun _ _ h => rv rfl (x_move rfl h.1) rfl,
            fun _ _ h => rv rfl (x_move rfl h.1) rfl,
            fun _ _ h => rv rfl (x_move rfl h.1) rfl,
            fun _ _ h => rv rfl (x_nil rfl h.1) rfl,
            fun _ _ h => rv rfl (x_field rfl h.1 Try.underlying75 rfl sz72 (by decide) rfl) rfl,
            fun _ _ h => rv rfl (x_index_array rfl h.1 h.2.1 Try.underlying72 sz27 (by omega) (by omega) (by rw [add_mk]; first | rfl | simp)) rfl,
            fun _ _ h => rv rfl (x_load1 rfl h.1 Try.underlying27 rfl ((HBK.stepW h.2.1).cof (by omega))) rfl,
            fun _ _ h => rv rfl (x_len_own rfl Try.underlying27 h.1 ((HBK.stepW h.2.1).ownA (Nat.le_refl _) hac hb0 (by omega)) ((filt_num (Nat.le_refl _) _).trans hnum)) rfl,
            fun _ _ h => rv rfl (x_gtr rfl h.1 h.2.1) rfl,
            fun _ _ h => rv rfl (x_move rfl h.1) rfl,
            fun _ _ h => rb rfl rfl h.1 (fun hgt => x_move rfl h.2.1) (fun _ z => z),
            fun _ _ h => rb rfl rfl h.1 (fun hgt => x_gtr rfl (h.2.1.1 hgt) rfl) (fun _ z => z),
            fun _ _ h => rb rfl rfl h.1 (fun hgt => x_move rfl (h.2.1.1 hgt)) (fun _ z => z),
            fun _ _ h => rg rfl rfl h.1 (fun hgt => x_move rfl h.2.1) (fun _ z => z),
            fun _ _ h => rg rfl rfl h.1 (fun hgt => x_move rfl h.2.1) (fun _ z => z),
            fun _ _ h => rg rfl rfl h.1 (fun hgt => x_nil rfl (h.2.1.1 hgt)) (fun _ z => z),
            fun _ _ h => rg rfl rfl h.1 (fun hgt => x_field rfl (h.2.1.1 hgt) Try.underlying75 rfl sz72 (by decide) rfl) (fun _ z => z),
            fun _ _ h => rg rfl rfl h.1 (fun hgt => x_index_array rfl (h.2.1.1 hgt) (h.2.2.1.1 hgt) Try.underlying72 sz27 (by omega) (by omega) (by rw [add_mk]; first | rfl | simp)) (fun _ z => z),
            fun _ _ h => rg rfl rfl h.1 (fun hgt => x_load1 rfl (h.2.1.1 hgt) Try.underlying27 rfl ((HBK.stepW h.2.2.1).cof (by omega))) (fun _ z => z),
            fun _ _ h => rg rfl rfl h.1 (fun hgt => x_move rfl h.2.1) (fun _ z => z),
            fun _ _ h => rg rfl rfl h.1 (fun hgt => x_sub' rfl (h.2.1.1 hgt) rfl (by simp at hgt; omega)) (fun _ z => z),
            fun _ _ h => rg rfl rfl h.1 (fun hgt => x_index_own rfl (h.2.1.1 hgt) (h.2.2.1.1 hgt) Try.underlying27 sz67 ((HBK.stepW h.2.2.2.1).ownA (Nat.le_refl _) hac hb0 (by omega)) (by simp at hgt; omega) (by simp at hgt; have hq := (filt_num (os := os) (D := D) (C := C) (Nat.le_refl _) b).trans hnum; omega)) (fun _ z => z),
            fun _ _ h => rg rfl rfl h.1 (fun hgt => x_loadS rfl (h.2.1.1 hgt) Try.underlying67 (opc ((lnth os D C b (gi (go_ os k).deps b)).o) ((lnth os D C b (gi (go_ os k).deps b)).A) ((lnth os D C b (gi (go_ os k).deps b)).c)) sz67 (lo_cells ((HBK.stepW h.2.2.1).ownA (Nat.le_refl _) hac hb0 (by omega)) (by simp at hgt; omega) (by simp at hgt; have hq := (filt_num (os := os) (D := D) (C := C) (Nat.le_refl _) b).trans hnum; omega) rfl)) (fun _ z => z),
            fun _ _ h => rcg hgrow rfl rfl h.1 Try.func95 (by kernel_rfl) rfl rfl (fun hgt => args1 (h.2.1.1 hgt)) (fun hgt => stamp_calls ((lnth os D C b (gi (go_ os k).deps b)).o) ((lnth os D C b (gi (go_ os k).deps b)).A) ((lnth os D C b (gi (go_ os k).deps b)).c) _) (fun _ _ _ h => h) (fun _ _ z => z),
            fun _ _ h => rg rfl rfl h.1 (fun hgt => x_loadS rfl h.2.1 Try.underlying67 (opc (go_ os k) (D k.toNat) (C k.toNat)) sz67 (blk_list (L := opc (go_ os k) (D k.toNat) (C k.toNat)) (blk_below HBX8 h.2.2.1) 0 rfl)) (fun _ z => z),
            fun _ _ h => rcg hgrow rfl rfl h.1 Try.func95 (by kernel_rfl) rfl rfl (fun hgt => args1 (h.2.1.1 hgt)) (fun hgt => stamp_calls (go_ os k) (D k.toNat) (C k.toNat) _) (fun _ _ _ h => h) (fun _ _ z => z),
            fun _ _ h => rcg hgrow rfl rfl h.1 Try.func94 (by kernel_rfl) rfl rfl (fun hgt => args2 (h.2.1.1 hgt) (h.2.2.1.1 hgt)) (fun hgt => less_calls (((lnth os D C b (gi (go_ os k).deps b)).o).time, ((lnth os D C b (gi (go_ os k).deps b)).o).actor) ((go_ os k).time, (go_ os k).actor) _) (fun _ _ _ h => h) (fun _ _ z => z),
            fun _ _ h => rg rfl rfl h.1 (fun hgt => x_not rfl (h.2.1.1 hgt)) (fun _ z => z),
            fun _ _ h => rb rfl rfl h.1 (fun hgt => x_and rfl rfl (h.2.1.1 hgt) (fun hc => h.2.2.1.1 (Bool.and_eq_true _ _ ▸ ⟨hgt, beq_iff_eq.2 hc⟩))) (fun _ z => z),
            fun _ _ h => rv rfl (x_or rfl rfl h.1 (fun hc => h.2.1.1 (beq_iff_eq.2 hc))) rfl, trivial⟩) ?_
          clear s4 s8 s79 s80 s81 s87 s88 s89 s9 s10
          clear hN hD
          rintro a29 w29 hN hD ⟨s123, s4, s8, s9, s10, s79, s80, s81, s87, s88, s89, hGR, -⟩
          replace HB := below_step HB hGR
          replace HBK := HBK.stepW hGR
          replace HBX8 := blk_below HBX8 hGR
          clear hGR
          show Code.wp _ _ _ _ _
          refine wp_cond (t := (decide (num os b < gi ((go_ os k).deps) b)) || ((decide (0 < gi ((go_ os k).deps) b)) && (!(less (((lnth os D C b (gi (go_ os k).deps b)).o).time, ((lnth os D C b (gi (go_ os k).deps b)).o).actor) ((go_ os k).time, (go_ os k).actor))))) s123 ?_
          rcases Bool.eq_false_or_eq_true ((decide (num os b < gi ((go_ os k).deps) b)) || ((decide (0 < gi ((go_ os k).deps) b)) && (!(less (((lnth os D C b (gi (go_ os k).deps b)).o).time, ((lnth os D C b (gi (go_ os k).deps b)).o).actor) ((go_ os k).time, (go_ os k).actor))))) with cd30 | cd30
          · rw [cd30]
            show Code.wp _ _ _ _ _
            have hs : depBad os k b = true := by unfold depBad; rw [← lnth_o os D C]; exact cd30
            refine wp_seq ?_
            refine deedL [.eq 2 (.pointer none), .eq 3 (.bool false), .w (Below w29.heap.size w29)] 127 [[], []] [] [0, 1, 2] hM hN hD (by kernel_rfl) ⟨⟨Below.refl _ _, below_drew (Below.refl _ _)⟩, trivial⟩ ⟨fun _ _ hb h => below_step h hb, trivial⟩ (fun hgrow => ⟨fun _ _ _ => rv rfl (x_assign rfl rfl) rfl,
              fun _ _ _ => rv rfl (x_assign rfl rfl) rfl, trivial⟩) ?_
            clear s4 s8 s9 s10 s79 s80 s81 s87 s88 s89 s123
            clear hN hD
            rintro a31 w31 hN hD ⟨s2, s3, hGR, -⟩
            replace HB := below_step HB hGR
            replace HBK := HBK.stepW hGR
            replace HBX8 := blk_below HBX8 hGR
            clear hGR
            show Code.wp _ _ _ _ _
            refine wp_ret (blk_ret (then_ret (then_ret (blk_ret (blk_ret (then_ret (then_ret (blk_ret (then_ret ?_)))))))))
            refine bodyPost_ret (fn := Try.f50) (results_list (rs := [.tmp 2, .tmp 3]) (vs := [.pointer none, .bool false]) rfl (by simp) (vtmp s2 (vtmp s3 .nil))) hD ?_
            rw [iLogOK_false (fun h => by have := h.2.2 k b hk0 hk2 hb0 (by omega); rw [hs] at this; cases this)]
            exact ⟨_, rfl, fun h => (by cases h), HB⟩
          · rw [cd30]
            show Code.wp _ _ _ _ _
            have hs : depBad os k b = false := by unfold depBad; rw [← lnth_o os D C]; exact cd30
            refine wp_skip ?_
            show Code.wp _ _ _ _ _
            refine deedL [.eq 124 (.int .i64 (b + 1)), .eq 89 (.int .i64 (b + 1)), .eq 4 (.pointer (some ⟨g15, 0, none⟩)), .eq 8 (.pointer (some ⟨g8, 0, none⟩)), .eq 79 (.slice A os.length c), .eq 80 (.int .i64 (os.length : Int)), .eq 81 (.int .i64 k), .eq 87 (.slice (D k.toNat) ((go_ os k).deps.length) (C k.toNat)), .eq 88 (.int .i64 ((go_ os k).deps.length)), .eq 89 (.int .i64 b), .w (Below w29.heap.size w29)] 127 [[9], [0]] [[], [9]] [1, 2, 3, 4, 5, 6, 7, 8, 10] hM hN hD (by kernel_rfl) ⟨s4, s8, s79, s80, s81, s87, s88, s89, ⟨Below.refl _ _, below_drew (Below.refl _ _)⟩, trivial⟩ ⟨fun _ _ hb h => below_step h hb, trivial⟩ (fun hgrow => ⟨fun _ _ h => rv rfl (x_add' rfl h.1 rfl (by omega)) rfl,
              fun _ _ h => rv rfl (x_move rfl h.1) rfl, trivial⟩) ?_
            clear s4 s8 s9 s10 s79 s80 s81 s87 s88 s89 s123
            clear hN hD
            rintro a32 w32 hN hD ⟨s89, s4, s8, s79, s80, s81, s87, s88, hGR, -⟩
            replace HB := below_step HB hGR
            replace HBK := HBK.stepW hGR
            replace HBX8 := blk_below HBX8 hGR
            clear hGR
            show ∃ m, m < n_25 ∧ _
            exact ⟨_, (by omega), ⟨(b + 1), hN, hD, s4, s8, s79, s80, s81, s87, s88, s89, HB, HBK, HBX8, (by omega), (by omega), (by intro j u v; by_cases e : j = b; (subst e; exact hs); exact hb j u (by omega)), rfl⟩⟩
        · rw [cd27]
          show Code.wp _ _ _ _ _
          have pd27 := of_decide_eq_false cd27
          refine wp_exit (then_exit (then_exit (at_exit ?_)))
          show Code.wp _ _ _ _ _
          refine deedL [.eq 125 (.int .i64 (k + 1)), .eq 81 (.int .i64 (k + 1)), .eq 4 (.pointer (some ⟨g15, 0, none⟩)), .eq 79 (.slice A os.length c), .eq 80 (.int .i64 (os.length : Int)), .eq 81 (.int .i64 k), .w (Below w26.heap.size w26)] 127 [[5], [0]] [[], [5]] [1, 2, 3, 4, 6] hM hN hD (by kernel_rfl) ⟨s4, s79, s80, s81, ⟨Below.refl _ _, below_drew (Below.refl _ _)⟩, trivial⟩ ⟨fun _ _ hb h => below_step h hb, trivial⟩ (fun hgrow => ⟨fun _ _ h => rv rfl (x_add' rfl h.1 rfl (by omega)) rfl,
            fun _ _ h => rv rfl (x_move rfl h.1) rfl, trivial⟩) ?_
          clear s4 s8 s79 s80 s81 s87 s88 s89 s90
          clear hN hD
          rintro a33 w33 hN hD ⟨s81, s4, s79, s80, hGR, -⟩
          replace HB := below_step HB hGR
          replace HBK := HBK.stepW hGR
          replace HBX8 := blk_below HBX8 hGR
          clear hGR
          show ∃ m, m < n_20 ∧ _
          exact ⟨_, (by omega), ⟨(k + 1), hN, hD, s4, s79, s80, s81, HB, HBK, (by omega), (by omega), (by intro j b2 u v u2 v2; by_cases e : j = k; (subst e; exact hb b2 u2 (by omega)); exact hk j b2 u (by omega) u2 v2), rfl⟩⟩
      · rw [cd22]
        show Code.wp _ _ _ _ _
        have pd22 := of_decide_eq_false cd22
        refine wp_exit (then_exit (then_exit (at_exit ?_)))
        show Code.wp _ _ _ _ _
        refine wp_seq ?_
        refine deedL [.eq 126 (.pointer (some ⟨g15, 0, none⟩)), .eq 2 (.pointer (some ⟨g15, 0, none⟩)), .eq 3 (.bool true), .eq 4 (.pointer (some ⟨g15, 0, none⟩)), .w (Below w21.heap.size w21)] 127 [[3], [0], []] [] [1, 2, 3, 4] hM hN hD (by kernel_rfl) ⟨s4, ⟨Below.refl _ _, below_drew (Below.refl _ _)⟩, trivial⟩ ⟨fun _ _ hb h => below_step h hb, trivial⟩ (fun hgrow => ⟨fun _ _ h => rv rfl (x_move rfl h.1) rfl,
          fun _ _ h => rv rfl (x_assign rfl h.1) rfl,
          fun _ _ _ => rv rfl (x_assign rfl rfl) rfl, trivial⟩) ?_
        clear s4 s79 s80 s81 s82
        clear hN hD
        rintro a34 w34 hN hD ⟨s2, s3, s4, hGR, -⟩
        replace HB := below_step HB hGR
        replace HBK := HBK.stepW hGR
        clear hGR
        show Code.wp _ _ _ _ _
        refine wp_ret ?_
        refine bodyPost_ret (fn := Try.f50) (results_list (rs := [.tmp 2, .tmp 3]) (vs := [.pointer (some ⟨g15, 0, none⟩), .bool true]) rfl (by simp) (vtmp s2 (vtmp s3 .nil))) hD ?_
        rw [iLogOK_true ⟨by omega, hst, fun j b u v => hk j b u (by omega)⟩]
        exact ⟨_, rfl, fun _ => ⟨g15, vs, rfl, HBK⟩, HB⟩
end Go.Proofs.Ytideafkiaipnoaa.Q
