/- Functions walked. -/
import Derived.Test.YtideafkiaipnoaaReadBook
import Derived.Test.YtideafkiaipnoaaSDoc
namespace Go.Proofs.Ytideafkiaipnoaa.Q
open Go Go.RowKit Go.Proofs.YtideafkiaipnoaaW.PrintWords Go.Proofs.YtideafkiaipnoaaW.PrintLast Go.Proofs.Ytideafkiaipnoaa.Deed
set_option maxRecDepth 100000
theorem bkstep {p : Prop} {w W W' : World} {pv : Value} {B : Bk} (h : p → ∃ w9 g vs, pv = .pointer (some ⟨g, 0, none⟩) ∧ Below w.heap.size w w9 ∧ BookAt w9 (okW w9 W) W g vs B) (hb : Below W.heap.size W W') : p → ∃ w9 g vs, pv = .pointer (some ⟨g, 0, none⟩) ∧ Below w.heap.size w w9 ∧ BookAt w9 (okW w9 W') W' g vs B := by
  intro hp
  obtain ⟨w9, g, vs, u1, u2, u3⟩ := h hp
  exact ⟨w9, g, vs, u1, u2, u3.stepW hb⟩
noncomputable def iPick (os : List Op) (j : Int) : Bool := gi (tf thing os) j != 0
noncomputable def iObjs (os : List Op) : List Int := if iLogOK os = true then upto (iPick os) 101 else []
set_option maxHeartbeats 2000000 in
theorem iDoc_calls (A : Option Addr) (os : List Op) (D : Nat → Option Addr) (C : Nat → Nat) (c : Nat) (w : World) (HR : RO w A os D C) : Calls Try.prog 15 #[.slice A os.length c] w fun e w' => ∃ v, e = .returned (.tuple #[v, .int .i64 (if iLogOK os = true then 0 else 1)]) ∧ OwnRow R1 3 1 w' 0 v (iObjs os) ∧ Above w.heap.size v ∧ Below w.heap.size w w' := by
  refine calls_of_wp Try.func15 rfl ?_
  refine enter_ (N := 32) rfl ?_
  rintro a0 hN hD ⟨s0, -⟩
  have HB : Below w.heap.size w w := Below.refl _ _
  refine wp_seq ?_
  refine deedL [.eq 2 (.slice none 0 0), .eq 3 (.int .i64 0), .eq 0 (.slice A os.length c), .w (Below w.heap.size w)] 32 [[], []] [] [2, 3] hM hN hD (by kernel_rfl) ⟨s0, ⟨Below.refl _ _, below_drew (Below.refl _ _)⟩, trivial⟩ ⟨fun _ _ hb h => below_step h hb, trivial⟩ (fun hgrow => ⟨fun _ _ _ => rv rfl (x_assign rfl rfl) rfl,
    fun _ _ _ => rv rfl (x_assign rfl rfl) rfl, trivial⟩) ?_
  clear s0
  clear hN hD
  rintro a1 w1 hN hD ⟨s0, hGR, -⟩
  replace HB := below_step HB hGR
  clear hGR
  show Code.wp _ _ _ _ _
  refine wp_seq ?_
  refine deedL [.eq 10 (.slice A os.length c), .s1 11 fun x_ W => ∃ (pb1 : Value), x_ = .tuple #[pb1, .bool (iLogOK os)] ∧ (iLogOK os = true → ∃ w9 g vs, pb1 = .pointer (some ⟨g, 0, none⟩) ∧ Below w.heap.size w w9 ∧ BookAt w9 (okW w9 W) W g vs (bk (los os D C os.length))), .s2 11 9 fun x_ y_ _ => ∃ (pb1 : Value), x_ = .tuple #[pb1, .bool (iLogOK os)] ∧ y_ = .tuple #[pb1, .bool (iLogOK os)], .s2 11 12 fun x_ y_ _ => ∃ (pb1 : Value), x_ = .tuple #[pb1, .bool (iLogOK os)] ∧ y_ = pb1, .eq 13 (.bool (iLogOK os)), .s2 11 4 fun x_ y_ _ => ∃ (pb1 : Value), x_ = .tuple #[pb1, .bool (iLogOK os)] ∧ y_ = pb1, .eq 5 (.bool (iLogOK os)), .eq 0 (.slice A os.length c), .w (Below w1.heap.size w1)] 32 [[7], [0, 8], [1], [2], [2], [3], [4]] [] [6, 1, 5, 7, 8] hM hN hD (by kernel_rfl) ⟨s0, ⟨Below.refl _ _, below_drew (Below.refl _ _)⟩, trivial⟩ ⟨fun _ _ _ hb h => by obtain ⟨pb1, e_, z0⟩ := h; exact ⟨_, e_, bkstep z0 hb⟩, fun _ _ _ _ hb h => h, fun _ _ _ _ hb h => h, fun _ _ _ _ hb h => h, fun _ _ hb h => below_step h hb, trivial⟩ (fun hgrow => ⟨fun _ _ h => rv rfl (x_move rfl h.1) rfl,
    fun _ _ h => rc hgrow rfl Try.func50 (by kernel_rfl) rfl rfl (args1 h.1) (read_calls A os D C c _ (RO.below HR (below_step HB h.2.1))) (fun _ _ hR => by obtain ⟨pb1, e_, hbk_, hb⟩ := hR; exact ⟨_, e_, hb, pb1, rfl, (fun u => by obtain ⟨g, vs, u1, u2⟩ := hbk_ u; exact ⟨_, g, vs, u1, (below_step HB h.2.1), u2⟩)⟩),
    ?_,
    ?_,
    ?_,
    ?_,
    fun _ _ h => rv rfl (x_assign rfl h.1) rfl, trivial⟩) ?_
  · rintro a_ W ⟨h1, -⟩
    obtain ⟨pb1, e1, HRB1⟩ := h1
    exact rv rfl (x_move rfl e1) ⟨_, e1, rfl⟩
  · rintro a_ W ⟨h2, -⟩
    obtain ⟨pb1, r2, e2⟩ := h2
    exact rv rfl (x_extract rfl e2 rfl) ⟨_, r2, rfl⟩
  · rintro a_ W ⟨h2, -⟩
    obtain ⟨pb1, r2, e2⟩ := h2
    exact rv rfl (x_extract rfl e2 rfl) rfl
  · rintro a_ W ⟨h3, -⟩
    obtain ⟨pb1, r3, e3⟩ := h3
    exact rv rfl (x_assign rfl e3) ⟨_, r3, rfl⟩
  clear s0
  clear hN hD
  rintro a2 w2 hN hD ⟨s5, ⟨pb1, s11, HRB1⟩, q4, s0, hGR, -⟩
  obtain ⟨pb1_, e_, s4⟩ := q4
  cases s11.symm.trans e_
  replace HB := below_step HB hGR
  clear hGR
  show Code.wp _ _ _ _ _
  refine wp_seq ?_
  refine wp_seq ?_
  refine deedL [.eq 14 (.bool (iLogOK os)), .eq 15 (.bool (!(iLogOK os))), .eq 4 pb1, .eq 5 (.bool (iLogOK os)), .w (Below w2.heap.size w2)] 32 [[3], [0]] [] [1, 2, 3, 4] hM hN hD (by kernel_rfl) ⟨s4, s5, ⟨Below.refl _ _, below_drew (Below.refl _ _)⟩, trivial⟩ ⟨fun _ _ hb h => below_step h hb, trivial⟩ (fun hgrow => ⟨fun _ _ h => rv rfl (x_move rfl h.1) rfl,
    fun _ _ h => rv rfl (x_not rfl h.1) rfl, trivial⟩) ?_
  clear s0 s4 s5
  clear hN hD
  rintro a3 w3 hN hD ⟨s15, s4, s5, hGR, -⟩
  replace HB := below_step HB hGR
  replace HRB1 := bkstep HRB1 hGR
  clear hGR
  show Code.wp _ _ _ _ _
  refine wp_cond (t := !(iLogOK os)) s15 ?_
  rcases Bool.eq_false_or_eq_true (!(iLogOK os)) with cd4 | cd4
  · rw [cd4]
    show Code.wp _ _ _ _ _
    have pd4 := cd4
    simp at pd4
    refine wp_seq ?_
    refine deedL [.eq 2 (.slice none 0 0), .eq 3 (.int .i64 1), .w (Below w3.heap.size w3)] 32 [[], []] [] [0, 1, 2] hM hN hD (by kernel_rfl) ⟨⟨Below.refl _ _, below_drew (Below.refl _ _)⟩, trivial⟩ ⟨fun _ _ hb h => below_step h hb, trivial⟩ (fun hgrow => ⟨fun _ _ _ => rv rfl (x_assign rfl rfl) rfl,
      fun _ _ _ => rv rfl (x_assign rfl rfl) rfl, trivial⟩) ?_
    clear s4 s5 s15
    clear hN hD
    rintro a5 w5 hN hD ⟨s2, s3, hGR, -⟩
    replace HB := below_step HB hGR
    replace HRB1 := bkstep HRB1 hGR
    clear hGR
    show Code.wp _ _ _ _ _
    refine wp_ret (then_ret ?_)
    refine bodyPost_ret (fn := Try.f15) (results_list (rs := [.tmp 2, .tmp 3]) (vs := [.slice none 0 0, .int .i64 1]) rfl (by simp) (vtmp s2 (vtmp s3 .nil))) hD ?_
    have hF : iLogOK os = false := by simpa using cd4
    rw [hF]
    exact ⟨.slice none 0 0, rfl, by unfold iObjs; rw [hF]; exact OwnRow.none_ _ _ _ _ _, Above.nil _, HB⟩
  · rw [cd4]
    show Code.wp _ _ _ _ _
    have pd4 := cd4
    simp at pd4
    have hT : iLogOK os = true := by simpa using cd4
    obtain ⟨w9, g, vs1, rfl, HB9, HBK1⟩ := HRB1 hT
    refine wp_skip ?_
    show Code.wp _ _ _ _ _
    refine wp_seq ?_
    refine deedL [.eq 6 (.slice none 0 0), .eq 4 (.pointer (some ⟨g, 0, none⟩)), .w (Below w3.heap.size w3)] 32 [[]] [] [0, 1, 2] hM hN hD (by kernel_rfl) ⟨s4, ⟨Below.refl _ _, below_drew (Below.refl _ _)⟩, trivial⟩ ⟨fun _ _ hb h => below_step h hb, trivial⟩ (fun hgrow => ⟨fun _ _ _ => rv rfl (x_assign rfl rfl) rfl, trivial⟩) ?_
    clear s4 s5 s15
    clear hN hD
    rintro a6 w6 hN hD ⟨s6, s4, hGR, -⟩
    replace HB := below_step HB hGR
    replace HBK1 := HBK1.stepW hGR
    clear hGR
    show Code.wp _ _ _ _ _
    refine wp_seq ?_
    refine wp_seq ?_
    have hkl := HBK1.lkind
    have hkk : (bk (los os D C os.length)).kind = tf thing os := by rw [bk_kind, los_ops (Nat.le_refl _), List.take_length]
    refine deedL [.eq 16 (.pointer (some ⟨g, 0, none⟩)), .eq 17 (.pointer (some ⟨g, 0, none⟩)), .eq 18 (.pointer (some ⟨g, 16, none⟩)), .eq 19 (.agg ((bk (los os D C os.length)).kind.map (Value.int .i64)).toArray), .eq 20 (.int .i64 0), .eq 4 (.pointer (some ⟨g, 0, none⟩)), .eq 6 (.slice none 0 0), .w (Below w6.heap.size w6)] 32 [[5], [0], [1], [2, 7], []] [] [3, 4, 5, 6, 7] hM hN hD (by kernel_rfl) ⟨s4, s6, ⟨Below.refl _ _, below_drew (Below.refl _ _)⟩, trivial⟩ ⟨fun _ _ hb h => below_step h hb, trivial⟩ (fun hgrow => ⟨fun _ _ h => rv rfl (x_move rfl h.1) rfl,
      fun _ _ h => rv rfl (x_nil rfl h.1) rfl,
      fun _ _ h => rv rfl (x_field rfl h.1 Try.underlying75 rfl sz73 (by decide) rfl) rfl,
      fun _ _ h => rv rfl (x_loadA rfl h.1 Try.underlying73 ((bk (los os D C os.length)).kind.map (Value.int .i64)) (by rw [List.length_map, hkl]; exact sz73) ((HBK1.stepW h.2.1).kinds)) rfl,
      fun _ _ _ => rv rfl (x_move rfl rfl) rfl, trivial⟩) ?_
    clear s4 s6
    clear hN hD
    rintro a7 w7 hN hD ⟨s19, s20, s4, s6, hGR, -⟩
    replace HB := below_step HB hGR
    replace HBK1 := HBK1.stepW hGR
    clear hGR
    show Code.wp _ _ _ _ _
    refine wp_block ?_
    refine wp_loopN (fun n_ q_ w_ => ∃ (j : Int) (v : Value), (q_.tmps.size = 32) ∧ (q_.defers = []) ∧ (sl q_ 6 = v) ∧ (sl q_ 19 = .agg ((bk (los os D C os.length)).kind.map (Value.int .i64)).toArray) ∧ (sl q_ 20 = .int .i64 j) ∧ (Below w.heap.size w w_) ∧ (OwnRow R1 3 1 w_ 0 v (upto (iPick os) j.toNat)) ∧ (0 ≤ j) ∧ (j ≤ 101) ∧ (Above w.heap.size v) ∧ (n_ = (101 - j).toNat)) ((fun (j : Int) (v : Value) => (101 - j).toNat) 0 (.slice none 0 0)) ?_ ?_
    · exact ⟨0, (.slice none 0 0), hN, hD, s6, s19, s20, HB, (OwnRow.none_ _ _ _ _ _), (by omega), (by omega), (Above.nil _), rfl⟩
    clear s4 s6 s19 s20 HB hN hD
    rintro n_8 a8 w8 ⟨j, v, hN, hD, s6, s19, s20, HB, HOV, hj0, hj1, bv, hmeas⟩
    have hul := upto_le (iPick os) j.toNat
    refine wp_seq ?_
    refine deedL [.eq 21 (.bool (decide (j < 101))), .eq 6 v, .eq 19 (.agg ((bk (los os D C os.length)).kind.map (Value.int .i64)).toArray), .eq 20 (.int .i64 j), .w (Below w8.heap.size w8)] 32 [[3]] [] [0, 1, 2, 3, 4] hM hN hD (by kernel_rfl) ⟨s6, s19, s20, ⟨Below.refl _ _, below_drew (Below.refl _ _)⟩, trivial⟩ ⟨fun _ _ hb h => below_step h hb, trivial⟩ (fun hgrow => ⟨fun _ _ h => rv rfl (x_lss rfl h.1 rfl) rfl, trivial⟩) ?_
    clear s6 s19 s20
    clear hN hD
    rintro a9 w9 hN hD ⟨s21, s6, s19, s20, hGR, -⟩
    replace HB := below_step HB hGR
    replace HOV := HOV.below hGR
    clear hGR
    show Code.wp _ _ _ _ _
    refine wp_seq ?_
    refine wp_cond (t := decide (j < 101)) s21 ?_
    rcases Bool.eq_false_or_eq_true (decide (j < 101)) with cd10 | cd10
    · rw [cd10]
      show Code.wp _ _ _ _ _
      have pd10 := of_decide_eq_true cd10
      refine wp_skip ?_
      show Code.wp _ _ _ _ _
      refine wp_seq ?_
      refine wp_block ?_
      refine wp_seq ?_
      refine deedL [.eq 22 (.int .i64 j), .eq 23 (.int .i64 (gi ((bk (los os D C os.length)).kind) j)), .eq 7 (.int .i64 j), .eq 8 (.int .i64 (gi ((bk (los os D C os.length)).kind) j)), .eq 6 v, .eq 19 (.agg ((bk (los os D C os.length)).kind.map (Value.int .i64)).toArray), .eq 20 (.int .i64 j), .w (Below w9.heap.size w9)] 32 [[6], [5, 6], [0], [1]] [] [2, 3, 4, 5, 6, 7] hM hN hD (by kernel_rfl) ⟨s6, s19, s20, ⟨Below.refl _ _, below_drew (Below.refl _ _)⟩, trivial⟩ ⟨fun _ _ hb h => below_step h hb, trivial⟩ (fun hgrow => ⟨fun _ _ h => rv rfl (x_move rfl h.1) rfl,
        fun _ _ h => rv rfl (x_indexA rfl h.1 h.2.1 Try.underlying73 sz3 Try.underlying3 hkl (by omega) (by omega)) rfl,
        fun _ _ h => rv rfl (x_assign rfl h.1) rfl,
        fun _ _ h => rv rfl (x_assign rfl h.1) rfl, trivial⟩) ?_
      clear s6 s19 s20 s21
      clear hN hD
      rintro a11 w11 hN hD ⟨s7, s8, s6, s19, s20, hGR, -⟩
      replace HB := below_step HB hGR
      replace HOV := HOV.below hGR
      clear hGR
      show Code.wp _ _ _ _ _
      refine wp_seq ?_
      refine deedL [.eq 24 (.int .i64 (gi ((bk (los os D C os.length)).kind) j)), .eq 25 (.bool ((gi ((bk (los os D C os.length)).kind) j) != 0)), .eq 6 v, .eq 7 (.int .i64 j), .eq 8 (.int .i64 (gi ((bk (los os D C os.length)).kind) j)), .eq 19 (.agg ((bk (los os D C os.length)).kind.map (Value.int .i64)).toArray), .eq 20 (.int .i64 j), .w (Below w11.heap.size w11)] 32 [[4], [0]] [] [1, 2, 3, 4, 5, 6, 7] hM hN hD (by kernel_rfl) ⟨s6, s7, s8, s19, s20, ⟨Below.refl _ _, below_drew (Below.refl _ _)⟩, trivial⟩ ⟨fun _ _ hb h => below_step h hb, trivial⟩ (fun hgrow => ⟨fun _ _ h => rv rfl (x_move rfl h.1) rfl,
        fun _ _ h => rv rfl (x_neq rfl h.1 rfl) rfl, trivial⟩) ?_
      clear s6 s19 s20 s7 s8
      clear hN hD
      rintro a12 w12 hN hD ⟨s25, s6, s7, s8, s19, s20, hGR, -⟩
      replace HB := below_step HB hGR
      replace HOV := HOV.below hGR
      clear hGR
      show Code.wp _ _ _ _ _
      refine wp_cond (t := (gi ((bk (los os D C os.length)).kind) j) != 0) s25 ?_
      rcases Bool.eq_false_or_eq_true ((gi ((bk (los os D C os.length)).kind) j) != 0) with cd13 | cd13
      · rw [cd13]
        show Code.wp _ _ _ _ _
        have pd13 := cd13
        simp at pd13
        have hp := cd13
        refine deedL [.eq 26 v, .eq 27 (.int .i64 j), .s1 28 (NewL [.int .i64 j] 3), .s1 29 fun x_ W => ∃ (v29 : Value), x_ = v29 ∧ OwnRow R1 3 1 W 0 v29 ((upto (iPick os) j.toNat) ++ [j]) ∧ Above w.heap.size v29, .s2 29 6 fun x_ y_ _ => ∃ (v29 : Value), x_ = v29 ∧ y_ = v29, .eq 6 v, .eq 7 (.int .i64 j), .eq 19 (.agg ((bk (los os D C os.length)).kind.map (Value.int .i64)).toArray), .eq 20 (.int .i64 j), .w (Kx (fun k => some k = v.ownBlock) w12), .w fun W => OwnRow R1 3 1 W 0 v (upto (iPick os) j.toNat)] 32 [[5], [6], [1], [0, 2, 9, 10], [3]] [[], [], [], [2, 4, 10], [5]] [3, 4, 6, 7, 8, 9] hM hN hD (by kernel_rfl) ⟨s6, s7, s19, s20, ⟨Kx.refl _ _, Kx.drew _ _⟩, ⟨HOV, HOV.below (below_drew (Below.refl _ _))⟩, trivial⟩ ⟨fun _ _ _ hb h => h.grow hb, fun _ _ _ hb h => by obtain ⟨v29, e_, h1_, h2_⟩ := h; exact ⟨v29, e_, h1_.below hb, h2_⟩, fun _ _ _ _ hb h => h, fun _ _ hb h => h.step hb, fun _ _ hb h => h.below hb, trivial⟩ (fun hgrow => ⟨fun _ _ h => rv rfl (x_move rfl h.1) rfl,
          fun _ _ h => rv rfl (x_move rfl h.1) rfl,
          fun _ _ h => rbuild1 hgrow rfl rfl Try.underlying24 zi3 (by decide) (by decide) h.1 rfl rfl (fun _ _ z => z),
          ?_,
          ?_, trivial⟩) ?_
        · rintro a_ W ⟨h0, h2, h9, h10, -⟩
          exact rappend (R := R1) (p := j) rfl rfl Try.underlying24 inf3 rfl (by decide) (by decide) h0 h2 rfl rfl (by simp [Value.oneCell']) h10 (by omega) bv (Nat.le_trans HB.size h9.size) h9 (fun v1_ _ u_ u2_ u3_ u4_ => owe_keep ⟨fun _ => u3_, trivial⟩ ⟨v1_, rfl, u_, u2_⟩)
        · rintro a_ W ⟨h3, -⟩
          obtain ⟨v29, e3, ho3, hb3⟩ := h3
          exact rv rfl (x_assign rfl e3) ⟨_, e3, rfl⟩
        clear s6 s7 s8 s19 s20 s25
        clear hN hD
        rintro a14 w14 hN hD ⟨⟨v29, s29, HOVN, bv29⟩, q6, s7, s19, s20, hGR, -⟩
        obtain ⟨v29_, e_, s6⟩ := q6
        cases s29.symm.trans e_
        have NB := Kx.below HB hGR HB.size (fun k e => bv k e.symm)
        replace HB := NB
        clear NB
        replace HOV := HOVN
        clear HOVN
        clear hGR
        show Code.wp _ _ _ _ _
        refine deedL [.eq 30 (.int .i64 (j + 1)), .eq 20 (.int .i64 (j + 1)), .eq 6 v29, .eq 19 (.agg ((bk (los os D C os.length)).kind.map (Value.int .i64)).toArray), .eq 20 (.int .i64 j), .w (Below w14.heap.size w14)] 32 [[4], [0]] [[], [4]] [1, 2, 3, 5] hM hN hD (by kernel_rfl) ⟨s6, s19, s20, ⟨Below.refl _ _, below_drew (Below.refl _ _)⟩, trivial⟩ ⟨fun _ _ hb h => below_step h hb, trivial⟩ (fun hgrow => ⟨fun _ _ h => rv rfl (x_add' rfl h.1 rfl (by omega)) rfl,
          fun _ _ h => rv rfl (x_move rfl h.1) rfl, trivial⟩) ?_
        clear s7 s19 s20 s6
        clear hN hD
        rintro a15 w15 hN hD ⟨s20, s6, s19, hGR, -⟩
        replace HB := below_step HB hGR
        replace HOV := HOV.below hGR
        clear hGR
        show ∃ m, m < n_8 ∧ _
        exact ⟨_, (by omega), ⟨(j + 1), v29, hN, hD, s6, s19, s20, HB, (by rw [upto_t hj0 (by unfold iPick; rw [← hkk]; simpa using hp)]; exact HOV), (by omega), (by omega), bv29, rfl⟩⟩
      · rw [cd13]
        show Code.wp _ _ _ _ _
        have pd13 := cd13
        simp at pd13
        have hp := cd13
        refine wp_skip ?_
        show Code.wp _ _ _ _ _
        refine deedL [.eq 30 (.int .i64 (j + 1)), .eq 20 (.int .i64 (j + 1)), .eq 6 v, .eq 19 (.agg ((bk (los os D C os.length)).kind.map (Value.int .i64)).toArray), .eq 20 (.int .i64 j), .w (Below w12.heap.size w12)] 32 [[4], [0]] [[], [4]] [1, 2, 3, 5] hM hN hD (by kernel_rfl) ⟨s6, s19, s20, ⟨Below.refl _ _, below_drew (Below.refl _ _)⟩, trivial⟩ ⟨fun _ _ hb h => below_step h hb, trivial⟩ (fun hgrow => ⟨fun _ _ h => rv rfl (x_add' rfl h.1 rfl (by omega)) rfl,
          fun _ _ h => rv rfl (x_move rfl h.1) rfl, trivial⟩) ?_
        clear s6 s7 s8 s19 s20 s25
        clear hN hD
        rintro a16 w16 hN hD ⟨s20, s6, s19, hGR, -⟩
        replace HB := below_step HB hGR
        replace HOV := HOV.below hGR
        clear hGR
        show ∃ m, m < n_8 ∧ _
        exact ⟨_, (by omega), ⟨(j + 1), v, hN, hD, s6, s19, s20, HB, (by rw [upto_f hj0 (by unfold iPick; rw [← hkk]; simpa using hp)]; exact HOV), (by omega), (by omega), bv, rfl⟩⟩
    · rw [cd10]
      show Code.wp _ _ _ _ _
      have pd10 := of_decide_eq_false cd10
      refine wp_exit (then_exit (then_exit (at_exit ?_)))
      show Code.wp _ _ _ _ _
      refine wp_seq ?_
      refine deedL [.eq 31 v, .eq 2 v, .eq 3 (.int .i64 0), .eq 6 v, .w (Below w9.heap.size w9)] 32 [[3], [0], []] [] [1, 2, 3, 4] hM hN hD (by kernel_rfl) ⟨s6, ⟨Below.refl _ _, below_drew (Below.refl _ _)⟩, trivial⟩ ⟨fun _ _ hb h => below_step h hb, trivial⟩ (fun hgrow => ⟨fun _ _ h => rv rfl (x_move rfl h.1) rfl,
        fun _ _ h => rv rfl (x_assign rfl h.1) rfl,
        fun _ _ _ => rv rfl (x_assign rfl rfl) rfl, trivial⟩) ?_
      clear s6 s19 s20 s21
      clear hN hD
      rintro a17 w17 hN hD ⟨s2, s3, s6, hGR, -⟩
      replace HB := below_step HB hGR
      replace HOV := HOV.below hGR
      clear hGR
      show Code.wp _ _ _ _ _
      refine wp_ret ?_
      refine bodyPost_ret (fn := Try.f15) (results_list (rs := [.tmp 2, .tmp 3]) (vs := [v, .int .i64 0]) rfl (by simp) (vtmp s2 (vtmp s3 .nil))) hD ?_
      rw [hT]
      exact ⟨v, rfl, by unfold iObjs; rw [hT, if_pos rfl]; rw [show j.toNat = 101 by omega] at HOV; exact HOV, bv, HB⟩
end Go.Proofs.Ytideafkiaipnoaa.Q
