/- The law FnExactLogAt: for every input it returns true, and each argument reads as it did. -/
import Derived.Test.YtideafkiaipnoaaZt4
import Derived.Test.YtideafkiaipnoaaRows
import Derived.WalkKit
import Derived.ProofKit
import Derived.OpenShut
import Derived.ShutString
import Derived.ChangeOld
import Derived.Below
import Derived.Carry
import Derived.SizedLaws
import Derived.ChangeSlices
import Derived.Test.YtideafkiaipnoaaZt2
import Derived.Test.YtideafkiaipnoaaZt0
import Derived.Test.YtideafkiaipnoaaZt1
import Derived.Test.YtideafkiaipnoaaZt3
/- Functions walked. -/
namespace Go.Proofs.Ytideafkiaipnoaa.Q
open Go Go.RowKit Go.Proofs.YtideafkiaipnoaaW.PrintWords Go.Proofs.YtideafkiaipnoaaW.PrintLast Go.Proofs.Ytideafkiaipnoaa.Deed
set_option maxRecDepth 100000
set_option linter.unusedVariables false
set_option linter.unusedSimpArgs false
set_option maxHeartbeats 2000000 in
theorem lawLogAt_calls (A0_ : Option Addr) (l0 : List LO) (c0_ : Nat) (A1_ : Option Addr) (l1 : List Int) (c1_ : Nat) (w : World) (HR0 : RV eLO w A0_ l0) (HC0 : Caps l0) (HH0 : Held (l0.map LO.o)) (HR1 : RI w A1_ l1) (HH1 : l1.length ≤ 9223372036854775807) : Calls Try.prog 7 #[.slice A0_ l0.length c0_, .agg #[Value.slice A1_ l1.length c1_]] w fun e w' => e = .returned (.bool true) ∧ Below w.heap.size w w' := by
  refine calls_of_wp Try.func7 rfl ?_
  refine enter_ (N := 119) rfl ?_
  rintro a0 hN hD ⟨s0, s1, -⟩
  have HB : Below w.heap.size w w := Below.refl _ _
  refine wp_seq ?_
  refine deedL [.s1 3 (NewB w.heap.size [.slice A1_ l1.length c1_] 37), .eq 4 (.bool false), .eq 0 (.slice A0_ l0.length c0_), .eq 1 (.agg #[Value.slice A1_ l1.length c1_]), .w (Below w.heap.size w)] 119 [[4, 3], []] [] [0, 2, 3, 4] hM hN hD (by kernel_rfl) ⟨s0, s1, ⟨Below.refl _ _, below_drew (Below.refl _ _)⟩, trivial⟩ ⟨fun _ _ _ hb h => h.grow hb, fun _ _ hb h => below_step h hb, trivial⟩ (fun hgrow => ⟨fun _ _ h => rbox hgrow rfl (x_box rfl h.2.1) h.1.size (fun _ _ z => z),
    fun _ _ _ => rv rfl (x_assign rfl rfl) rfl, trivial⟩) ?_
  clear s0 s1
  clear hN hD
  rintro a1 w1 hN hD ⟨⟨g3, s3, lg3, HBX3⟩, s0, s1, hGR, -⟩
  have lb_g3 := lg3
  replace HB := below_step HB hGR
  have ub_g3 : g3 < w1.heap.size := blk_lt HBX3
  have zsw1 : w.heap.size ≤ w1.heap.size := hGR.size
  clear hGR
  show Code.wp _ _ _ _ _
  refine wp_seq ?_
  refine deedL [.eq 5 (.int .i64 1048576), .eq 0 (.slice A0_ l0.length c0_), .eq 3 (.pointer (some ⟨g3, 0, none⟩)), .w (Below w1.heap.size w1)] 119 [[]] [] [0, 1, 2, 3] hM hN hD (by kernel_rfl) ⟨s0, s3, ⟨Below.refl _ _, below_drew (Below.refl _ _)⟩, trivial⟩ ⟨fun _ _ hb h => below_step h hb, trivial⟩ (fun hgrow => ⟨fun _ _ _ => rv rfl (x_assign rfl rfl) rfl, trivial⟩) ?_
  clear s0 s1 s3
  clear hN hD
  rintro a2 w2 hN hD ⟨s5, s0, s3, hGR, -⟩
  replace HB := below_step HB hGR
  replace HBX3 := blk_below HBX3 hGR
  have zsw2 : w1.heap.size ≤ w2.heap.size := hGR.size
  clear hGR
  show Code.wp _ _ _ _ _
  refine wp_seq ?_
  refine deedL [.eq 17 (.slice A0_ l0.length c0_), .eq 18 (.int .i64 1048576), .s1 19 fun x_ W => ∃ (r0 : Int), x_ = .int .i64 r0 ∧ (0 ≤ r0 → (l0.length : Int) + tot (l0.map LO.o) + r0 ≤ 1048576), .s2 19 5 fun x_ y_ _ => ∃ (r0 : Int), x_ = .int .i64 r0 ∧ y_ = .int .i64 r0, .eq 0 (.slice A0_ l0.length c0_), .eq 3 (.pointer (some ⟨g3, 0, none⟩)), .eq 5 (.int .i64 1048576), .w (Below w2.heap.size w2)] 119 [[4], [6], [0, 1, 7], [2]] [[], [], [], [6]] [2, 3, 4, 5, 7] hM hN hD (by kernel_rfl) ⟨s0, s3, s5, ⟨Below.refl _ _, below_drew (Below.refl _ _)⟩, trivial⟩ ⟨fun _ _ _ hb h => by obtain ⟨r0, e_, z0⟩ := h; exact ⟨_, e_, z0⟩, fun _ _ _ _ hb h => h, fun _ _ hb h => below_step h hb, trivial⟩ (fun hgrow => ⟨fun _ _ h => rv rfl (x_move rfl h.1) rfl,
    fun _ _ h => rv rfl (x_move rfl h.1) rfl,
    fun _ _ h => rc hgrow rfl Try.func12 (by kernel_rfl) rfl rfl (args2 h.1 h.2.1) (szOpS_L A0_ l0 c0_ 1048576 _ (RV.below HR0 (below_step HB h.2.2.1)) HC0 HH0 (by omega) (by omega)) (fun _ _ hR => by obtain ⟨r0, e_, z0, hb⟩ := hR; exact ⟨_, e_, hb, r0, rfl, z0⟩),
    ?_, trivial⟩) ?_
  · rintro a_ W ⟨h2, -⟩
    obtain ⟨r0, e2, HLr0⟩ := h2
    exact rv rfl (x_assign rfl e2) ⟨_, e2, rfl⟩
  clear s0 s3 s5
  clear hN hD
  rintro a3 w3 hN hD ⟨⟨r0, s19, HLr0⟩, q5, s0, s3, hGR, -⟩
  obtain ⟨r0_, e_, s5⟩ := q5
  cases s19.symm.trans e_
  have lr0 := HLr0
  clear HLr0
  replace HB := below_step HB hGR
  replace HBX3 := blk_below HBX3 hGR
  have zsw3 : w2.heap.size ≤ w3.heap.size := hGR.size
  clear hGR
  show Code.wp _ _ _ _ _
  refine wp_seq ?_
  refine wp_seq ?_
  refine deedL [.eq 20 (.int .i64 r0), .eq 21 (.bool (decide (r0 < 0))), .eq 0 (.slice A0_ l0.length c0_), .eq 3 (.pointer (some ⟨g3, 0, none⟩)), .eq 5 (.int .i64 r0), .w (Below w3.heap.size w3)] 119 [[4], [0]] [] [1, 2, 3, 4, 5] hM hN hD (by kernel_rfl) ⟨s0, s3, s5, ⟨Below.refl _ _, below_drew (Below.refl _ _)⟩, trivial⟩ ⟨fun _ _ hb h => below_step h hb, trivial⟩ (fun hgrow => ⟨fun _ _ h => rv rfl (x_move rfl h.1) rfl,
    fun _ _ h => rv rfl (x_lss rfl h.1 rfl) rfl, trivial⟩) ?_
  clear s0 s3 s5
  clear hN hD
  rintro a4 w4 hN hD ⟨s21, s0, s3, s5, hGR, -⟩
  replace HB := below_step HB hGR
  replace HBX3 := blk_below HBX3 hGR
  have zsw4 : w3.heap.size ≤ w4.heap.size := hGR.size
  clear hGR
  show Code.wp _ _ _ _ _
  refine wp_cond (t := decide (r0 < 0)) s21 ?_
  rcases Bool.eq_false_or_eq_true (decide (r0 < 0)) with cd5 | cd5
  · rw [cd5]
    show Code.wp _ _ _ _ _
    have pd5 := of_decide_eq_true cd5
    refine wp_seq ?_
    refine deedL [.eq 4 (.bool true), .w (Below w4.heap.size w4)] 119 [[]] [] [0, 1] hM hN hD (by kernel_rfl) ⟨⟨Below.refl _ _, below_drew (Below.refl _ _)⟩, trivial⟩ ⟨fun _ _ hb h => below_step h hb, trivial⟩ (fun hgrow => ⟨fun _ _ _ => rv rfl (x_assign rfl rfl) rfl, trivial⟩) ?_
    clear s0 s3 s5 s21
    clear hN hD
    rintro a6 w6 hN hD ⟨s4, hGR, -⟩
    replace HB := below_step HB hGR
    replace HBX3 := blk_below HBX3 hGR
    have zsw6 : w4.heap.size ≤ w6.heap.size := hGR.size
    clear hGR
    show Code.wp _ _ _ _ _
    refine wp_ret (then_ret ?_)
    refine bodyPost_ret (results_single rfl (vtmp s4 .nil)) hD ?_
    exact ⟨rfl, HB⟩
  · rw [cd5]
    show Code.wp _ _ _ _ _
    have pd5 := of_decide_eq_false cd5
    have hsz0 := lr0 (by omega)
    have htn0 := tot_nn (l0.map LO.o)
    have hxn0 : l0.length ≤ 1048576 := by omega
    have hdl0 : ∀ x ∈ l0, x.o.deps.length ≤ 1048576 := dep_le' (by omega)
    refine wp_skip ?_
    show Code.wp _ _ _ _ _
    refine wp_seq ?_
    refine deedL [.eq 22 (.agg #[Value.slice A1_ l1.length c1_]), .eq 23 (.int .i64 r0), .eq 24 (.int .i64 (szV l1.length r0)), .eq 5 (.int .i64 (szV l1.length r0)), .eq 0 (.slice A0_ l0.length c0_), .eq 3 (.pointer (some ⟨g3, 0, none⟩)), .eq 5 (.int .i64 r0), .w (Below w4.heap.size w4)] 119 [[5, 7], [6], [0, 1], [2]] [[], [], [], [6]] [3, 4, 5, 7] hM hN hD (by kernel_rfl) ⟨s0, s3, s5, ⟨Below.refl _ _, below_drew (Below.refl _ _)⟩, trivial⟩ ⟨fun _ _ hb h => below_step h hb, trivial⟩ (fun hgrow => ⟨fun _ _ h => rv rfl (x_loadS rfl h.1 Try.underlying37 [.slice A1_ l1.length c1_] sz37 (blk_list (L := [.slice A1_ l1.length c1_]) (blk_below HBX3 h.2.1) 0 rfl)) rfl,
      fun _ _ h => rv rfl (x_move rfl h.1) rfl,
      fun _ _ h => rc hgrow rfl Try.func23 (by kernel_rfl) rfl rfl (args2 h.1 h.2.1) (szV_calls l1.length r0 _ A1_ c1_ (by omega) (by omega) HH1) (fun _ _ h => ⟨_, h.1, h.2, rfl⟩),
      fun _ _ h => rv rfl (x_assign rfl h.1) rfl, trivial⟩) ?_
    clear s0 s3 s5 s21
    clear hN hD
    rintro a7 w7 hN hD ⟨s5, s0, s3, hGR, -⟩
    replace HB := below_step HB hGR
    replace HBX3 := blk_below HBX3 hGR
    have zsw7 : w4.heap.size ≤ w7.heap.size := hGR.size
    clear hGR
    show Code.wp _ _ _ _ _
    refine wp_seq ?_
    refine wp_seq ?_
    refine deedL [.eq 25 (.int .i64 (szV l1.length r0)), .eq 26 (.bool (decide (szV l1.length r0 < 0))), .eq 0 (.slice A0_ l0.length c0_), .eq 3 (.pointer (some ⟨g3, 0, none⟩)), .eq 5 (.int .i64 (szV l1.length r0)), .w (Below w7.heap.size w7)] 119 [[4], [0]] [] [1, 2, 3, 4, 5] hM hN hD (by kernel_rfl) ⟨s0, s3, s5, ⟨Below.refl _ _, below_drew (Below.refl _ _)⟩, trivial⟩ ⟨fun _ _ hb h => below_step h hb, trivial⟩ (fun hgrow => ⟨fun _ _ h => rv rfl (x_move rfl h.1) rfl,
      fun _ _ h => rv rfl (x_lss rfl h.1 rfl) rfl, trivial⟩) ?_
    clear s0 s3 s5
    clear hN hD
    rintro a8 w8 hN hD ⟨s26, s0, s3, s5, hGR, -⟩
    replace HB := below_step HB hGR
    replace HBX3 := blk_below HBX3 hGR
    have zsw8 : w7.heap.size ≤ w8.heap.size := hGR.size
    clear hGR
    show Code.wp _ _ _ _ _
    refine wp_cond (t := decide (szV l1.length r0 < 0)) s26 ?_
    rcases Bool.eq_false_or_eq_true (decide (szV l1.length r0 < 0)) with cd9 | cd9
    · rw [cd9]
      show Code.wp _ _ _ _ _
      have pd9 := of_decide_eq_true cd9
      refine wp_seq ?_
      refine deedL [.eq 4 (.bool true), .w (Below w8.heap.size w8)] 119 [[]] [] [0, 1] hM hN hD (by kernel_rfl) ⟨⟨Below.refl _ _, below_drew (Below.refl _ _)⟩, trivial⟩ ⟨fun _ _ hb h => below_step h hb, trivial⟩ (fun hgrow => ⟨fun _ _ _ => rv rfl (x_assign rfl rfl) rfl, trivial⟩) ?_
      clear s0 s3 s5 s26
      clear hN hD
      rintro a10 w10 hN hD ⟨s4, hGR, -⟩
      replace HB := below_step HB hGR
      replace HBX3 := blk_below HBX3 hGR
      have zsw10 : w8.heap.size ≤ w10.heap.size := hGR.size
      clear hGR
      show Code.wp _ _ _ _ _
      refine wp_ret (then_ret ?_)
      refine bodyPost_ret (results_single rfl (vtmp s4 .nil)) hD ?_
      exact ⟨rfl, HB⟩
    · rw [cd9]
      show Code.wp _ _ _ _ _
      have pd9 := of_decide_eq_false cd9
      have hsz1 := (szV_le (n := l1.length) (left := r0) (by omega)).2 (by omega)
      have hxn1 : l1.length ≤ 1048576 := by omega
      refine wp_skip ?_
      show Code.wp _ _ _ _ _
      refine wp_seq ?_
      have hBw8 := HB
      refine deedL [.eq 28 (.slice A0_ l0.length c0_), .s1 29 fun x_ W => ∃ (A29 : Option Addr) (c29 : Nat) (y29 : List LO), x_ = .slice A29 ((l0.map LO.o).length) c29 ∧ OwnAt eLO W A29 y29 (w8.heap.size) W.heap.size ∧ y29.map LO.o = l0.map LO.o ∧ Caps y29, .eq 30 (.agg #[Value.slice A1_ l1.length c1_]), .s1 31 fun x_ W => ∃ (A31 : Option Addr) (c31 : Nat), x_ = .agg #[Value.slice A31 l1.length c31] ∧ OwnI W A31 l1 (w8.heap.size) W.heap.size, .s1 32 fun x_ W => ∃ (A32_0 : Option Addr) (c32_0 : Nat) (y32_0 : List LO), x_ = .tuple #[Value.slice A32_0 ((sAt (l0.map LO.o) l1).length) c32_0, Value.int .i64 (sAtC (l0.map LO.o) l1)] ∧ OwnAt eLO W A32_0 y32_0 (w8.heap.size) W.heap.size ∧ y32_0.map LO.o = sAt (l0.map LO.o) l1, .s2 32 27 fun x_ y_ _ => ∃ (A32_0 : Option Addr) (c32_0 : Nat), x_ = .tuple #[Value.slice A32_0 ((sAt (l0.map LO.o) l1).length) c32_0, Value.int .i64 (sAtC (l0.map LO.o) l1)] ∧ y_ = .tuple #[Value.slice A32_0 ((sAt (l0.map LO.o) l1).length) c32_0, Value.int .i64 (sAtC (l0.map LO.o) l1)], .s2 32 33 fun x_ y_ _ => ∃ (A32_0 : Option Addr) (c32_0 : Nat), x_ = .tuple #[Value.slice A32_0 ((sAt (l0.map LO.o) l1).length) c32_0, Value.int .i64 (sAtC (l0.map LO.o) l1)] ∧ y_ = .slice A32_0 ((sAt (l0.map LO.o) l1).length) c32_0, .eq 34 (.int .i64 (sAtC (l0.map LO.o) l1)), .s2 32 6 fun x_ y_ _ => ∃ (A32_0 : Option Addr) (c32_0 : Nat), x_ = .tuple #[Value.slice A32_0 ((sAt (l0.map LO.o) l1).length) c32_0, Value.int .i64 (sAtC (l0.map LO.o) l1)] ∧ y_ = .slice A32_0 ((sAt (l0.map LO.o) l1).length) c32_0, .eq 7 (.int .i64 (sAtC (l0.map LO.o) l1)), .eq 0 (.slice A0_ l0.length c0_), .eq 3 (.pointer (some ⟨g3, 0, none⟩)), .w (Below w8.heap.size w8)] 119 [[10], [0, 12], [11, 12], [2, 12], [1, 3, 12], [4], [5], [5], [6], [7]] [] [9, 1, 3, 4, 8, 10, 11, 12] hM hN hD (by kernel_rfl) ⟨s0, s3, ⟨Below.refl _ _, below_drew (Below.refl _ _)⟩, trivial⟩ ⟨fun _ _ _ hb h => by obtain ⟨A29, c29, y29, e_, z0, z1, z2⟩ := h; exact ⟨_, _, _, e_, (z0.below hb).wide (Nat.le_refl _) hb.size, z1, z2⟩, fun _ _ _ hb h => by obtain ⟨A31, c31, e_, z0⟩ := h; exact ⟨_, _, e_, (z0.below hb).wide (Nat.le_refl _) hb.size⟩, fun _ _ _ hb h => by obtain ⟨A32_0, c32_0, y32_0, e_, z0, z1⟩ := h; exact ⟨_, _, _, e_, (z0.below hb).wide (Nat.le_refl _) hb.size, z1⟩, fun _ _ _ _ hb h => h, fun _ _ _ _ hb h => h, fun _ _ _ _ hb h => h, fun _ _ hb h => below_step h hb, trivial⟩ (fun hgrow => ⟨fun _ _ h => rv rfl (x_move rfl h.1) rfl,
        fun _ _ h => rc hgrow rfl Try.func14 (by kernel_rfl) rfl rfl (args1 h.1) (toOpS_L A0_ l0 c0_ _ (RV.below HR0 (below_step HB h.2.1)) hxn0 hdl0) (fun _ _ hR => by obtain ⟨A29, c29, y29, e_, z0, z1, z2, hb⟩ := hR; exact ⟨_, e_, hb, A29, c29, y29, rfl, (z0.wide h.2.1.size (Nat.le_refl _)), z1, z2⟩),
        fun _ _ h => rv rfl (x_loadS rfl h.1 Try.underlying37 [.slice A1_ l1.length c1_] sz37 (blk_list (L := [.slice A1_ l1.length c1_]) (blk_below HBX3 h.2.1) 0 rfl)) rfl,
        fun _ _ h => rc hgrow rfl Try.func25 (by kernel_rfl) rfl rfl (args1 h.1) (toV_L A1_ l1 c1_ _ (RI.below HR1 (below_step HB h.2.1)) hxn1) (fun _ _ hR => by obtain ⟨A31, c31, e_, z0, hb⟩ := hR; exact ⟨_, e_, hb, A31, c31, rfl, (z0.wide h.2.1.size (Nat.le_refl _))⟩),
        ?_,
        ?_,
        ?_,
        ?_,
        ?_,
        fun _ _ h => rv rfl (x_assign rfl h.1) rfl, trivial⟩) ?_
      · rintro a_ W ⟨h1, h3, h12, -⟩
        obtain ⟨A29, c29, y29, e1, HOX29, HYM29, HYC29⟩ := h1
        obtain ⟨A31, c31, e3, HOX31⟩ := h3
        exact rc hgrow rfl Try.func33 (by kernel_rfl) rfl rfl (args2 e1 e3) (sAt_L A29 y29 c29 (l0.map LO.o) A31 l1 c31 _ HYM29 HOX29.RV HYC29 HOX31.RI) (fun _ _ hR => by obtain ⟨A32_0, c32_0, y32_0, e_, z0, z1, hb⟩ := hR; exact ⟨_, e_, hb, A32_0, c32_0, y32_0, rfl, (z0.wide h12.size (Nat.le_refl _)), z1⟩)
      · rintro a_ W ⟨h4, -⟩
        obtain ⟨A32_0, c32_0, y32_0, e4, HOX32_0, HYM32_0⟩ := h4
        exact rv rfl (x_move rfl e4) ⟨_, _, e4, rfl⟩
      · rintro a_ W ⟨h5, -⟩
        obtain ⟨A32_0, c32_0, r5, e5⟩ := h5
        exact rv rfl (x_extract rfl e5 rfl) ⟨_, _, r5, rfl⟩
      · rintro a_ W ⟨h5, -⟩
        obtain ⟨A32_0, c32_0, r5, e5⟩ := h5
        exact rv rfl (x_extract rfl e5 rfl) rfl
      · rintro a_ W ⟨h6, -⟩
        obtain ⟨A32_0, c32_0, r6, e6⟩ := h6
        exact rv rfl (x_assign rfl e6) ⟨_, _, r6, rfl⟩
      clear s0 s3 s5 s26
      clear hN hD
      rintro a11 w11 hN hD ⟨s7, ⟨A29, c29, y29, s29, HOX29, HYM29, HYC29⟩, ⟨A31, c31, s31, HOX31⟩, ⟨A32_0, c32_0, y32_0, s32, HOX32_0, HYM32_0⟩, q6, s0, s3, hGR, -⟩
      obtain ⟨A32_0_, c32_0_, e_, s6⟩ := q6
      cases s32.symm.trans e_
      replace HB := below_step HB hGR
      replace HBX3 := blk_below HBX3 hGR
      clear HOX29
      clear HOX31
      have cl_OX32_0 := cntL_pos (M := mLO) y32_0
      have cu_OX32_0 : cntL mLO y32_0 ≤ 1000000000 := by have := part_cnt HYM32_0 (sAt_sub (l0.map LO.o) l1); omega
      have zzOX32_0 : w.heap.size ≤ w8.heap.size := hBw8.size
      have zsw11 : w8.heap.size ≤ w11.heap.size := hGR.size
      clear hGR
      have HB5 := Below.refl w11.heap.size w11
      have HWOX32_0 := HOX32_0.RV
      clear HOX32_0
      show Code.wp _ _ _ _ _
      refine wp_seq ?_
      have hBw11 := HB
      refine deedL [.eq 35 (.slice A0_ l0.length c0_), .s1 36 fun x_ W => ∃ (A36 : Option Addr) (c36 : Nat) (y36 : List LO), x_ = .slice A36 ((l0.map LO.o).length) c36 ∧ OwnAt eLO W A36 y36 (w11.heap.size) W.heap.size ∧ y36.map LO.o = l0.map LO.o ∧ Caps y36, .s2 36 8 fun x_ y_ _ => ∃ (A36 : Option Addr) (c36 : Nat), x_ = .slice A36 ((l0.map LO.o).length) c36 ∧ y_ = .slice A36 ((l0.map LO.o).length) c36, .eq 0 (.slice A0_ l0.length c0_), .eq 3 (.pointer (some ⟨g3, 0, none⟩)), .eq 6 (.slice A32_0 ((sAt (l0.map LO.o) l1).length) c32_0), .eq 7 (.int .i64 (sAtC (l0.map LO.o) l1)), .w (Below w11.heap.size w11)] 119 [[3], [0, 7], [1]] [] [1, 2, 3, 4, 5, 6, 7] hM hN hD (by kernel_rfl) ⟨s0, s3, s6, s7, ⟨Below.refl _ _, below_drew (Below.refl _ _)⟩, trivial⟩ ⟨fun _ _ _ hb h => by obtain ⟨A36, c36, y36, e_, z0, z1, z2⟩ := h; exact ⟨_, _, _, e_, (z0.below hb).wide (Nat.le_refl _) hb.size, z1, z2⟩, fun _ _ _ _ hb h => h, fun _ _ hb h => below_step h hb, trivial⟩ (fun hgrow => ⟨fun _ _ h => rv rfl (x_move rfl h.1) rfl,
        fun _ _ h => rc hgrow rfl Try.func14 (by kernel_rfl) rfl rfl (args1 h.1) (toOpS_L A0_ l0 c0_ _ (RV.below HR0 (below_step HB h.2.1)) hxn0 hdl0) (fun _ _ hR => by obtain ⟨A36, c36, y36, e_, z0, z1, z2, hb⟩ := hR; exact ⟨_, e_, hb, A36, c36, y36, rfl, (z0.wide h.2.1.size (Nat.le_refl _)), z1, z2⟩),
        ?_, trivial⟩) ?_
      · rintro a_ W ⟨h1, -⟩
        obtain ⟨A36, c36, y36, e1, HOX36, HYM36, HYC36⟩ := h1
        exact rv rfl (x_assign rfl e1) ⟨_, _, e1, rfl⟩
      clear s0 s3 s6 s7
      clear hN hD
      rintro a12 w12 hN hD ⟨⟨A36, c36, y36, s36, HOX36, HYM36, HYC36⟩, q8, s0, s3, s6, s7, hGR, -⟩
      obtain ⟨A36_, c36_, e_, s8⟩ := q8
      cases s36.symm.trans e_
      replace HB := below_step HB hGR
      replace HBX3 := blk_below HBX3 hGR
      replace HYM29 := HYM29
      replace HYC29 := HYC29
      replace HYM32_0 := HYM32_0
      replace HB5 := below_step HB5 hGR
      have cl_OX36 := cntL_pos (M := mLO) y36
      have cu_OX36 : cntL mLO y36 ≤ 1000000000 := by have h1_ := cnt_tot y36; rw [HYM36] at h1_; have h2_ := len_of HYM36; omega
      have zzOX36 : w.heap.size ≤ w11.heap.size := hBw11.size
      have zsw12 : w11.heap.size ≤ w12.heap.size := hGR.size
      clear hGR
      show Code.wp _ _ _ _ _
      refine wp_seq ?_
      have hBw12 := HB
      refine deedL [.eq 37 (.agg #[Value.slice A1_ l1.length c1_]), .s1 38 fun x_ W => ∃ (A38 : Option Addr) (c38 : Nat), x_ = .agg #[Value.slice A38 l1.length c38] ∧ OwnI W A38 l1 (w12.heap.size) W.heap.size, .s1 9 (NewB w12.heap.size [.slice none 0 0] 41), .s2 38 9 fun x_ y_ W => ∃ (A38 : Option Addr) (c38 : Nat), x_ = .agg #[Value.slice A38 l1.length c38] ∧ NewB w12.heap.size [.slice A38 l1.length c38] 41 y_ W, .eq 0 (.slice A0_ l0.length c0_), .eq 3 (.pointer (some ⟨g3, 0, none⟩)), .eq 6 (.slice A32_0 ((sAt (l0.map LO.o) l1).length) c32_0), .eq 7 (.int .i64 (sAtC (l0.map LO.o) l1)), .eq 8 (.slice A36 ((l0.map LO.o).length) c36), .w (Below w12.heap.size w12)] 119 [[5, 9], [0, 9], [9], [2, 1, 9]] [[], [], [], [2]] [1, 3, 4, 5, 6, 7, 8, 9] hM hN hD (by kernel_rfl) ⟨s0, s3, s6, s7, s8, ⟨Below.refl _ _, below_drew (Below.refl _ _)⟩, trivial⟩ ⟨fun _ _ _ hb h => by obtain ⟨A38, c38, e_, z0⟩ := h; exact ⟨_, _, e_, (z0.below hb).wide (Nat.le_refl _) hb.size⟩, fun _ _ _ hb h => h.grow hb, fun _ _ _ _ hb h => by obtain ⟨A38, c38, e_, h_⟩ := h; exact ⟨_, _, e_, h_.grow hb⟩, fun _ _ hb h => below_step h hb, trivial⟩ (fun hgrow => ⟨fun _ _ h => rv rfl (x_loadS rfl h.1 Try.underlying37 [.slice A1_ l1.length c1_] sz37 (blk_list (L := [.slice A1_ l1.length c1_]) (blk_below HBX3 h.2.1) 0 rfl)) rfl,
        fun _ _ h => rc hgrow rfl Try.func25 (by kernel_rfl) rfl rfl (args1 h.1) (toV_L A1_ l1 c1_ _ (RI.below HR1 (below_step HB h.2.1)) hxn1) (fun _ _ hR => by obtain ⟨A38, c38, e_, z0, hb⟩ := hR; exact ⟨_, e_, hb, A38, c38, rfl, (z0.wide h.2.1.size (Nat.le_refl _))⟩),
        fun _ _ h => rbox hgrow rfl (x_alloc rfl zr41) h.1.size (fun _ _ z => z),
        ?_, trivial⟩) ?_
      · rintro a_ W ⟨h2, h1, h9, -⟩
        obtain ⟨A38, c38, e1, HOX38⟩ := h1
        obtain ⟨g9, e3, l3, hb3⟩ := h2
        exact rstoreS rfl rfl e3 e1 (by simp [Value.oneCell']) sz41 hb3 rfl ⟨_, _, e1, ⟨_, e3, l3, blk_stored (cs := [.slice A38 l1.length c38]) 0 _ [.slice none 0 0] hb3 (of_decide_eq_true rfl)⟩⟩ ⟨fun h => by obtain ⟨A38, c38, e_, z0⟩ := h; exact ⟨_, _, e_, (z0.far hb3 rfl (kx_cells (fun k => k = g9) rfl)).wide (Nat.le_refl _) (kx_cells (fun k => k = g9) rfl).size⟩, fun h => below_cells h l3, trivial⟩
      clear s0 s3 s6 s7 s8
      clear hN hD
      rintro a13 w13 hN hD ⟨⟨A38, c38, s38, HOX38⟩, qs3, s0, s3, s6, s7, s8, hGR, -⟩
      obtain ⟨A38_, c38_, e_, g9, s9, lg9, HBX9⟩ := qs3
      cases s38.symm.trans e_
      have lb_g9 := lg9
      replace lg9 := Nat.le_trans HB.size lg9
      replace HB := below_step HB hGR
      replace HBX3 := blk_below HBX3 hGR
      replace HYM29 := HYM29
      replace HYC29 := HYC29
      replace HYM32_0 := HYM32_0
      replace HB5 := below_step HB5 hGR
      replace HOX36 := HOX36.below hGR
      replace HYM36 := HYM36
      replace HYC36 := HYC36
      have ub_g9 : g9 < w13.heap.size := blk_lt HBX9
      have zzOX38 : w.heap.size ≤ w12.heap.size := hBw12.size
      have zsw13 : w12.heap.size ≤ w13.heap.size := hGR.size
      clear hGR
      show Code.wp _ _ _ _ _
      refine wp_seq ?_
      have hBw13 := HB
      refine deedL (.eq 40 (.slice A36 ((l0.map LO.o).length) c36) :: .eq 41 (.agg #[Value.slice A38 l1.length c38]) :: (.s1 42 fun x_ W => ∃ (A42_0 : Option Addr) (c42_0 : Nat) (y42_0 : List LO), x_ = .tuple #[Value.slice A42_0 ((sAt (l0.map LO.o) l1).length) c42_0, Value.int .i64 (sAtC (l0.map LO.o) l1)] ∧ OwnAt eLO W A42_0 y42_0 (w13.heap.size) W.heap.size ∧ y42_0.map LO.o = sAt (l0.map LO.o) l1) :: (.s2 42 39 fun x_ y_ _ => ∃ (A42_0 : Option Addr) (c42_0 : Nat), x_ = .tuple #[Value.slice A42_0 ((sAt (l0.map LO.o) l1).length) c42_0, Value.int .i64 (sAtC (l0.map LO.o) l1)] ∧ y_ = .tuple #[Value.slice A42_0 ((sAt (l0.map LO.o) l1).length) c42_0, Value.int .i64 (sAtC (l0.map LO.o) l1)]) :: (.s2 42 43 fun x_ y_ _ => ∃ (A42_0 : Option Addr) (c42_0 : Nat), x_ = .tuple #[Value.slice A42_0 ((sAt (l0.map LO.o) l1).length) c42_0, Value.int .i64 (sAtC (l0.map LO.o) l1)] ∧ y_ = .slice A42_0 ((sAt (l0.map LO.o) l1).length) c42_0) :: .eq 44 (.int .i64 (sAtC (l0.map LO.o) l1)) :: (.s2 42 10 fun x_ y_ _ => ∃ (A42_0 : Option Addr) (c42_0 : Nat), x_ = .tuple #[Value.slice A42_0 ((sAt (l0.map LO.o) l1).length) c42_0, Value.int .i64 (sAtC (l0.map LO.o) l1)] ∧ y_ = .slice A42_0 ((sAt (l0.map LO.o) l1).length) c42_0) :: .eq 11 (.int .i64 (sAtC (l0.map LO.o) l1)) :: .eq 0 (.slice A0_ l0.length c0_) :: .eq 3 (.pointer (some ⟨g3, 0, none⟩)) :: .eq 6 (.slice A32_0 ((sAt (l0.map LO.o) l1).length) c32_0) :: .eq 7 (.int .i64 (sAtC (l0.map LO.o) l1)) :: .eq 8 (.slice A36 ((l0.map LO.o).length) c36) :: .eq 9 (.pointer (some ⟨g9, 0, none⟩)) :: .w (Below w13.heap.size w13) :: []) 119 [[12], [13, 14], [0, 1, 14], [2], [3], [3], [4], [5]] [] [7, 2, 6, 8, 9, 10, 11, 12, 13, 14] hM hN hD (by kernel_rfl) ⟨s0, s3, s6, s7, s8, s9, ⟨Below.refl _ _, below_drew (Below.refl _ _)⟩, trivial⟩ ⟨fun _ _ _ hb h => by obtain ⟨A42_0, c42_0, y42_0, e_, z0, z1⟩ := h; exact ⟨_, _, _, e_, (z0.below hb).wide (Nat.le_refl _) hb.size, z1⟩, fun _ _ _ _ hb h => h, fun _ _ _ _ hb h => h, fun _ _ _ _ hb h => h, fun _ _ hb h => below_step h hb, trivial⟩ (fun hgrow => ⟨fun _ _ h => rv rfl (x_move rfl h.1) rfl,
        fun _ _ h => rv rfl (x_loadS rfl h.1 Try.underlying41 [.slice A38 l1.length c38] sz41 (blk_list (L := [.slice A38 l1.length c38]) (blk_below HBX9 h.2.1) 0 rfl)) rfl,
        fun _ _ h => rc hgrow rfl Try.func34 (by kernel_rfl) rfl rfl (args2 h.1 h.2.1) (iAt_L A36 y36 c36 (l0.map LO.o) A38 l1 c38 _ (HYM36) (HOX36.below h.2.2.1).RV (HYC36) (HOX38.below h.2.2.1).RI) (fun _ _ hR => by obtain ⟨A42_0, c42_0, y42_0, e_, z0, z1, hb⟩ := hR; exact ⟨_, e_, hb, A42_0, c42_0, y42_0, rfl, (z0.wide h.2.2.1.size (Nat.le_refl _)), z1⟩),
        ?_,
        ?_,
        ?_,
        ?_,
        fun _ _ h => rv rfl (x_assign rfl h.1) rfl, trivial⟩) ?_
      · rintro a_ W ⟨h2, -⟩
        obtain ⟨A42_0, c42_0, y42_0, e2, HOX42_0, HYM42_0⟩ := h2
        exact rv rfl (x_move rfl e2) ⟨_, _, e2, rfl⟩
      · rintro a_ W ⟨h3, -⟩
        obtain ⟨A42_0, c42_0, r3, e3⟩ := h3
        exact rv rfl (x_extract rfl e3 rfl) ⟨_, _, r3, rfl⟩
      · rintro a_ W ⟨h3, -⟩
        obtain ⟨A42_0, c42_0, r3, e3⟩ := h3
        exact rv rfl (x_extract rfl e3 rfl) rfl
      · rintro a_ W ⟨h4, -⟩
        obtain ⟨A42_0, c42_0, r4, e4⟩ := h4
        exact rv rfl (x_assign rfl e4) ⟨_, _, r4, rfl⟩
      clear s0 s3 s6 s7 s8 s9
      clear hN hD
      rintro a14 w14 hN hD ⟨s11, ⟨A42_0, c42_0, y42_0, s42, HOX42_0, HYM42_0⟩, q10, s0, s3, s6, s7, s8, s9, hGR, -⟩
      obtain ⟨A42_0_, c42_0_, e_, s10⟩ := q10
      cases s42.symm.trans e_
      replace HB := below_step HB hGR
      replace HBX3 := blk_below HBX3 hGR
      replace HYM29 := HYM29
      replace HYC29 := HYC29
      replace HYM32_0 := HYM32_0
      replace HB5 := below_step HB5 hGR
      replace HOX36 := HOX36.below hGR
      replace HYM36 := HYM36
      replace HYC36 := HYC36
      replace HOX38 := HOX38.below hGR
      replace HBX9 := blk_below HBX9 hGR
      have cl_OX42_0 := cntL_pos (M := mLO) y42_0
      have cu_OX42_0 : cntL mLO y42_0 ≤ 1000000000 := by have := part_cnt HYM42_0 (sAt_sub (l0.map LO.o) l1); omega
      have zzOX42_0 : w.heap.size ≤ w13.heap.size := hBw13.size
      have zsw14 : w13.heap.size ≤ w14.heap.size := hGR.size
      clear hGR
      show Code.wp _ _ _ _ _
      refine wp_seq ?_
      refine wp_seq ?_
      refine deedL (.eq 45 (.slice A42_0 ((sAt (l0.map LO.o) l1).length) c42_0) :: .eq 46 (.slice A32_0 ((sAt (l0.map LO.o) l1).length) c32_0) :: .eq 47 (.bool (eqB (sAt (l0.map LO.o) l1) (sAt (l0.map LO.o) l1))) :: .eq 48 (.bool (!(eqB (sAt (l0.map LO.o) l1) (sAt (l0.map LO.o) l1)))) :: .eq 49 (.bool (!(eqB (sAt (l0.map LO.o) l1) (sAt (l0.map LO.o) l1)))) :: .gv (((!(eqB (sAt (l0.map LO.o) l1) (sAt (l0.map LO.o) l1))) == false)) 50 (.int .i64 (sAtC (l0.map LO.o) l1)) :: .gv (((!(eqB (sAt (l0.map LO.o) l1) (sAt (l0.map LO.o) l1))) == false)) 51 (.int .i64 (sAtC (l0.map LO.o) l1)) :: .gv (((!(eqB (sAt (l0.map LO.o) l1) (sAt (l0.map LO.o) l1))) == false)) 52 (.bool ((sAtC (l0.map LO.o) l1) != (sAtC (l0.map LO.o) l1))) :: .eq 53 (.bool ((!(eqB (sAt (l0.map LO.o) l1) (sAt (l0.map LO.o) l1))) || ((sAtC (l0.map LO.o) l1) != (sAtC (l0.map LO.o) l1)))) :: .eq 0 (.slice A0_ l0.length c0_) :: .eq 3 (.pointer (some ⟨g3, 0, none⟩)) :: .eq 6 (.slice A32_0 ((sAt (l0.map LO.o) l1).length) c32_0) :: .eq 7 (.int .i64 (sAtC (l0.map LO.o) l1)) :: .eq 8 (.slice A36 ((l0.map LO.o).length) c36) :: .eq 9 (.pointer (some ⟨g9, 0, none⟩)) :: .eq 10 (.slice A42_0 ((sAt (l0.map LO.o) l1).length) c42_0) :: .eq 11 (.int .i64 (sAtC (l0.map LO.o) l1)) :: .w (Below w14.heap.size w14) :: []) 119 [[15], [11], [0, 1, 17], [2], [3], [4, 16], [4, 12], [4, 5, 6], [4, 7]] [] [8, 9, 10, 11, 12, 13, 14, 15, 16, 17] hM hN hD (by kernel_rfl) ⟨s0, s3, s6, s7, s8, s9, s10, s11, ⟨Below.refl _ _, below_drew (Below.refl _ _)⟩, trivial⟩ ⟨fun _ _ hb h => below_step h hb, trivial⟩ (fun hgrow => ⟨fun _ _ h => rv rfl (x_move rfl h.1) rfl,
        fun _ _ h => rv rfl (x_move rfl h.1) rfl,
        fun _ _ h => rc hgrow rfl Try.func17 (by kernel_rfl) rfl rfl (args2 h.1 h.2.1) (eqOpS_L A42_0 y42_0 c42_0 (sAt (l0.map LO.o) l1) A32_0 y32_0 c32_0 (sAt (l0.map LO.o) l1) _ (HYM42_0) (HYM32_0) (HOX42_0.below h.2.2.1).RV (RV.below HWOX32_0 (below_step HB5 h.2.2.1)) (by have := part_len (sAt_sub (l0.map LO.o) l1); omega) (by exact fun o ho => Nat.le_trans (part_deps (sAt_sub (l0.map LO.o) l1) hdl0 o ho) (by decide))) (fun _ _ h => ⟨_, h.1, h.2, rfl⟩),
        fun _ _ h => rv rfl (x_not rfl h.1) rfl,
        fun _ _ h => rv rfl (x_move rfl h.1) rfl,
        fun _ _ h => rb rfl rfl h.1 (fun hgt => x_move rfl h.2.1) (fun _ z => z),
        fun _ _ h => rb rfl rfl h.1 (fun hgt => x_move rfl h.2.1) (fun _ z => z),
        fun _ _ h => rb rfl rfl h.1 (fun hgt => x_neq rfl (h.2.1.1 hgt) (h.2.2.1.1 hgt)) (fun _ z => z),
        fun _ _ h => rv rfl (x_or rfl rfl h.1 (fun hc => h.2.1.1 (beq_iff_eq.2 hc))) rfl, trivial⟩) ?_
      clear s0 s3 s6 s7 s8 s9 s10 s11
      clear hN hD
      rintro a15 w15 hN hD ⟨s53, s0, s3, s6, s7, s8, s9, s10, s11, hGR, -⟩
      replace HB := below_step HB hGR
      replace HBX3 := blk_below HBX3 hGR
      replace HYM29 := HYM29
      replace HYC29 := HYC29
      replace HYM32_0 := HYM32_0
      replace HB5 := below_step HB5 hGR
      replace HOX36 := HOX36.below hGR
      replace HYM36 := HYM36
      replace HYC36 := HYC36
      replace HOX38 := HOX38.below hGR
      replace HBX9 := blk_below HBX9 hGR
      replace HOX42_0 := HOX42_0.below hGR
      replace HYM42_0 := HYM42_0
      have zsw15 : w14.heap.size ≤ w15.heap.size := hGR.size
      clear hGR
      show Code.wp _ _ _ _ _
      refine wp_cond (t := (!(eqB (sAt (l0.map LO.o) l1) (sAt (l0.map LO.o) l1))) || ((sAtC (l0.map LO.o) l1) != (sAtC (l0.map LO.o) l1))) s53 ?_
      rw [show ((!(eqB (sAt (l0.map LO.o) l1) (sAt (l0.map LO.o) l1))) || ((sAtC (l0.map LO.o) l1) != (sAtC (l0.map LO.o) l1))) = false from (by have hpOX36 := cntL_pos (M := mLO) y36; have hpOX42_0 := cntL_pos (M := mLO) y42_0; simp [eqB, cnt_mkL] <;> omega)]
      show Code.wp _ _ _ _ _
      refine wp_skip ?_
      show Code.wp _ _ _ _ _
      refine wp_seq ?_
      refine wp_seq ?_
      have hBw15 := HB
      refine deedL [.eq 54 (.slice A36 ((l0.map LO.o).length) c36), .eq 55 (.slice A0_ l0.length c0_), .s1 56 fun x_ W => ∃ (A56 : Option Addr) (c56 : Nat) (y56 : List LO), x_ = .slice A56 ((l0.map LO.o).length) c56 ∧ OwnAt eLO W A56 y56 (w15.heap.size) W.heap.size ∧ y56.map LO.o = l0.map LO.o ∧ Caps y56, .eq 57 (.bool (eqB (l0.map LO.o) (l0.map LO.o))), .eq 58 (.bool (!(eqB (l0.map LO.o) (l0.map LO.o)))), .eq 0 (.slice A0_ l0.length c0_), .eq 3 (.pointer (some ⟨g3, 0, none⟩)), .eq 6 (.slice A32_0 ((sAt (l0.map LO.o) l1).length) c32_0), .eq 7 (.int .i64 (sAtC (l0.map LO.o) l1)), .eq 8 (.slice A36 ((l0.map LO.o).length) c36), .eq 9 (.pointer (some ⟨g9, 0, none⟩)), .eq 10 (.slice A42_0 ((sAt (l0.map LO.o) l1).length) c42_0), .eq 11 (.int .i64 (sAtC (l0.map LO.o) l1)), .w (Below w15.heap.size w15)] 119 [[9], [5], [1, 13], [0, 2, 13], [3]] [] [4, 2, 5, 6, 7, 8, 9, 10, 11, 12, 13] hM hN hD (by kernel_rfl) ⟨s0, s3, s6, s7, s8, s9, s10, s11, ⟨Below.refl _ _, below_drew (Below.refl _ _)⟩, trivial⟩ ⟨fun _ _ _ hb h => by obtain ⟨A56, c56, y56, e_, z0, z1, z2⟩ := h; exact ⟨_, _, _, e_, (z0.below hb).wide (Nat.le_refl _) hb.size, z1, z2⟩, fun _ _ hb h => below_step h hb, trivial⟩ (fun hgrow => ⟨fun _ _ h => rv rfl (x_move rfl h.1) rfl,
        fun _ _ h => rv rfl (x_move rfl h.1) rfl,
        fun _ _ h => rc hgrow rfl Try.func14 (by kernel_rfl) rfl rfl (args1 h.1) (toOpS_L A0_ l0 c0_ _ (RV.below HR0 (below_step HB h.2.1)) hxn0 hdl0) (fun _ _ hR => by obtain ⟨A56, c56, y56, e_, z0, z1, z2, hb⟩ := hR; exact ⟨_, e_, hb, A56, c56, y56, rfl, (z0.wide h.2.1.size (Nat.le_refl _)), z1, z2⟩),
        ?_,
        fun _ _ h => rv rfl (x_not rfl h.1) rfl, trivial⟩) ?_
      · rintro a_ W ⟨h0, h2, h13, -⟩
        obtain ⟨A56, c56, y56, e2, HOX56, HYM56, HYC56⟩ := h2
        exact rc hgrow rfl Try.func17 (by kernel_rfl) rfl rfl (args2 h0 e2) (eqOpS_L A36 y36 c36 (l0.map LO.o) A56 y56 c56 (l0.map LO.o) _ (HYM36) HYM56 (HOX36.below h13).RV HOX56.RV (by simp only [List.length_map]; omega) (by intro o ho; obtain ⟨x, hx, rfl⟩ := List.mem_map.1 ho; have := hdl0 x hx; omega)) (fun _ _ h => ⟨_, h.1, h.2, rfl⟩)
      clear s0 s3 s6 s7 s8 s9 s10 s11 s53
      clear hN hD
      rintro a17 w17 hN hD ⟨s58, ⟨A56, c56, y56, s56, HOX56, HYM56, HYC56⟩, s0, s3, s6, s7, s8, s9, s10, s11, hGR, -⟩
      replace HB := below_step HB hGR
      replace HBX3 := blk_below HBX3 hGR
      replace HYM29 := HYM29
      replace HYC29 := HYC29
      replace HYM32_0 := HYM32_0
      replace HB5 := below_step HB5 hGR
      replace HOX36 := HOX36.below hGR
      replace HYM36 := HYM36
      replace HYC36 := HYC36
      replace HOX38 := HOX38.below hGR
      replace HBX9 := blk_below HBX9 hGR
      replace HOX42_0 := HOX42_0.below hGR
      replace HYM42_0 := HYM42_0
      clear HOX56
      have zsw17 : w15.heap.size ≤ w17.heap.size := hGR.size
      clear hGR
      show Code.wp _ _ _ _ _
      refine wp_cond (t := !(eqB (l0.map LO.o) (l0.map LO.o))) s58 ?_
      rw [show (!(eqB (l0.map LO.o) (l0.map LO.o))) = false from (by have hpOX36 := cntL_pos (M := mLO) y36; have hpOX42_0 := cntL_pos (M := mLO) y42_0; simp [eqB, cnt_mkL] <;> omega)]
      show Code.wp _ _ _ _ _
      refine wp_skip ?_
      show Code.wp _ _ _ _ _
      refine wp_seq ?_
      refine wp_seq ?_
      have hBw17 := HB
      refine deedL [.eq 59 (.agg #[Value.slice A38 l1.length c38]), .eq 60 (.agg #[Value.slice A1_ l1.length c1_]), .s1 61 fun x_ W => ∃ (A61 : Option Addr) (c61 : Nat), x_ = .agg #[Value.slice A61 l1.length c61] ∧ OwnI W A61 l1 (w17.heap.size) W.heap.size, .eq 62 (.bool (l1 == l1)), .eq 63 (.bool (!(l1 == l1))), .eq 0 (.slice A0_ l0.length c0_), .eq 3 (.pointer (some ⟨g3, 0, none⟩)), .eq 6 (.slice A32_0 ((sAt (l0.map LO.o) l1).length) c32_0), .eq 7 (.int .i64 (sAtC (l0.map LO.o) l1)), .eq 8 (.slice A36 ((l0.map LO.o).length) c36), .eq 9 (.pointer (some ⟨g9, 0, none⟩)), .eq 10 (.slice A42_0 ((sAt (l0.map LO.o) l1).length) c42_0), .eq 11 (.int .i64 (sAtC (l0.map LO.o) l1)), .w (Below w17.heap.size w17)] 119 [[10, 13], [6, 13], [1, 13], [0, 2, 13], [3]] [] [4, 2, 5, 6, 7, 8, 9, 10, 11, 12, 13] hM hN hD (by kernel_rfl) ⟨s0, s3, s6, s7, s8, s9, s10, s11, ⟨Below.refl _ _, below_drew (Below.refl _ _)⟩, trivial⟩ ⟨fun _ _ _ hb h => by obtain ⟨A61, c61, e_, z0⟩ := h; exact ⟨_, _, e_, (z0.below hb).wide (Nat.le_refl _) hb.size⟩, fun _ _ hb h => below_step h hb, trivial⟩ (fun hgrow => ⟨fun _ _ h => rv rfl (x_loadS rfl h.1 Try.underlying41 [.slice A38 l1.length c38] sz41 (blk_list (L := [.slice A38 l1.length c38]) (blk_below HBX9 h.2.1) 0 rfl)) rfl,
        fun _ _ h => rv rfl (x_loadS rfl h.1 Try.underlying37 [.slice A1_ l1.length c1_] sz37 (blk_list (L := [.slice A1_ l1.length c1_]) (blk_below HBX3 h.2.1) 0 rfl)) rfl,
        fun _ _ h => rc hgrow rfl Try.func25 (by kernel_rfl) rfl rfl (args1 h.1) (toV_L A1_ l1 c1_ _ (RI.below HR1 (below_step HB h.2.1)) hxn1) (fun _ _ hR => by obtain ⟨A61, c61, e_, z0, hb⟩ := hR; exact ⟨_, e_, hb, A61, c61, rfl, (z0.wide h.2.1.size (Nat.le_refl _))⟩),
        ?_,
        fun _ _ h => rv rfl (x_not rfl h.1) rfl, trivial⟩) ?_
      · rintro a_ W ⟨h0, h2, h13, -⟩
        obtain ⟨A61, c61, e2, HOX61⟩ := h2
        exact rc hgrow rfl Try.func27 (by kernel_rfl) rfl rfl (args2 h0 e2) (eqV_calls A38 l1 c38 A61 l1 c61 _ (HOX38.below h13).RI HOX61.RI (by omega)) (fun _ _ h => ⟨_, h.1, h.2, rfl⟩)
      clear s0 s3 s6 s7 s8 s9 s10 s11 s58
      clear hN hD
      rintro a19 w19 hN hD ⟨s63, ⟨A61, c61, s61, HOX61⟩, s0, s3, s6, s7, s8, s9, s10, s11, hGR, -⟩
      replace HB := below_step HB hGR
      replace HBX3 := blk_below HBX3 hGR
      replace HYM29 := HYM29
      replace HYC29 := HYC29
      replace HYM32_0 := HYM32_0
      replace HB5 := below_step HB5 hGR
      replace HOX36 := HOX36.below hGR
      replace HYM36 := HYM36
      replace HYC36 := HYC36
      replace HOX38 := HOX38.below hGR
      replace HBX9 := blk_below HBX9 hGR
      replace HOX42_0 := HOX42_0.below hGR
      replace HYM42_0 := HYM42_0
      replace HYM56 := HYM56
      replace HYC56 := HYC56
      clear HOX61
      have zsw19 : w17.heap.size ≤ w19.heap.size := hGR.size
      clear hGR
      show Code.wp _ _ _ _ _
      refine wp_cond (t := !(l1 == l1)) s63 ?_
      rw [show (!(l1 == l1)) = false from (by have hpOX36 := cntL_pos (M := mLO) y36; have hpOX42_0 := cntL_pos (M := mLO) y42_0; simp [eqB, cnt_mkL] <;> omega)]
      show Code.wp _ _ _ _ _
      refine wp_skip ?_
      show Code.wp _ _ _ _ _
      refine wp_seq ?_
      refine deedL [.eq 12 (.int .i64 1), .eq 0 (.slice A0_ l0.length c0_), .eq 3 (.pointer (some ⟨g3, 0, none⟩)), .eq 6 (.slice A32_0 ((sAt (l0.map LO.o) l1).length) c32_0), .eq 7 (.int .i64 (sAtC (l0.map LO.o) l1)), .eq 8 (.slice A36 ((l0.map LO.o).length) c36), .eq 9 (.pointer (some ⟨g9, 0, none⟩)), .eq 10 (.slice A42_0 ((sAt (l0.map LO.o) l1).length) c42_0), .eq 11 (.int .i64 (sAtC (l0.map LO.o) l1)), .w (Below w19.heap.size w19)] 119 [[]] [] [0, 1, 2, 3, 4, 5, 6, 7, 8, 9] hM hN hD (by kernel_rfl) ⟨s0, s3, s6, s7, s8, s9, s10, s11, ⟨Below.refl _ _, below_drew (Below.refl _ _)⟩, trivial⟩ ⟨fun _ _ hb h => below_step h hb, trivial⟩ (fun hgrow => ⟨fun _ _ _ => rv rfl (x_assign rfl rfl) rfl, trivial⟩) ?_
      clear s0 s3 s6 s7 s8 s9 s10 s11 s63
      clear hN hD
      rintro a21 w21 hN hD ⟨s12, s0, s3, s6, s7, s8, s9, s10, s11, hGR, -⟩
      replace HB := below_step HB hGR
      replace HBX3 := blk_below HBX3 hGR
      replace HYM29 := HYM29
      replace HYC29 := HYC29
      replace HYM32_0 := HYM32_0
      replace HB5 := below_step HB5 hGR
      replace HOX36 := HOX36.below hGR
      replace HYM36 := HYM36
      replace HYC36 := HYC36
      replace HOX38 := HOX38.below hGR
      replace HBX9 := blk_below HBX9 hGR
      replace HOX42_0 := HOX42_0.below hGR
      replace HYM42_0 := HYM42_0
      replace HYM56 := HYM56
      replace HYC56 := HYC56
      have zsw21 : w19.heap.size ≤ w21.heap.size := hGR.size
      clear hGR
      show Code.wp _ _ _ _ _
      refine wp_seq ?_
      refine deedL [.eq 64 (.slice A36 ((l0.map LO.o).length) c36), .eq 65 (.int .i64 1), .s1 66 fun x_ W => x_ = .int .i64 (1 + cntL mLO y36) ∧ OwnAt eLO W A36 (mkL mLO y36 1) (w11.heap.size) (w12.heap.size) ∧ Kx (Mine (w11.heap.size) (w12.heap.size)) w21 W, .eq 12 (.int .i64 (1 + cntL mLO y36)), .eq 0 (.slice A0_ l0.length c0_), .eq 3 (.pointer (some ⟨g3, 0, none⟩)), .eq 6 (.slice A32_0 ((sAt (l0.map LO.o) l1).length) c32_0), .eq 7 (.int .i64 (sAtC (l0.map LO.o) l1)), .eq 8 (.slice A36 ((l0.map LO.o).length) c36), .eq 9 (.pointer (some ⟨g9, 0, none⟩)), .eq 10 (.slice A42_0 ((sAt (l0.map LO.o) l1).length) c42_0), .eq 11 (.int .i64 (sAtC (l0.map LO.o) l1)), .eq 12 (.int .i64 1), .w (Below w21.heap.size w21)] 119 [[8], [12], [0, 1, 13], [2]] [[], [], [13], [12]] [3, 2, 4, 5, 6, 7, 8, 9, 10, 11] hM hN hD (by kernel_rfl) ⟨s0, s3, s6, s7, s8, s9, s10, s11, s12, ⟨Below.refl _ _, below_drew (Below.refl _ _)⟩, trivial⟩ ⟨fun _ _ _ hb h => ⟨h.1, h.2.1.below hb, h.2.2.step hb⟩, fun _ _ hb h => below_step h hb, trivial⟩ (fun hgrow => ⟨fun _ _ h => rv rfl (x_move rfl h.1) rfl,
        fun _ _ h => rv rfl (x_move rfl h.1) rfl,
        ?_,
        ?_, trivial⟩) ?_
      · rintro a_ W ⟨h0, h1, h13, -⟩
        have hm_ := HOX36.below h13
        exact runs_call Try.func18 (by kernel_rfl) rfl _ (wanted_none rfl) rfl (args2 h0 h1) ((markOpS_L A36 y36 c36 (l0.map LO.o) 1 (w11.heap.size) (w12.heap.size) W HYM36 hm_ (by omega) (by have h1_ := cnt_tot y36; rw [HYM36] at h1_; have h2_ := len_of HYM36; omega) (by simp only [List.length_map]; omega)).mono fun e W2 hR => by obtain ⟨u1, u2, u3⟩ := hR; exact ⟨_, u1, owe_keep trivial ⟨rfl, u2, kx_tr (kx_of_below h13 _) u3⟩⟩)
      · rintro a_ W ⟨h2, -⟩
        obtain ⟨e2, how_, hkx_⟩ := h2
        exact rv rfl (x_assign rfl e2) rfl
      clear s0 s3 s6 s7 s8 s9 s10 s11 s12
      clear hN hD
      clear HOX36
      rintro a22 w22 hN hD ⟨s12, ⟨s66, HOWN, hkx⟩, s0, s3, s6, s7, s8, s9, s10, s11, -⟩
      replace HB := Kx.below HB hkx HB.size (fun k e => Nat.le_trans zzOX36 e.1)
      replace HBX3 := blk_kx HBX3 hkx (fun e => by have h1_ := e.1; have h2_ := e.2; omega)
      replace HYM29 := HYM29
      replace HYC29 := HYC29
      replace HYM32_0 := HYM32_0
      replace HB5 := Kx.below HB5 hkx HB5.size (fun k e => Nat.le_trans (by omega) e.1)
      replace HYM36 := HYM36
      replace HYC36 := HYC36
      replace HOX38 := HOX38.kx hkx (fun i u v e => by have := e.1; have := e.2; omega)
      replace HBX9 := blk_kx HBX9 hkx (fun e => by have h1_ := e.1; have h2_ := e.2; omega)
      replace HOX42_0 := HOX42_0.kx hkx (fun i u v e => by have := e.1; have := e.2; omega)
      replace HYM42_0 := HYM42_0
      replace HYM56 := HYM56
      replace HYC56 := HYC56
      have HOX36 := HOWN
      have zsw22 : w21.heap.size ≤ w22.heap.size := hkx.size
      clear HOWN hkx
      show Code.wp _ _ _ _ _
      refine wp_seq ?_
      refine deedL [.eq 67 (.agg #[Value.slice A38 l1.length c38]), .eq 68 (.int .i64 (1 + cntL mLO y36)), .s1 69 fun x_ W => x_ = .int .i64 (1 + cntL mLO y36 + (l1.length : Int)) ∧ OwnI W A38 (mk (1 + cntL mLO y36) l1.length) (w12.heap.size) (w13.heap.size) ∧ Kx (Mine (w12.heap.size) (w13.heap.size)) w22 W, .eq 12 (.int .i64 (1 + cntL mLO y36 + (l1.length : Int))), .eq 0 (.slice A0_ l0.length c0_), .eq 3 (.pointer (some ⟨g3, 0, none⟩)), .eq 6 (.slice A32_0 ((sAt (l0.map LO.o) l1).length) c32_0), .eq 7 (.int .i64 (sAtC (l0.map LO.o) l1)), .eq 9 (.pointer (some ⟨g9, 0, none⟩)), .eq 10 (.slice A42_0 ((sAt (l0.map LO.o) l1).length) c42_0), .eq 11 (.int .i64 (sAtC (l0.map LO.o) l1)), .eq 12 (.int .i64 (1 + cntL mLO y36)), .w (Below w22.heap.size w22)] 119 [[8, 12], [11], [0, 1, 12], [2]] [[], [], [12], [11]] [3, 2, 4, 5, 6, 7, 8, 9, 10] hM hN hD (by kernel_rfl) ⟨s0, s3, s6, s7, s9, s10, s11, s12, ⟨Below.refl _ _, below_drew (Below.refl _ _)⟩, trivial⟩ ⟨fun _ _ _ hb h => ⟨h.1, h.2.1.below hb, h.2.2.step hb⟩, fun _ _ hb h => below_step h hb, trivial⟩ (fun hgrow => ⟨fun _ _ h => rv rfl (x_loadS rfl h.1 Try.underlying41 [.slice A38 l1.length c38] sz41 (blk_list (L := [.slice A38 l1.length c38]) (blk_below HBX9 h.2.1) 0 rfl)) rfl,
        fun _ _ h => rv rfl (x_move rfl h.1) rfl,
        ?_,
        ?_, trivial⟩) ?_
      · rintro a_ W ⟨h0, h1, h12, -⟩
        have hm_ := HOX38.below h12
        exact runs_call Try.func28 (by kernel_rfl) rfl _ (wanted_none rfl) rfl (args2 h0 h1) ((markV_L A38 l1 c38 (1 + cntL mLO y36) (w12.heap.size) (w13.heap.size) W hm_ (by omega) (by omega)).mono fun e W2 hR => by obtain ⟨u1, u2, u3⟩ := hR; exact ⟨_, u1, owe_keep trivial ⟨rfl, u2, kx_tr (kx_of_below h12 _) u3⟩⟩)
      · rintro a_ W ⟨h2, -⟩
        obtain ⟨e2, how_, hkx_⟩ := h2
        exact rv rfl (x_assign rfl e2) rfl
      clear s0 s3 s6 s7 s8 s9 s10 s11 s12
      clear hN hD
      clear HOX38
      clear HBX9
      rintro a23 w23 hN hD ⟨s12, ⟨s69, HOWN, hkx⟩, s0, s3, s6, s7, s9, s10, s11, -⟩
      replace HB := Kx.below HB hkx HB.size (fun k e => Nat.le_trans zzOX38 e.1)
      replace HBX3 := blk_kx HBX3 hkx (fun e => by have h1_ := e.1; have h2_ := e.2; omega)
      replace HYM29 := HYM29
      replace HYC29 := HYC29
      replace HYM32_0 := HYM32_0
      replace HB5 := Kx.below HB5 hkx HB5.size (fun k e => Nat.le_trans (by omega) e.1)
      replace HYM36 := HYM36
      replace HYC36 := HYC36
      replace HOX42_0 := HOX42_0.kx hkx (fun i u v e => by have := e.1; have := e.2; omega)
      replace HYM42_0 := HYM42_0
      replace HYM56 := HYM56
      replace HYC56 := HYC56
      replace HOX36 := HOX36.kx hkx (fun i u v e => by have := e.1; have := e.2; omega)
      have HOX38 := HOWN
      have zsw23 : w22.heap.size ≤ w23.heap.size := hkx.size
      clear HOWN hkx
      show Code.wp _ _ _ _ _
      refine wp_seq ?_
      refine wp_seq ?_
      refine deedL (.eq 70 (.int .i64 (1 + cntL mLO y36 + (l1.length : Int))) :: .eq 71 (.bool (decide (1 + cntL mLO y36 + (l1.length : Int) < 0))) :: .eq 72 (.bool (decide (1 + cntL mLO y36 + (l1.length : Int) < 0))) :: .gv (((decide (1 + cntL mLO y36 + (l1.length : Int) < 0)) == false)) 73 (.slice A42_0 ((sAt (l0.map LO.o) l1).length) c42_0) :: .gv (((decide (1 + cntL mLO y36 + (l1.length : Int) < 0)) == false)) 74 (.slice A32_0 ((sAt (l0.map LO.o) l1).length) c32_0) :: .gv (((decide (1 + cntL mLO y36 + (l1.length : Int) < 0)) == false)) 75 (.bool (eqB (sAt (l0.map LO.o) l1) (sAt (l0.map LO.o) l1))) :: .gv (((decide (1 + cntL mLO y36 + (l1.length : Int) < 0)) == false)) 76 (.bool (!(eqB (sAt (l0.map LO.o) l1) (sAt (l0.map LO.o) l1)))) :: .eq 77 (.bool ((decide (1 + cntL mLO y36 + (l1.length : Int) < 0)) || (!(eqB (sAt (l0.map LO.o) l1) (sAt (l0.map LO.o) l1))))) :: .eq 78 (.bool ((decide (1 + cntL mLO y36 + (l1.length : Int) < 0)) || (!(eqB (sAt (l0.map LO.o) l1) (sAt (l0.map LO.o) l1))))) :: .gv ((((decide (1 + cntL mLO y36 + (l1.length : Int) < 0)) || (!(eqB (sAt (l0.map LO.o) l1) (sAt (l0.map LO.o) l1)))) == false)) 79 (.int .i64 (sAtC (l0.map LO.o) l1)) :: .gv ((((decide (1 + cntL mLO y36 + (l1.length : Int) < 0)) || (!(eqB (sAt (l0.map LO.o) l1) (sAt (l0.map LO.o) l1)))) == false)) 80 (.int .i64 (sAtC (l0.map LO.o) l1)) :: .gv ((((decide (1 + cntL mLO y36 + (l1.length : Int) < 0)) || (!(eqB (sAt (l0.map LO.o) l1) (sAt (l0.map LO.o) l1)))) == false)) 81 (.bool ((sAtC (l0.map LO.o) l1) != (sAtC (l0.map LO.o) l1))) :: .eq 82 (.bool (((decide (1 + cntL mLO y36 + (l1.length : Int) < 0)) || (!(eqB (sAt (l0.map LO.o) l1) (sAt (l0.map LO.o) l1)))) || ((sAtC (l0.map LO.o) l1) != (sAtC (l0.map LO.o) l1)))) :: .eq 0 (.slice A0_ l0.length c0_) :: .eq 3 (.pointer (some ⟨g3, 0, none⟩)) :: .eq 6 (.slice A32_0 ((sAt (l0.map LO.o) l1).length) c32_0) :: .eq 7 (.int .i64 (sAtC (l0.map LO.o) l1)) :: .eq 10 (.slice A42_0 ((sAt (l0.map LO.o) l1).length) c42_0) :: .eq 11 (.int .i64 (sAtC (l0.map LO.o) l1)) :: .eq 12 (.int .i64 (1 + cntL mLO y36 + (l1.length : Int))) :: .w (Below w23.heap.size w23) :: []) 119 [[19], [0], [1], [2, 17], [2, 15], [2, 3, 4, 20], [2, 5], [2, 6], [7], [8, 18], [8, 16], [8, 9, 10], [8, 11]] [] [12, 13, 14, 15, 16, 17, 18, 19, 20] hM hN hD (by kernel_rfl) ⟨s0, s3, s6, s7, s10, s11, s12, ⟨Below.refl _ _, below_drew (Below.refl _ _)⟩, trivial⟩ ⟨fun _ _ hb h => below_step h hb, trivial⟩ (fun hgrow => ⟨fun _ _ h => rv rfl (x_move rfl h.1) rfl,
        fun _ _ h => rv rfl (x_lss rfl h.1 rfl) rfl,
        fun _ _ h => rv rfl (x_move rfl h.1) rfl,
        fun _ _ h => rb rfl rfl h.1 (fun hgt => x_move rfl h.2.1) (fun _ z => z),
        fun _ _ h => rb rfl rfl h.1 (fun hgt => x_move rfl h.2.1) (fun _ z => z),
        fun _ _ h => rcb hgrow rfl rfl h.1 Try.func17 (by kernel_rfl) rfl rfl (fun hgt => args2 (h.2.1.1 hgt) (h.2.2.1.1 hgt)) (fun hgt => eqOpS_L A42_0 y42_0 c42_0 (sAt (l0.map LO.o) l1) A32_0 y32_0 c32_0 (sAt (l0.map LO.o) l1) _ (HYM42_0) (HYM32_0) (HOX42_0.below h.2.2.2.1).RV (RV.below HWOX32_0 (below_step HB5 h.2.2.2.1)) (by have := part_len (sAt_sub (l0.map LO.o) l1); omega) (by exact fun o ho => Nat.le_trans (part_deps (sAt_sub (l0.map LO.o) l1) hdl0 o ho) (by decide))) (fun _ _ _ h => h) (fun _ _ z => z),
        fun _ _ h => rb rfl rfl h.1 (fun hgt => x_not rfl (h.2.1.1 hgt)) (fun _ z => z),
        fun _ _ h => rv rfl (x_or rfl rfl h.1 (fun hc => h.2.1.1 (beq_iff_eq.2 hc))) rfl,
        fun _ _ h => rv rfl (x_move rfl h.1) rfl,
        fun _ _ h => rb rfl rfl h.1 (fun hgt => x_move rfl h.2.1) (fun _ z => z),
        fun _ _ h => rb rfl rfl h.1 (fun hgt => x_move rfl h.2.1) (fun _ z => z),
        fun _ _ h => rb rfl rfl h.1 (fun hgt => x_neq rfl (h.2.1.1 hgt) (h.2.2.1.1 hgt)) (fun _ z => z),
        fun _ _ h => rv rfl (x_or rfl rfl h.1 (fun hc => h.2.1.1 (beq_iff_eq.2 hc))) rfl, trivial⟩) ?_
      clear s0 s3 s6 s7 s9 s10 s11 s12
      clear hN hD
      rintro a24 w24 hN hD ⟨s82, s0, s3, s6, s7, s10, s11, s12, hGR, -⟩
      replace HB := below_step HB hGR
      replace HBX3 := blk_below HBX3 hGR
      replace HYM29 := HYM29
      replace HYC29 := HYC29
      replace HYM32_0 := HYM32_0
      replace HB5 := below_step HB5 hGR
      replace HYM36 := HYM36
      replace HYC36 := HYC36
      replace HOX42_0 := HOX42_0.below hGR
      replace HYM42_0 := HYM42_0
      replace HYM56 := HYM56
      replace HYC56 := HYC56
      replace HOX36 := HOX36.below hGR
      replace HOX38 := HOX38.below hGR
      have zsw24 : w23.heap.size ≤ w24.heap.size := hGR.size
      clear hGR
      show Code.wp _ _ _ _ _
      refine wp_cond (t := ((decide (1 + cntL mLO y36 + (l1.length : Int) < 0)) || (!(eqB (sAt (l0.map LO.o) l1) (sAt (l0.map LO.o) l1)))) || ((sAtC (l0.map LO.o) l1) != (sAtC (l0.map LO.o) l1))) s82 ?_
      rw [show (((decide (1 + cntL mLO y36 + (l1.length : Int) < 0)) || (!(eqB (sAt (l0.map LO.o) l1) (sAt (l0.map LO.o) l1)))) || ((sAtC (l0.map LO.o) l1) != (sAtC (l0.map LO.o) l1))) = false from (by have hpOX42_0 := cntL_pos (M := mLO) y42_0; have hpOX36 := cntL_pos (M := mLO) y36; simp [eqB, cnt_mkL] <;> omega)]
      show Code.wp _ _ _ _ _
      refine wp_skip ?_
      show Code.wp _ _ _ _ _
      refine wp_seq ?_
      refine deedL [.eq 13 (.int .i64 1), .eq 0 (.slice A0_ l0.length c0_), .eq 3 (.pointer (some ⟨g3, 0, none⟩)), .eq 6 (.slice A32_0 ((sAt (l0.map LO.o) l1).length) c32_0), .eq 7 (.int .i64 (sAtC (l0.map LO.o) l1)), .eq 10 (.slice A42_0 ((sAt (l0.map LO.o) l1).length) c42_0), .w (Below w24.heap.size w24)] 119 [[]] [] [0, 1, 2, 3, 4, 5, 6] hM hN hD (by kernel_rfl) ⟨s0, s3, s6, s7, s10, ⟨Below.refl _ _, below_drew (Below.refl _ _)⟩, trivial⟩ ⟨fun _ _ hb h => below_step h hb, trivial⟩ (fun hgrow => ⟨fun _ _ _ => rv rfl (x_assign rfl rfl) rfl, trivial⟩) ?_
      clear s0 s3 s6 s7 s10 s11 s12 s82
      clear hN hD
      rintro a26 w26 hN hD ⟨s13, s0, s3, s6, s7, s10, hGR, -⟩
      replace HB := below_step HB hGR
      replace HBX3 := blk_below HBX3 hGR
      replace HYM29 := HYM29
      replace HYC29 := HYC29
      replace HYM32_0 := HYM32_0
      replace HB5 := below_step HB5 hGR
      replace HYM36 := HYM36
      replace HYC36 := HYC36
      replace HOX42_0 := HOX42_0.below hGR
      replace HYM42_0 := HYM42_0
      replace HYM56 := HYM56
      replace HYC56 := HYC56
      replace HOX36 := HOX36.below hGR
      replace HOX38 := HOX38.below hGR
      have zsw26 : w24.heap.size ≤ w26.heap.size := hGR.size
      clear hGR
      show Code.wp _ _ _ _ _
      refine wp_seq ?_
      refine deedL [.eq 83 (.slice A42_0 ((sAt (l0.map LO.o) l1).length) c42_0), .eq 84 (.int .i64 1), .s1 85 fun x_ W => x_ = .int .i64 (1 + cntL mLO y42_0) ∧ OwnAt eLO W A42_0 (mkL mLO y42_0 1) (w13.heap.size) (w14.heap.size) ∧ Kx (Mine (w13.heap.size) (w14.heap.size)) w26 W, .eq 13 (.int .i64 (1 + cntL mLO y42_0)), .eq 0 (.slice A0_ l0.length c0_), .eq 3 (.pointer (some ⟨g3, 0, none⟩)), .eq 6 (.slice A32_0 ((sAt (l0.map LO.o) l1).length) c32_0), .eq 7 (.int .i64 (sAtC (l0.map LO.o) l1)), .eq 10 (.slice A42_0 ((sAt (l0.map LO.o) l1).length) c42_0), .eq 13 (.int .i64 1), .w (Below w26.heap.size w26)] 119 [[8], [9], [0, 1, 10], [2]] [[], [], [10], [9]] [3, 2, 4, 5, 6, 7, 8] hM hN hD (by kernel_rfl) ⟨s0, s3, s6, s7, s10, s13, ⟨Below.refl _ _, below_drew (Below.refl _ _)⟩, trivial⟩ ⟨fun _ _ _ hb h => ⟨h.1, h.2.1.below hb, h.2.2.step hb⟩, fun _ _ hb h => below_step h hb, trivial⟩ (fun hgrow => ⟨fun _ _ h => rv rfl (x_move rfl h.1) rfl,
        fun _ _ h => rv rfl (x_move rfl h.1) rfl,
        ?_,
        ?_, trivial⟩) ?_
      · rintro a_ W ⟨h0, h1, h10, -⟩
        have hm_ := HOX42_0.below h10
        exact runs_call Try.func18 (by kernel_rfl) rfl _ (wanted_none rfl) rfl (args2 h0 h1) ((markOpS_L A42_0 y42_0 c42_0 (sAt (l0.map LO.o) l1) 1 (w13.heap.size) (w14.heap.size) W HYM42_0 hm_ (by omega) (by have := part_cnt HYM42_0 (sAt_sub (l0.map LO.o) l1); omega) (by have := part_len (sAt_sub (l0.map LO.o) l1); omega)).mono fun e W2 hR => by obtain ⟨u1, u2, u3⟩ := hR; exact ⟨_, u1, owe_keep trivial ⟨rfl, u2, kx_tr (kx_of_below h10 _) u3⟩⟩)
      · rintro a_ W ⟨h2, -⟩
        obtain ⟨e2, how_, hkx_⟩ := h2
        exact rv rfl (x_assign rfl e2) rfl
      clear s0 s3 s6 s7 s10 s13
      clear hN hD
      clear HOX42_0
      rintro a27 w27 hN hD ⟨s13, ⟨s85, HOWN, hkx⟩, s0, s3, s6, s7, s10, -⟩
      replace HB := Kx.below HB hkx HB.size (fun k e => Nat.le_trans zzOX42_0 e.1)
      replace HBX3 := blk_kx HBX3 hkx (fun e => by have h1_ := e.1; have h2_ := e.2; omega)
      replace HYM29 := HYM29
      replace HYC29 := HYC29
      replace HYM32_0 := HYM32_0
      replace HB5 := Kx.below HB5 hkx HB5.size (fun k e => Nat.le_trans (by omega) e.1)
      replace HYM36 := HYM36
      replace HYC36 := HYC36
      replace HYM42_0 := HYM42_0
      replace HYM56 := HYM56
      replace HYC56 := HYC56
      replace HOX36 := HOX36.kx hkx (fun i u v e => by have := e.1; have := e.2; omega)
      replace HOX38 := HOX38.kx hkx (fun i u v e => by have := e.1; have := e.2; omega)
      have HOX42_0 := HOWN
      have zsw27 : w26.heap.size ≤ w27.heap.size := hkx.size
      clear HOWN hkx
      show Code.wp _ _ _ _ _
      refine wp_seq ?_
      refine deedL [.eq 14 (.int .i64 1), .eq 0 (.slice A0_ l0.length c0_), .eq 3 (.pointer (some ⟨g3, 0, none⟩)), .eq 6 (.slice A32_0 ((sAt (l0.map LO.o) l1).length) c32_0), .eq 7 (.int .i64 (sAtC (l0.map LO.o) l1)), .eq 10 (.slice A42_0 ((sAt (l0.map LO.o) l1).length) c42_0), .eq 13 (.int .i64 (1 + cntL mLO y42_0)), .w (Below w27.heap.size w27)] 119 [[]] [] [0, 1, 2, 3, 4, 5, 6, 7] hM hN hD (by kernel_rfl) ⟨s0, s3, s6, s7, s10, s13, ⟨Below.refl _ _, below_drew (Below.refl _ _)⟩, trivial⟩ ⟨fun _ _ hb h => below_step h hb, trivial⟩ (fun hgrow => ⟨fun _ _ _ => rv rfl (x_assign rfl rfl) rfl, trivial⟩) ?_
      clear s0 s3 s6 s7 s10 s13
      clear hN hD
      rintro a28 w28 hN hD ⟨s14, s0, s3, s6, s7, s10, s13, hGR, -⟩
      replace HB := below_step HB hGR
      replace HBX3 := blk_below HBX3 hGR
      replace HYM29 := HYM29
      replace HYC29 := HYC29
      replace HYM32_0 := HYM32_0
      replace HB5 := below_step HB5 hGR
      replace HYM36 := HYM36
      replace HYC36 := HYC36
      replace HYM42_0 := HYM42_0
      replace HYM56 := HYM56
      replace HYC56 := HYC56
      replace HOX36 := HOX36.below hGR
      replace HOX38 := HOX38.below hGR
      replace HOX42_0 := HOX42_0.below hGR
      have zsw28 : w27.heap.size ≤ w28.heap.size := hGR.size
      clear hGR
      show Code.wp _ _ _ _ _
      refine wp_seq ?_
      refine deedL [.eq 86 (.slice A42_0 ((sAt (l0.map LO.o) l1).length) c42_0), .eq 87 (.int .i64 1), .eq 88 (.int .i64 (1 + cntL mLO y42_0)), .eq 14 (.int .i64 (1 + cntL mLO y42_0)), .eq 0 (.slice A0_ l0.length c0_), .eq 3 (.pointer (some ⟨g3, 0, none⟩)), .eq 6 (.slice A32_0 ((sAt (l0.map LO.o) l1).length) c32_0), .eq 7 (.int .i64 (sAtC (l0.map LO.o) l1)), .eq 10 (.slice A42_0 ((sAt (l0.map LO.o) l1).length) c42_0), .eq 13 (.int .i64 (1 + cntL mLO y42_0)), .eq 14 (.int .i64 1), .w (Below w28.heap.size w28)] 119 [[8], [10], [0, 1, 11], [2]] [[], [], [], [10]] [3, 4, 5, 6, 7, 8, 9, 11] hM hN hD (by kernel_rfl) ⟨s0, s3, s6, s7, s10, s13, s14, ⟨Below.refl _ _, below_drew (Below.refl _ _)⟩, trivial⟩ ⟨fun _ _ hb h => below_step h hb, trivial⟩ (fun hgrow => ⟨fun _ _ h => rv rfl (x_move rfl h.1) rfl,
        fun _ _ h => rv rfl (x_move rfl h.1) rfl,
        fun _ _ h => rc hgrow rfl Try.func29 (by kernel_rfl) rfl rfl (args2 h.1 h.2.1) (heldOpS_L A42_0 y42_0 c42_0 (sAt (l0.map LO.o) l1) 1 _ (HYM42_0) (HOX42_0.below h.2.2.1).RV (by omega) (by have := part_cnt HYM42_0 (sAt_sub (l0.map LO.o) l1); omega) (by have := part_len (sAt_sub (l0.map LO.o) l1); omega)) (fun _ _ h => ⟨_, h.1, h.2, rfl⟩),
        fun _ _ h => rv rfl (x_assign rfl h.1) rfl, trivial⟩) ?_
      clear s0 s3 s6 s7 s10 s13 s14
      clear hN hD
      rintro a29 w29 hN hD ⟨s14, s0, s3, s6, s7, s10, s13, hGR, -⟩
      replace HB := below_step HB hGR
      replace HBX3 := blk_below HBX3 hGR
      replace HYM29 := HYM29
      replace HYC29 := HYC29
      replace HYM32_0 := HYM32_0
      replace HB5 := below_step HB5 hGR
      replace HYM36 := HYM36
      replace HYC36 := HYC36
      replace HYM42_0 := HYM42_0
      replace HYM56 := HYM56
      replace HYC56 := HYC56
      replace HOX36 := HOX36.below hGR
      replace HOX38 := HOX38.below hGR
      replace HOX42_0 := HOX42_0.below hGR
      have zsw29 : w28.heap.size ≤ w29.heap.size := hGR.size
      clear hGR
      show Code.wp _ _ _ _ _
      refine wp_seq ?_
      refine wp_seq ?_
      refine deedL [.eq 89 (.int .i64 (1 + cntL mLO y42_0)), .eq 90 (.bool (decide (1 + cntL mLO y42_0 < 0))), .eq 0 (.slice A0_ l0.length c0_), .eq 3 (.pointer (some ⟨g3, 0, none⟩)), .eq 6 (.slice A32_0 ((sAt (l0.map LO.o) l1).length) c32_0), .eq 7 (.int .i64 (sAtC (l0.map LO.o) l1)), .eq 10 (.slice A42_0 ((sAt (l0.map LO.o) l1).length) c42_0), .eq 13 (.int .i64 (1 + cntL mLO y42_0)), .eq 14 (.int .i64 (1 + cntL mLO y42_0)), .w (Below w29.heap.size w29)] 119 [[8], [0]] [] [1, 2, 3, 4, 5, 6, 7, 8, 9] hM hN hD (by kernel_rfl) ⟨s0, s3, s6, s7, s10, s13, s14, ⟨Below.refl _ _, below_drew (Below.refl _ _)⟩, trivial⟩ ⟨fun _ _ hb h => below_step h hb, trivial⟩ (fun hgrow => ⟨fun _ _ h => rv rfl (x_move rfl h.1) rfl,
        fun _ _ h => rv rfl (x_lss rfl h.1 rfl) rfl, trivial⟩) ?_
      clear s0 s3 s6 s7 s10 s13 s14
      clear hN hD
      rintro a30 w30 hN hD ⟨s90, s0, s3, s6, s7, s10, s13, s14, hGR, -⟩
      replace HB := below_step HB hGR
      replace HBX3 := blk_below HBX3 hGR
      replace HYM29 := HYM29
      replace HYC29 := HYC29
      replace HYM32_0 := HYM32_0
      replace HB5 := below_step HB5 hGR
      replace HYM36 := HYM36
      replace HYC36 := HYC36
      replace HYM42_0 := HYM42_0
      replace HYM56 := HYM56
      replace HYC56 := HYC56
      replace HOX36 := HOX36.below hGR
      replace HOX38 := HOX38.below hGR
      replace HOX42_0 := HOX42_0.below hGR
      have zsw30 : w29.heap.size ≤ w30.heap.size := hGR.size
      clear hGR
      show Code.wp _ _ _ _ _
      refine wp_cond (t := decide (1 + cntL mLO y42_0 < 0)) s90 ?_
      rw [show (decide (1 + cntL mLO y42_0 < 0)) = false from (by have hpOX36 := cntL_pos (M := mLO) y36; have hpOX42_0 := cntL_pos (M := mLO) y42_0; simp [eqB, cnt_mkL] <;> omega)]
      show Code.wp _ _ _ _ _
      refine wp_skip ?_
      show Code.wp _ _ _ _ _
      refine wp_seq ?_
      refine wp_seq ?_
      refine deedL [.eq 91 (.int .i64 (1 + cntL mLO y42_0)), .eq 92 (.int .i64 (1 + cntL mLO y42_0)), .eq 93 (.bool ((1 + cntL mLO y42_0) != (1 + cntL mLO y42_0))), .eq 0 (.slice A0_ l0.length c0_), .eq 3 (.pointer (some ⟨g3, 0, none⟩)), .eq 6 (.slice A32_0 ((sAt (l0.map LO.o) l1).length) c32_0), .eq 7 (.int .i64 (sAtC (l0.map LO.o) l1)), .eq 10 (.slice A42_0 ((sAt (l0.map LO.o) l1).length) c42_0), .eq 13 (.int .i64 (1 + cntL mLO y42_0)), .eq 14 (.int .i64 (1 + cntL mLO y42_0)), .w (Below w30.heap.size w30)] 119 [[9], [8], [0, 1]] [] [2, 3, 4, 5, 6, 7, 8, 9, 10] hM hN hD (by kernel_rfl) ⟨s0, s3, s6, s7, s10, s13, s14, ⟨Below.refl _ _, below_drew (Below.refl _ _)⟩, trivial⟩ ⟨fun _ _ hb h => below_step h hb, trivial⟩ (fun hgrow => ⟨fun _ _ h => rv rfl (x_move rfl h.1) rfl,
        fun _ _ h => rv rfl (x_move rfl h.1) rfl,
        fun _ _ h => rv rfl (x_neq rfl h.1 h.2.1) rfl, trivial⟩) ?_
      clear s0 s3 s6 s7 s10 s13 s14 s90
      clear hN hD
      rintro a32 w32 hN hD ⟨s93, s0, s3, s6, s7, s10, s13, s14, hGR, -⟩
      replace HB := below_step HB hGR
      replace HBX3 := blk_below HBX3 hGR
      replace HYM29 := HYM29
      replace HYC29 := HYC29
      replace HYM32_0 := HYM32_0
      replace HB5 := below_step HB5 hGR
      replace HYM36 := HYM36
      replace HYC36 := HYC36
      replace HYM42_0 := HYM42_0
      replace HYM56 := HYM56
      replace HYC56 := HYC56
      replace HOX36 := HOX36.below hGR
      replace HOX38 := HOX38.below hGR
      replace HOX42_0 := HOX42_0.below hGR
      have zsw32 : w30.heap.size ≤ w32.heap.size := hGR.size
      clear hGR
      show Code.wp _ _ _ _ _
      refine wp_cond (t := (1 + cntL mLO y42_0) != (1 + cntL mLO y42_0)) s93 ?_
      rw [show ((1 + cntL mLO y42_0) != (1 + cntL mLO y42_0)) = false from (by have hpOX36 := cntL_pos (M := mLO) y36; have hpOX42_0 := cntL_pos (M := mLO) y42_0; simp [eqB, cnt_mkL] <;> omega)]
      show Code.wp _ _ _ _ _
      refine wp_skip ?_
      show Code.wp _ _ _ _ _
      refine wp_seq ?_
      have hBw32 := HB
      refine deedL (.eq 95 (.slice A0_ l0.length c0_) :: (.s1 96 fun x_ W => ∃ (A96 : Option Addr) (c96 : Nat) (y96 : List LO), x_ = .slice A96 ((l0.map LO.o).length) c96 ∧ OwnAt eLO W A96 y96 (w32.heap.size) W.heap.size ∧ y96.map LO.o = l0.map LO.o ∧ Caps y96) :: .eq 97 (.agg #[Value.slice A1_ l1.length c1_]) :: (.s1 98 fun x_ W => ∃ (A98 : Option Addr) (c98 : Nat), x_ = .agg #[Value.slice A98 l1.length c98] ∧ OwnI W A98 l1 (w32.heap.size) W.heap.size) :: (.s1 99 fun x_ W => ∃ (A99_0 : Option Addr) (c99_0 : Nat) (y99_0 : List LO), x_ = .tuple #[Value.slice A99_0 ((sAt (l0.map LO.o) l1).length) c99_0, Value.int .i64 (sAtC (l0.map LO.o) l1)] ∧ OwnAt eLO W A99_0 y99_0 (w32.heap.size) W.heap.size ∧ y99_0.map LO.o = sAt (l0.map LO.o) l1) :: (.s2 99 94 fun x_ y_ _ => ∃ (A99_0 : Option Addr) (c99_0 : Nat), x_ = .tuple #[Value.slice A99_0 ((sAt (l0.map LO.o) l1).length) c99_0, Value.int .i64 (sAtC (l0.map LO.o) l1)] ∧ y_ = .tuple #[Value.slice A99_0 ((sAt (l0.map LO.o) l1).length) c99_0, Value.int .i64 (sAtC (l0.map LO.o) l1)]) :: (.s2 99 100 fun x_ y_ _ => ∃ (A99_0 : Option Addr) (c99_0 : Nat), x_ = .tuple #[Value.slice A99_0 ((sAt (l0.map LO.o) l1).length) c99_0, Value.int .i64 (sAtC (l0.map LO.o) l1)] ∧ y_ = .slice A99_0 ((sAt (l0.map LO.o) l1).length) c99_0) :: .eq 101 (.int .i64 (sAtC (l0.map LO.o) l1)) :: (.s2 99 15 fun x_ y_ _ => ∃ (A99_0 : Option Addr) (c99_0 : Nat), x_ = .tuple #[Value.slice A99_0 ((sAt (l0.map LO.o) l1).length) c99_0, Value.int .i64 (sAtC (l0.map LO.o) l1)] ∧ y_ = .slice A99_0 ((sAt (l0.map LO.o) l1).length) c99_0) :: .eq 16 (.int .i64 (sAtC (l0.map LO.o) l1)) :: .eq 0 (.slice A0_ l0.length c0_) :: .eq 3 (.pointer (some ⟨g3, 0, none⟩)) :: .eq 6 (.slice A32_0 ((sAt (l0.map LO.o) l1).length) c32_0) :: .eq 7 (.int .i64 (sAtC (l0.map LO.o) l1)) :: .eq 10 (.slice A42_0 ((sAt (l0.map LO.o) l1).length) c42_0) :: .eq 13 (.int .i64 (1 + cntL mLO y42_0)) :: .w (Below w32.heap.size w32) :: []) 119 [[10], [0, 16], [11, 16], [2, 16], [1, 3, 16], [4], [5], [5], [6], [7]] [] [9, 1, 3, 4, 8, 10, 11, 12, 13, 14, 15, 16] hM hN hD (by kernel_rfl) ⟨s0, s3, s6, s7, s10, s13, ⟨Below.refl _ _, below_drew (Below.refl _ _)⟩, trivial⟩ ⟨fun _ _ _ hb h => by obtain ⟨A96, c96, y96, e_, z0, z1, z2⟩ := h; exact ⟨_, _, _, e_, (z0.below hb).wide (Nat.le_refl _) hb.size, z1, z2⟩, fun _ _ _ hb h => by obtain ⟨A98, c98, e_, z0⟩ := h; exact ⟨_, _, e_, (z0.below hb).wide (Nat.le_refl _) hb.size⟩, fun _ _ _ hb h => by obtain ⟨A99_0, c99_0, y99_0, e_, z0, z1⟩ := h; exact ⟨_, _, _, e_, (z0.below hb).wide (Nat.le_refl _) hb.size, z1⟩, fun _ _ _ _ hb h => h, fun _ _ _ _ hb h => h, fun _ _ _ _ hb h => h, fun _ _ hb h => below_step h hb, trivial⟩ (fun hgrow => ⟨fun _ _ h => rv rfl (x_move rfl h.1) rfl,
        fun _ _ h => rc hgrow rfl Try.func14 (by kernel_rfl) rfl rfl (args1 h.1) (toOpS_L A0_ l0 c0_ _ (RV.below HR0 (below_step HB h.2.1)) hxn0 hdl0) (fun _ _ hR => by obtain ⟨A96, c96, y96, e_, z0, z1, z2, hb⟩ := hR; exact ⟨_, e_, hb, A96, c96, y96, rfl, (z0.wide h.2.1.size (Nat.le_refl _)), z1, z2⟩),
        fun _ _ h => rv rfl (x_loadS rfl h.1 Try.underlying37 [.slice A1_ l1.length c1_] sz37 (blk_list (L := [.slice A1_ l1.length c1_]) (blk_below HBX3 h.2.1) 0 rfl)) rfl,
        fun _ _ h => rc hgrow rfl Try.func25 (by kernel_rfl) rfl rfl (args1 h.1) (toV_L A1_ l1 c1_ _ (RI.below HR1 (below_step HB h.2.1)) hxn1) (fun _ _ hR => by obtain ⟨A98, c98, e_, z0, hb⟩ := hR; exact ⟨_, e_, hb, A98, c98, rfl, (z0.wide h.2.1.size (Nat.le_refl _))⟩),
        ?_,
        ?_,
        ?_,
        ?_,
        ?_,
        fun _ _ h => rv rfl (x_assign rfl h.1) rfl, trivial⟩) ?_
      · rintro a_ W ⟨h1, h3, h16, -⟩
        obtain ⟨A96, c96, y96, e1, HOX96, HYM96, HYC96⟩ := h1
        obtain ⟨A98, c98, e3, HOX98⟩ := h3
        exact rc hgrow rfl Try.func34 (by kernel_rfl) rfl rfl (args2 e1 e3) (iAt_L A96 y96 c96 (l0.map LO.o) A98 l1 c98 _ HYM96 HOX96.RV HYC96 HOX98.RI) (fun _ _ hR => by obtain ⟨A99_0, c99_0, y99_0, e_, z0, z1, hb⟩ := hR; exact ⟨_, e_, hb, A99_0, c99_0, y99_0, rfl, (z0.wide h16.size (Nat.le_refl _)), z1⟩)
      · rintro a_ W ⟨h4, -⟩
        obtain ⟨A99_0, c99_0, y99_0, e4, HOX99_0, HYM99_0⟩ := h4
        exact rv rfl (x_move rfl e4) ⟨_, _, e4, rfl⟩
      · rintro a_ W ⟨h5, -⟩
        obtain ⟨A99_0, c99_0, r5, e5⟩ := h5
        exact rv rfl (x_extract rfl e5 rfl) ⟨_, _, r5, rfl⟩
      · rintro a_ W ⟨h5, -⟩
        obtain ⟨A99_0, c99_0, r5, e5⟩ := h5
        exact rv rfl (x_extract rfl e5 rfl) rfl
      · rintro a_ W ⟨h6, -⟩
        obtain ⟨A99_0, c99_0, r6, e6⟩ := h6
        exact rv rfl (x_assign rfl e6) ⟨_, _, r6, rfl⟩
      clear s0 s3 s6 s7 s10 s13 s14 s93
      clear hN hD
      rintro a34 w34 hN hD ⟨s16, ⟨A96, c96, y96, s96, HOX96, HYM96, HYC96⟩, ⟨A98, c98, s98, HOX98⟩, ⟨A99_0, c99_0, y99_0, s99, HOX99_0, HYM99_0⟩, q15, s0, s3, s6, s7, s10, s13, hGR, -⟩
      obtain ⟨A99_0_, c99_0_, e_, s15⟩ := q15
      cases s99.symm.trans e_
      replace HB := below_step HB hGR
      replace HBX3 := blk_below HBX3 hGR
      replace HYM29 := HYM29
      replace HYC29 := HYC29
      replace HYM32_0 := HYM32_0
      replace HB5 := below_step HB5 hGR
      replace HYM36 := HYM36
      replace HYC36 := HYC36
      replace HYM42_0 := HYM42_0
      replace HYM56 := HYM56
      replace HYC56 := HYC56
      replace HOX36 := HOX36.below hGR
      replace HOX38 := HOX38.below hGR
      replace HOX42_0 := HOX42_0.below hGR
      clear HOX36
      clear HOX38
      clear HOX96
      clear HOX98
      have cl_OX99_0 := cntL_pos (M := mLO) y99_0
      have cu_OX99_0 : cntL mLO y99_0 ≤ 1000000000 := by have := part_cnt HYM99_0 (sAt_sub (l0.map LO.o) l1); omega
      have zzOX99_0 : w.heap.size ≤ w32.heap.size := hBw32.size
      have zsw34 : w32.heap.size ≤ w34.heap.size := hGR.size
      clear hGR
      show Code.wp _ _ _ _ _
      refine wp_seq ?_
      refine wp_seq ?_
      refine deedL (.eq 102 (.slice A99_0 ((sAt (l0.map LO.o) l1).length) c99_0) :: .eq 103 (.slice A32_0 ((sAt (l0.map LO.o) l1).length) c32_0) :: .eq 104 (.bool (eqB (sAt (l0.map LO.o) l1) (sAt (l0.map LO.o) l1))) :: .eq 105 (.bool (!(eqB (sAt (l0.map LO.o) l1) (sAt (l0.map LO.o) l1)))) :: .eq 106 (.bool (!(eqB (sAt (l0.map LO.o) l1) (sAt (l0.map LO.o) l1)))) :: .gv (((!(eqB (sAt (l0.map LO.o) l1) (sAt (l0.map LO.o) l1))) == false)) 107 (.int .i64 (sAtC (l0.map LO.o) l1)) :: .gv (((!(eqB (sAt (l0.map LO.o) l1) (sAt (l0.map LO.o) l1))) == false)) 108 (.int .i64 (sAtC (l0.map LO.o) l1)) :: .gv (((!(eqB (sAt (l0.map LO.o) l1) (sAt (l0.map LO.o) l1))) == false)) 109 (.bool ((sAtC (l0.map LO.o) l1) != (sAtC (l0.map LO.o) l1))) :: .eq 110 (.bool ((!(eqB (sAt (l0.map LO.o) l1) (sAt (l0.map LO.o) l1))) || ((sAtC (l0.map LO.o) l1) != (sAtC (l0.map LO.o) l1)))) :: .eq 6 (.slice A32_0 ((sAt (l0.map LO.o) l1).length) c32_0) :: .eq 7 (.int .i64 (sAtC (l0.map LO.o) l1)) :: .eq 10 (.slice A42_0 ((sAt (l0.map LO.o) l1).length) c42_0) :: .eq 13 (.int .i64 (1 + cntL mLO y42_0)) :: .eq 15 (.slice A99_0 ((sAt (l0.map LO.o) l1).length) c99_0) :: .eq 16 (.int .i64 (sAtC (l0.map LO.o) l1)) :: .w (Below w34.heap.size w34) :: []) 119 [[13], [9], [0, 1, 15], [2], [3], [4, 14], [4, 10], [4, 5, 6], [4, 7]] [] [8, 9, 10, 11, 12, 13, 14, 15] hM hN hD (by kernel_rfl) ⟨s6, s7, s10, s13, s15, s16, ⟨Below.refl _ _, below_drew (Below.refl _ _)⟩, trivial⟩ ⟨fun _ _ hb h => below_step h hb, trivial⟩ (fun hgrow => ⟨fun _ _ h => rv rfl (x_move rfl h.1) rfl,
        fun _ _ h => rv rfl (x_move rfl h.1) rfl,
        fun _ _ h => rc hgrow rfl Try.func17 (by kernel_rfl) rfl rfl (args2 h.1 h.2.1) (eqOpS_L A99_0 y99_0 c99_0 (sAt (l0.map LO.o) l1) A32_0 y32_0 c32_0 (sAt (l0.map LO.o) l1) _ (HYM99_0) (HYM32_0) (HOX99_0.below h.2.2.1).RV (RV.below HWOX32_0 (below_step HB5 h.2.2.1)) (by have := part_len (sAt_sub (l0.map LO.o) l1); omega) (by exact fun o ho => Nat.le_trans (part_deps (sAt_sub (l0.map LO.o) l1) hdl0 o ho) (by decide))) (fun _ _ h => ⟨_, h.1, h.2, rfl⟩),
        fun _ _ h => rv rfl (x_not rfl h.1) rfl,
        fun _ _ h => rv rfl (x_move rfl h.1) rfl,
        fun _ _ h => rb rfl rfl h.1 (fun hgt => x_move rfl h.2.1) (fun _ z => z),
        fun _ _ h => rb rfl rfl h.1 (fun hgt => x_move rfl h.2.1) (fun _ z => z),
        fun _ _ h => rb rfl rfl h.1 (fun hgt => x_neq rfl (h.2.1.1 hgt) (h.2.2.1.1 hgt)) (fun _ z => z),
        fun _ _ h => rv rfl (x_or rfl rfl h.1 (fun hc => h.2.1.1 (beq_iff_eq.2 hc))) rfl, trivial⟩) ?_
      clear s0 s3 s6 s7 s10 s13 s15 s16
      clear hN hD
      rintro a35 w35 hN hD ⟨s110, s6, s7, s10, s13, s15, s16, hGR, -⟩
      replace HB := below_step HB hGR
      replace HBX3 := blk_below HBX3 hGR
      replace HYM29 := HYM29
      replace HYC29 := HYC29
      replace HYM32_0 := HYM32_0
      replace HB5 := below_step HB5 hGR
      replace HYM36 := HYM36
      replace HYC36 := HYC36
      replace HYM42_0 := HYM42_0
      replace HYM56 := HYM56
      replace HYC56 := HYC56
      replace HOX42_0 := HOX42_0.below hGR
      replace HYM96 := HYM96
      replace HYC96 := HYC96
      replace HOX99_0 := HOX99_0.below hGR
      replace HYM99_0 := HYM99_0
      have zsw35 : w34.heap.size ≤ w35.heap.size := hGR.size
      clear hGR
      show Code.wp _ _ _ _ _
      refine wp_cond (t := (!(eqB (sAt (l0.map LO.o) l1) (sAt (l0.map LO.o) l1))) || ((sAtC (l0.map LO.o) l1) != (sAtC (l0.map LO.o) l1))) s110 ?_
      rw [show ((!(eqB (sAt (l0.map LO.o) l1) (sAt (l0.map LO.o) l1))) || ((sAtC (l0.map LO.o) l1) != (sAtC (l0.map LO.o) l1))) = false from (by have hpOX42_0 := cntL_pos (M := mLO) y42_0; have hpOX99_0 := cntL_pos (M := mLO) y99_0; simp [eqB, cnt_mkL] <;> omega)]
      show Code.wp _ _ _ _ _
      refine wp_skip ?_
      show Code.wp _ _ _ _ _
      refine wp_seq ?_
      refine deedL [.eq 14 (.int .i64 1), .eq 10 (.slice A42_0 ((sAt (l0.map LO.o) l1).length) c42_0), .eq 13 (.int .i64 (1 + cntL mLO y42_0)), .w (Below w35.heap.size w35)] 119 [[]] [] [0, 1, 2, 3] hM hN hD (by kernel_rfl) ⟨s10, s13, ⟨Below.refl _ _, below_drew (Below.refl _ _)⟩, trivial⟩ ⟨fun _ _ hb h => below_step h hb, trivial⟩ (fun hgrow => ⟨fun _ _ _ => rv rfl (x_assign rfl rfl) rfl, trivial⟩) ?_
      clear s6 s7 s10 s13 s15 s16 s110
      clear hN hD
      rintro a37 w37 hN hD ⟨s14, s10, s13, hGR, -⟩
      replace HB := below_step HB hGR
      replace HBX3 := blk_below HBX3 hGR
      replace HYM29 := HYM29
      replace HYC29 := HYC29
      replace HYM32_0 := HYM32_0
      replace HB5 := below_step HB5 hGR
      replace HYM36 := HYM36
      replace HYC36 := HYC36
      replace HYM42_0 := HYM42_0
      replace HYM56 := HYM56
      replace HYC56 := HYC56
      replace HOX42_0 := HOX42_0.below hGR
      replace HYM96 := HYM96
      replace HYC96 := HYC96
      replace HOX99_0 := HOX99_0.below hGR
      replace HYM99_0 := HYM99_0
      have zsw37 : w35.heap.size ≤ w37.heap.size := hGR.size
      clear hGR
      show Code.wp _ _ _ _ _
      refine wp_seq ?_
      refine deedL [.eq 111 (.slice A42_0 ((sAt (l0.map LO.o) l1).length) c42_0), .eq 112 (.int .i64 1), .eq 113 (.int .i64 (1 + cntL mLO y42_0)), .eq 14 (.int .i64 (1 + cntL mLO y42_0)), .eq 10 (.slice A42_0 ((sAt (l0.map LO.o) l1).length) c42_0), .eq 13 (.int .i64 (1 + cntL mLO y42_0)), .eq 14 (.int .i64 1), .w (Below w37.heap.size w37)] 119 [[4], [6], [0, 1, 7], [2]] [[], [], [], [6]] [3, 4, 5, 7] hM hN hD (by kernel_rfl) ⟨s10, s13, s14, ⟨Below.refl _ _, below_drew (Below.refl _ _)⟩, trivial⟩ ⟨fun _ _ hb h => below_step h hb, trivial⟩ (fun hgrow => ⟨fun _ _ h => rv rfl (x_move rfl h.1) rfl,
        fun _ _ h => rv rfl (x_move rfl h.1) rfl,
        fun _ _ h => rc hgrow rfl Try.func29 (by kernel_rfl) rfl rfl (args2 h.1 h.2.1) (heldOpS_L A42_0 y42_0 c42_0 (sAt (l0.map LO.o) l1) 1 _ (HYM42_0) (HOX42_0.below h.2.2.1).RV (by omega) (by have := part_cnt HYM42_0 (sAt_sub (l0.map LO.o) l1); omega) (by have := part_len (sAt_sub (l0.map LO.o) l1); omega)) (fun _ _ h => ⟨_, h.1, h.2, rfl⟩),
        fun _ _ h => rv rfl (x_assign rfl h.1) rfl, trivial⟩) ?_
      clear s10 s13 s14
      clear hN hD
      rintro a38 w38 hN hD ⟨s14, s10, s13, hGR, -⟩
      replace HB := below_step HB hGR
      replace HBX3 := blk_below HBX3 hGR
      replace HYM29 := HYM29
      replace HYC29 := HYC29
      replace HYM32_0 := HYM32_0
      replace HB5 := below_step HB5 hGR
      replace HYM36 := HYM36
      replace HYC36 := HYC36
      replace HYM42_0 := HYM42_0
      replace HYM56 := HYM56
      replace HYC56 := HYC56
      replace HOX42_0 := HOX42_0.below hGR
      replace HYM96 := HYM96
      replace HYC96 := HYC96
      replace HOX99_0 := HOX99_0.below hGR
      replace HYM99_0 := HYM99_0
      have zsw38 : w37.heap.size ≤ w38.heap.size := hGR.size
      clear hGR
      show Code.wp _ _ _ _ _
      refine wp_seq ?_
      refine wp_seq ?_
      refine deedL [.eq 114 (.int .i64 (1 + cntL mLO y42_0)), .eq 115 (.bool (decide (1 + cntL mLO y42_0 < 0))), .eq 13 (.int .i64 (1 + cntL mLO y42_0)), .eq 14 (.int .i64 (1 + cntL mLO y42_0)), .w (Below w38.heap.size w38)] 119 [[3], [0]] [] [1, 2, 3, 4] hM hN hD (by kernel_rfl) ⟨s13, s14, ⟨Below.refl _ _, below_drew (Below.refl _ _)⟩, trivial⟩ ⟨fun _ _ hb h => below_step h hb, trivial⟩ (fun hgrow => ⟨fun _ _ h => rv rfl (x_move rfl h.1) rfl,
        fun _ _ h => rv rfl (x_lss rfl h.1 rfl) rfl, trivial⟩) ?_
      clear s10 s13 s14
      clear hN hD
      rintro a39 w39 hN hD ⟨s115, s13, s14, hGR, -⟩
      replace HB := below_step HB hGR
      replace HBX3 := blk_below HBX3 hGR
      replace HYM29 := HYM29
      replace HYC29 := HYC29
      replace HYM32_0 := HYM32_0
      replace HB5 := below_step HB5 hGR
      replace HYM36 := HYM36
      replace HYC36 := HYC36
      replace HYM42_0 := HYM42_0
      replace HYM56 := HYM56
      replace HYC56 := HYC56
      replace HOX42_0 := HOX42_0.below hGR
      replace HYM96 := HYM96
      replace HYC96 := HYC96
      replace HOX99_0 := HOX99_0.below hGR
      replace HYM99_0 := HYM99_0
      have zsw39 : w38.heap.size ≤ w39.heap.size := hGR.size
      clear hGR
      show Code.wp _ _ _ _ _
      refine wp_cond (t := decide (1 + cntL mLO y42_0 < 0)) s115 ?_
      rw [show (decide (1 + cntL mLO y42_0 < 0)) = false from (by have hpOX42_0 := cntL_pos (M := mLO) y42_0; have hpOX99_0 := cntL_pos (M := mLO) y99_0; simp [eqB, cnt_mkL] <;> omega)]
      show Code.wp _ _ _ _ _
      refine wp_skip ?_
      show Code.wp _ _ _ _ _
      refine wp_seq ?_
      refine wp_seq ?_
      refine deedL [.eq 116 (.int .i64 (1 + cntL mLO y42_0)), .eq 117 (.int .i64 (1 + cntL mLO y42_0)), .eq 118 (.bool ((1 + cntL mLO y42_0) != (1 + cntL mLO y42_0))), .eq 13 (.int .i64 (1 + cntL mLO y42_0)), .eq 14 (.int .i64 (1 + cntL mLO y42_0)), .w (Below w39.heap.size w39)] 119 [[4], [3], [0, 1]] [] [2, 3, 4, 5] hM hN hD (by kernel_rfl) ⟨s13, s14, ⟨Below.refl _ _, below_drew (Below.refl _ _)⟩, trivial⟩ ⟨fun _ _ hb h => below_step h hb, trivial⟩ (fun hgrow => ⟨fun _ _ h => rv rfl (x_move rfl h.1) rfl,
        fun _ _ h => rv rfl (x_move rfl h.1) rfl,
        fun _ _ h => rv rfl (x_neq rfl h.1 h.2.1) rfl, trivial⟩) ?_
      clear s13 s14 s115
      clear hN hD
      rintro a41 w41 hN hD ⟨s118, s13, s14, hGR, -⟩
      replace HB := below_step HB hGR
      replace HBX3 := blk_below HBX3 hGR
      replace HYM29 := HYM29
      replace HYC29 := HYC29
      replace HYM32_0 := HYM32_0
      replace HB5 := below_step HB5 hGR
      replace HYM36 := HYM36
      replace HYC36 := HYC36
      replace HYM42_0 := HYM42_0
      replace HYM56 := HYM56
      replace HYC56 := HYC56
      replace HOX42_0 := HOX42_0.below hGR
      replace HYM96 := HYM96
      replace HYC96 := HYC96
      replace HOX99_0 := HOX99_0.below hGR
      replace HYM99_0 := HYM99_0
      have zsw41 : w39.heap.size ≤ w41.heap.size := hGR.size
      clear hGR
      show Code.wp _ _ _ _ _
      refine wp_cond (t := (1 + cntL mLO y42_0) != (1 + cntL mLO y42_0)) s118 ?_
      rw [show ((1 + cntL mLO y42_0) != (1 + cntL mLO y42_0)) = false from (by have hpOX42_0 := cntL_pos (M := mLO) y42_0; have hpOX99_0 := cntL_pos (M := mLO) y99_0; simp [eqB, cnt_mkL] <;> omega)]
      show Code.wp _ _ _ _ _
      refine wp_skip ?_
      show Code.wp _ _ _ _ _
      refine wp_seq ?_
      refine deedL [.eq 4 (.bool true), .w (Below w41.heap.size w41)] 119 [[]] [] [0, 1] hM hN hD (by kernel_rfl) ⟨⟨Below.refl _ _, below_drew (Below.refl _ _)⟩, trivial⟩ ⟨fun _ _ hb h => below_step h hb, trivial⟩ (fun hgrow => ⟨fun _ _ _ => rv rfl (x_assign rfl rfl) rfl, trivial⟩) ?_
      clear s13 s14 s118
      clear hN hD
      rintro a43 w43 hN hD ⟨s4, hGR, -⟩
      replace HB := below_step HB hGR
      replace HBX3 := blk_below HBX3 hGR
      replace HYM29 := HYM29
      replace HYC29 := HYC29
      replace HYM32_0 := HYM32_0
      replace HB5 := below_step HB5 hGR
      replace HYM36 := HYM36
      replace HYC36 := HYC36
      replace HYM42_0 := HYM42_0
      replace HYM56 := HYM56
      replace HYC56 := HYC56
      replace HOX42_0 := HOX42_0.below hGR
      replace HYM96 := HYM96
      replace HYC96 := HYC96
      replace HOX99_0 := HOX99_0.below hGR
      replace HYM99_0 := HYM99_0
      have zsw43 : w41.heap.size ≤ w43.heap.size := hGR.size
      clear hGR
      show Code.wp _ _ _ _ _
      refine wp_ret ?_
      refine bodyPost_ret (results_single rfl (vtmp s4 .nil)) hD ?_
      exact ⟨rfl, HB⟩
end Go.Proofs.Ytideafkiaipnoaa.Q

/- What a law is handed, opened: rows of elements. -/
namespace Go.Proofs.Ytideafkiaipnoaa.Q
set_option linter.unusedVariables false
set_option linter.unusedSimpArgs false
open Go Go.ChangeShapes Go.WideShapes Go.ChangeAt Go.RowKit Go.Proofs.YtideafkiaipnoaaW.PrintWords Go.Proofs.Ytideafkiaipnoaa.Deed
section
variable {H : Type} {enc : TypeId × Value → H} {P : Program} {w : World} {base : Nat} {sp : Nat → Bool} {held : Bool} {t e : TypeId} {x : DataW H × List MemPlace} {fuel : Nat}
theorem op_ints {cs : List Value} (ht : P.underlying t = some (.slice e)) (he : P.underlying e = some (.int .i64)) (hc : P.cellsOf e = 1) (h : DataW.trod enc P w base sp held fuel t cs = some x) :
    ∃ (A : Option Addr) (ys : List Int) (c : Nat), cs = [.slice A ys.length c] ∧ RI w A ys ∧ ys.length ≤ c ∧ c ≤ 9223372036854775807 := by
  rcases open_ints ht he hc h with ⟨rfl, _⟩ | ⟨a, len, cap, zs, rfl, _, hl, hm, hz, _, hcell, _⟩
  · exact ⟨none, [], 0, rfl, RI.nil _ _, Nat.le_refl _, by omega⟩
  · have hlz : len ≤ zs.length := by rw [hz]; split <;> omega
    refine ⟨some a, zs.take len, cap, by rw [List.length_take, Nat.min_eq_left hlz], fun i y hy => ?_, by rw [List.length_take]; omega, hm⟩
    have hi : i < len := by have := (List.getElem?_eq_some_iff.1 hy).1; rw [List.length_take] at this; omega
    rw [List.getElem?_take_of_lt hi] at hy
    refine ⟨rfl, ?_⟩
    have := hcell i (by omega)
    rw [List.getD_eq_getElem?_getD, hy] at this
    exact this
theorem op_row {α : Type} {E : Enc α} {Good : α → Prop} {cs : List Value} (ht : P.underlying t = some (.slice e)) (hn : P.cellsOf e = E.n) (hn0 : 0 < E.n)
    (hel : ∀ (fuel : Nat) (cs : List Value) (x : DataW H × List MemPlace), DataW.trod enc P w base sp held fuel e cs = some x → ∃ a : α, cs = E.enc a ∧ (∀ B ys, E.inn a = some (B, ys) → RI w B ys) ∧ Good a)
    (h : DataW.trod enc P w base sp held fuel t cs = some x) : ∃ (A : Option Addr) (xs : List α) (c : Nat), cs = [.slice A xs.length c] ∧ RV E w A xs ∧ (∀ y ∈ xs, Good y) ∧ xs.length ≤ c ∧ c ≤ 9223372036854775807 := by
  rcases DataW.trod_slice ht h with ⟨rfl, _⟩ | ⟨a, len, cap, elems, rest, n, _, rfl, _, _, hl, hm, hlen, helm, _, _⟩
  · exact ⟨none, [], 0, rfl, RV.nil _ _, by simp, Nat.le_refl _, by omega⟩
  · have each : ∀ i : Fin len, ∃ y : α, (∀ (j : Nat) (u : Value), (E.enc y)[j]? = some u → w.cell? (a.add (i.1 * E.n + j)) = some u) ∧ (∀ B ys, E.inn y = some (B, ys) → RI w B ys) ∧ Good y := by
      intro i
      have h1 := helm i.1 i.2
      have hx : elems[i.1]? = some elems[i.1] := List.getElem?_eq_getElem (by omega)
      rw [hx, Option.bind_eq_some_iff] at h1
      obtain ⟨cs', hcs, hy⟩ := h1
      obtain ⟨y, e1, h2, h3⟩ := hel _ _ _ hy
      obtain ⟨_, _, hc⟩ := World.cells?_some hcs
      refine ⟨y, fun j u hu => ?_, h2, h3⟩
      have hj := enc_lt hu
      have h4 := hc j (by rw [hn]; exact hj)
      rw [e1, hu, hn, add_add] at h4
      exact h4
    have hch : ∃ f : Fin len → α, ∀ i, (∀ (j : Nat) (u : Value), (E.enc (f i))[j]? = some u → w.cell? (a.add (i.1 * E.n + j)) = some u) ∧ (∀ B ys, E.inn (f i) = some (B, ys) → RI w B ys) ∧ Good (f i) := ⟨fun i => (each i).choose, fun i => (each i).choose_spec⟩
    obtain ⟨f, hf⟩ := hch
    refine ⟨some a, List.ofFn f, cap, by simp, fun i y hy => ?_, fun y hy => ?_, by simpa using hl, hm⟩
    · rw [List.getElem?_ofFn] at hy
      split at hy
      · rename_i hi
        cases hy
        exact ⟨rfl, (hf ⟨i, hi⟩).1, (hf ⟨i, hi⟩).2.1⟩
      · cases hy
    · obtain ⟨i, rfl⟩ := List.mem_ofFn.1 hy
      exact (hf i).2.2
end
end Go.Proofs.Ytideafkiaipnoaa.Q

/- Functions walked. -/
namespace Go.Proofs.Ytideafkiaipnoaa.Q
open Go Go.ChangeShapes Go.WideShapes Go.ChangeAt Go.RowKit Go.Proofs.YtideafkiaipnoaaW.PrintWords Go.Proofs.Ytideafkiaipnoaa.Deed
set_option maxRecDepth 100000
set_option linter.unusedVariables false
set_option linter.unusedSimpArgs false
theorem opn37 {H : Type} {enc : TypeId × Value → H} {w : World} {base : Nat} {sp : Nat → Bool} {held : Bool} {x : DataW H × List MemPlace} {fuel : Nat} {cs : List Value} (h : DataW.trod enc Try.prog w base sp held fuel 37 cs = some x) : ∃ (v0 : List Int) (A0 : Option Addr) (c0_ : Nat), cs = [.slice A0 v0.length c0_] ∧ RI w A0 v0 ∧ v0.length ≤ c0_ ∧ c0_ ≤ 9223372036854775807 := by
  obtain ⟨xs, n, rfl, rfl, hl, hx, hf⟩ := DataW.trod_struct Try.underlying37 h
  rw [show Try.prog.cellsOf 37 = 1 by kernel_rfl] at hl
  obtain ⟨c0, rfl⟩ : ∃ c0, cs = [c0] := by
    cases cs with
    | nil => simp at hl
    | cons c0 cs =>
    cases cs with
    | cons _ _ => simp at hl
    | nil => exact ⟨_, rfl⟩
  have f0 : DataW.trod enc Try.prog w base sp held n 24 (List.take (Try.prog.cellsOf 24) (List.drop 0 [c0])) = xs[0]? := hf 0 _ rfl
  rw [show Try.prog.cellsOf 24 = 1 by kernel_rfl, List.getElem?_eq_getElem (show 0 < xs.length by rw [hx]; decide)] at f0
  replace f0 : DataW.trod enc Try.prog w base sp held n 24 [c0] = some _ := f0
  obtain ⟨A0, v0, c0_, e0, r0, l0, m0⟩ := op_ints Try.underlying24 Try.underlying3 (by kernel_rfl) f0
  cases e0
  exact ⟨v0, A0, c0_, rfl, r0, l0, m0⟩
theorem opn61 {H : Type} {enc : TypeId × Value → H} {w : World} {base : Nat} {sp : Nat → Bool} {held : Bool} {x : DataW H × List MemPlace} {fuel : Nat} {cs : List Value} (h : DataW.trod enc Try.prog w base sp held fuel 61 cs = some x) : ∃ (v0 : Int) (v1 : Int), cs = [.int .i64 v0, .int .i64 v1] := by
  obtain ⟨xs, n, rfl, rfl, hl, hx, hf⟩ := DataW.trod_struct Try.underlying61 h
  rw [show Try.prog.cellsOf 61 = 2 by kernel_rfl] at hl
  obtain ⟨c0, c1, rfl⟩ : ∃ c0 c1, cs = [c0, c1] := by
    cases cs with
    | nil => simp at hl
    | cons c0 cs =>
    cases cs with
    | nil => simp at hl
    | cons c1 cs =>
    cases cs with
    | cons _ _ => simp at hl
    | nil => exact ⟨_, _, rfl⟩
  have f0 : DataW.trod enc Try.prog w base sp held n 3 (List.take (Try.prog.cellsOf 3) (List.drop 0 [c0, c1])) = xs[0]? := hf 0 _ rfl
  rw [show Try.prog.cellsOf 3 = 1 by kernel_rfl, List.getElem?_eq_getElem (show 0 < xs.length by rw [hx]; decide)] at f0
  replace f0 : DataW.trod enc Try.prog w base sp held n 3 [c0] = some _ := f0
  obtain ⟨v0, e0, _⟩ := DataW.trod_int Try.underlying3 f0
  have f1 : DataW.trod enc Try.prog w base sp held n 3 (List.take (Try.prog.cellsOf 3) (List.drop 1 [c0, c1])) = xs[1]? := hf 1 _ rfl
  rw [show Try.prog.cellsOf 3 = 1 by kernel_rfl, List.getElem?_eq_getElem (show 1 < xs.length by rw [hx]; decide)] at f1
  replace f1 : DataW.trod enc Try.prog w base sp held n 3 [c1] = some _ := f1
  obtain ⟨v1, e1, _⟩ := DataW.trod_int Try.underlying3 f1
  cases e0
  cases e1
  exact ⟨v0, v1, rfl⟩
theorem opn63 {H : Type} {enc : TypeId × Value → H} {w : World} {base : Nat} {sp : Nat → Bool} {held : Bool} {x : DataW H × List MemPlace} {fuel : Nat} {cs : List Value} (h : DataW.trod enc Try.prog w base sp held fuel 63 cs = some x) : ∃ (v0 : Int) (v1 : Int) (v2 : Int) (v0_3 : List Int) (A0_3 : Option Addr) (c0_3_ : Nat) (v3 : Int) (v4 : Int) (v5 : Int) (v6 : Int) (v0_8 : Int) (v1_8 : Int) (v7 : ByteArray) (v8 : ByteArray), cs = [.int .i64 v0, .int .i64 v1, .int .i64 v2, .slice A0_3 v0_3.length c0_3_, .int .i64 v3, .int .i64 v4, .int .i64 v5, .int .i64 v6, .int .i64 v0_8, .int .i64 v1_8, .string v7, .string v8] ∧ RI w A0_3 v0_3 ∧ v0_3.length ≤ c0_3_ ∧ c0_3_ ≤ 9223372036854775807 ∧ v7.size ≤ 9223372036854775807 ∧ v8.size ≤ 9223372036854775807 := by
  obtain ⟨xs, n, rfl, rfl, hl, hx, hf⟩ := DataW.trod_struct Try.underlying63 h
  rw [show Try.prog.cellsOf 63 = 12 by kernel_rfl] at hl
  obtain ⟨c0, c1, c2, c3, c4, c5, c6, c7, c8, c9, c10, c11, rfl⟩ : ∃ c0 c1 c2 c3 c4 c5 c6 c7 c8 c9 c10 c11, cs = [c0, c1, c2, c3, c4, c5, c6, c7, c8, c9, c10, c11] := by
    cases cs with
    | nil => simp at hl
    | cons c0 cs =>
    cases cs with
    | nil => simp at hl
    | cons c1 cs =>
    cases cs with
    | nil => simp at hl
    | cons c2 cs =>
    cases cs with
    | nil => simp at hl
    | cons c3 cs =>
    cases cs with
    | nil => simp at hl
    | cons c4 cs =>
    cases cs with
    | nil => simp at hl
    | cons c5 cs =>
    cases cs with
    | nil => simp at hl
    | cons c6 cs =>
    cases cs with
    | nil => simp at hl
    | cons c7 cs =>
    cases cs with
    | nil => simp at hl
    | cons c8 cs =>
    cases cs with
    | nil => simp at hl
    | cons c9 cs =>
    cases cs with
    | nil => simp at hl
    | cons c10 cs =>
    cases cs with
    | nil => simp at hl
    | cons c11 cs =>
    cases cs with
    | cons _ _ => simp at hl
    | nil => exact ⟨_, _, _, _, _, _, _, _, _, _, _, _, rfl⟩
  have f0 : DataW.trod enc Try.prog w base sp held n 3 (List.take (Try.prog.cellsOf 3) (List.drop 0 [c0, c1, c2, c3, c4, c5, c6, c7, c8, c9, c10, c11])) = xs[0]? := hf 0 _ rfl
  rw [show Try.prog.cellsOf 3 = 1 by kernel_rfl, List.getElem?_eq_getElem (show 0 < xs.length by rw [hx]; decide)] at f0
  replace f0 : DataW.trod enc Try.prog w base sp held n 3 [c0] = some _ := f0
  obtain ⟨v0, e0, _⟩ := DataW.trod_int Try.underlying3 f0
  have f1 : DataW.trod enc Try.prog w base sp held n 3 (List.take (Try.prog.cellsOf 3) (List.drop 1 [c0, c1, c2, c3, c4, c5, c6, c7, c8, c9, c10, c11])) = xs[1]? := hf 1 _ rfl
  rw [show Try.prog.cellsOf 3 = 1 by kernel_rfl, List.getElem?_eq_getElem (show 1 < xs.length by rw [hx]; decide)] at f1
  replace f1 : DataW.trod enc Try.prog w base sp held n 3 [c1] = some _ := f1
  obtain ⟨v1, e1, _⟩ := DataW.trod_int Try.underlying3 f1
  have f2 : DataW.trod enc Try.prog w base sp held n 3 (List.take (Try.prog.cellsOf 3) (List.drop 2 [c0, c1, c2, c3, c4, c5, c6, c7, c8, c9, c10, c11])) = xs[2]? := hf 2 _ rfl
  rw [show Try.prog.cellsOf 3 = 1 by kernel_rfl, List.getElem?_eq_getElem (show 2 < xs.length by rw [hx]; decide)] at f2
  replace f2 : DataW.trod enc Try.prog w base sp held n 3 [c2] = some _ := f2
  obtain ⟨v2, e2, _⟩ := DataW.trod_int Try.underlying3 f2
  have f3 : DataW.trod enc Try.prog w base sp held n 37 (List.take (Try.prog.cellsOf 37) (List.drop 3 [c0, c1, c2, c3, c4, c5, c6, c7, c8, c9, c10, c11])) = xs[3]? := hf 3 _ rfl
  rw [show Try.prog.cellsOf 37 = 1 by kernel_rfl, List.getElem?_eq_getElem (show 3 < xs.length by rw [hx]; decide)] at f3
  replace f3 : DataW.trod enc Try.prog w base sp held n 37 [c3] = some _ := f3
  obtain ⟨v0_3, A0_3, c0_3_, e3, q3_0, q3_1, q3_2⟩ := opn37 f3
  have f4 : DataW.trod enc Try.prog w base sp held n 3 (List.take (Try.prog.cellsOf 3) (List.drop 4 [c0, c1, c2, c3, c4, c5, c6, c7, c8, c9, c10, c11])) = xs[4]? := hf 4 _ rfl
  rw [show Try.prog.cellsOf 3 = 1 by kernel_rfl, List.getElem?_eq_getElem (show 4 < xs.length by rw [hx]; decide)] at f4
  replace f4 : DataW.trod enc Try.prog w base sp held n 3 [c4] = some _ := f4
  obtain ⟨v3, e4, _⟩ := DataW.trod_int Try.underlying3 f4
  have f5 : DataW.trod enc Try.prog w base sp held n 3 (List.take (Try.prog.cellsOf 3) (List.drop 5 [c0, c1, c2, c3, c4, c5, c6, c7, c8, c9, c10, c11])) = xs[5]? := hf 5 _ rfl
  rw [show Try.prog.cellsOf 3 = 1 by kernel_rfl, List.getElem?_eq_getElem (show 5 < xs.length by rw [hx]; decide)] at f5
  replace f5 : DataW.trod enc Try.prog w base sp held n 3 [c5] = some _ := f5
  obtain ⟨v4, e5, _⟩ := DataW.trod_int Try.underlying3 f5
  have f6 : DataW.trod enc Try.prog w base sp held n 3 (List.take (Try.prog.cellsOf 3) (List.drop 6 [c0, c1, c2, c3, c4, c5, c6, c7, c8, c9, c10, c11])) = xs[6]? := hf 6 _ rfl
  rw [show Try.prog.cellsOf 3 = 1 by kernel_rfl, List.getElem?_eq_getElem (show 6 < xs.length by rw [hx]; decide)] at f6
  replace f6 : DataW.trod enc Try.prog w base sp held n 3 [c6] = some _ := f6
  obtain ⟨v5, e6, _⟩ := DataW.trod_int Try.underlying3 f6
  have f7 : DataW.trod enc Try.prog w base sp held n 3 (List.take (Try.prog.cellsOf 3) (List.drop 7 [c0, c1, c2, c3, c4, c5, c6, c7, c8, c9, c10, c11])) = xs[7]? := hf 7 _ rfl
  rw [show Try.prog.cellsOf 3 = 1 by kernel_rfl, List.getElem?_eq_getElem (show 7 < xs.length by rw [hx]; decide)] at f7
  replace f7 : DataW.trod enc Try.prog w base sp held n 3 [c7] = some _ := f7
  obtain ⟨v6, e7, _⟩ := DataW.trod_int Try.underlying3 f7
  have f8 : DataW.trod enc Try.prog w base sp held n 61 (List.take (Try.prog.cellsOf 61) (List.drop 8 [c0, c1, c2, c3, c4, c5, c6, c7, c8, c9, c10, c11])) = xs[8]? := hf 8 _ rfl
  rw [show Try.prog.cellsOf 61 = 2 by kernel_rfl, List.getElem?_eq_getElem (show 8 < xs.length by rw [hx]; decide)] at f8
  replace f8 : DataW.trod enc Try.prog w base sp held n 61 [c8, c9] = some _ := f8
  obtain ⟨v0_8, v1_8, e8⟩ := opn61 f8
  have f9 : DataW.trod enc Try.prog w base sp held n 9 (List.take (Try.prog.cellsOf 9) (List.drop 10 [c0, c1, c2, c3, c4, c5, c6, c7, c8, c9, c10, c11])) = xs[9]? := hf 9 _ rfl
  rw [show Try.prog.cellsOf 9 = 1 by kernel_rfl, List.getElem?_eq_getElem (show 9 < xs.length by rw [hx]; decide)] at f9
  replace f9 : DataW.trod enc Try.prog w base sp held n 9 [c10] = some _ := f9
  obtain ⟨v7, e9, _, s7⟩ := DataW.trod_string Try.underlying9 f9
  have f10 : DataW.trod enc Try.prog w base sp held n 9 (List.take (Try.prog.cellsOf 9) (List.drop 11 [c0, c1, c2, c3, c4, c5, c6, c7, c8, c9, c10, c11])) = xs[10]? := hf 10 _ rfl
  rw [show Try.prog.cellsOf 9 = 1 by kernel_rfl, List.getElem?_eq_getElem (show 10 < xs.length by rw [hx]; decide)] at f10
  replace f10 : DataW.trod enc Try.prog w base sp held n 9 [c11] = some _ := f10
  obtain ⟨v8, e10, _, s8⟩ := DataW.trod_string Try.underlying9 f10
  cases e0
  cases e1
  cases e2
  cases e3
  cases e4
  cases e5
  cases e6
  cases e7
  cases e8
  cases e9
  cases e10
  exact ⟨v0, v1, v2, v0_3, A0_3, c0_3_, v3, v4, v5, v6, v0_8, v1_8, v7, v8, rfl, q3_0, q3_1, q3_2, s7, s8⟩
def GoodeLO : LO → Prop := fun y : LO => y.o.deps.length ≤ y.c ∧ y.o.deps.length ≤ 9223372036854775807 ∧ y.o.key.size ≤ 9223372036854775807 ∧ y.o.text.size ≤ 9223372036854775807
theorem opeleLO {H : Type} {enc : TypeId × Value → H} {w : World} {base : Nat} {sp : Nat → Bool} {held : Bool} (fuel : Nat) (cs : List Value) (x : DataW H × List MemPlace) (h : DataW.trod enc Try.prog w base sp held fuel 63 cs = some x) : ∃ a : LO, cs = eLO.enc a ∧ (∀ B ys, eLO.inn a = some (B, ys) → RI w B ys) ∧ GoodeLO a := by
  obtain ⟨v0, v1, v2, v0_3, A0_3, c0_3_, v3, v4, v5, v6, v0_8, v1_8, v7, v8, e_, q3_0, q3_1, q3_2, s7, s8⟩ := opn63 h
  exact ⟨⟨⟨v0, v1, v2, v0_3, v3, v4, v5, v6, v0_8, v1_8, v7, v8⟩, A0_3, c0_3_⟩, e_, fun B ys hB => by cases hB; exact q3_0, ⟨q3_1, Nat.le_trans q3_1 q3_2, s7, s8⟩⟩
end Go.Proofs.Ytideafkiaipnoaa.Q

/- The law FnExactLogAt: for every input it returns true, and each argument reads as it did. -/
namespace Go.Proofs.Ytideafkiaipnoaa.fnExactLogAt
open Go Go.ChangeShapes Go.WideShapes Go.ChangeAt Go.RowKit Go.Proofs.Ytideafkiaipnoaa.Q
open Go.ChangeMaps (open_string shut_string)
set_option linter.unusedVariables false
theorem own : ownKnob Try.prog.godebug = none := by kernel_rfl
theorem laidOut : laidOutB Try.prog = true := by kernel_rfl
set_option maxRecDepth 100000 in
theorem lifted (os : Os) (started : os.Started) (H : Type) (enc : TypeId × Value → H) :
    ReturnsInHanded {} Try.checked os 7 .any (Rows.fnExactLogAtSpec.pre6 enc Try.prog Try.f7 Rows.fnExactLogAtRow.domain false) (Rows.fnExactLogAtSpec.post enc Try.prog Try.f7 false true false false) := by
  refine returnsInHanded_of_change_sized (C := Try.checked) own started (by kernel_rfl) Try.func7
    (ChangeSpec.witness6 (enc := enc) (C := Try.checked) false ⟨#[], #[.slice none 0 0, .agg #[.slice none 0 0]], []⟩ 8 (by kernel_rfl) (by kernel_rfl) (by kernel_rfl) (by kernel_rfl)) ?_
  intro W base args ds gs before hval0 hW hcnd hsz0 _
  have hval : ∀ (j : Nat) t v, Try.f7.params[j]? = some t → args[j]? = some v → Value.okWide Try.prog W .any base t v := hval0
  have hW' := hW
  obtain ⟨p, q, hA0, hV, rfl, hfz, hnd⟩ := hW
  have hA : DataW.TrodAll enc Try.prog W 0 (fun _ => true) true Try.f7.params.toList args.toList ds p := hA0
  rw [Try.params7] at hA hval
  obtain ⟨v0, vs0, d0, ds0, p0, q0, hargs, rfl, rfl, h0, r0⟩ := trodAll_cons hA
  obtain ⟨v1, vs1, d1, ds1, p1, q1, rfl, rfl, rfl, h1, r1⟩ := trodAll_cons r0
  obtain ⟨rfl, rfl, rfl⟩ := trodAll_nil r1
  obtain rfl : args = #[v0, v1] := by cases args; simp_all
  obtain ⟨rfl, rfl⟩ := trodVars_none hV
  have k0 := h0
  have lt0 : ∀ x ∈ p0, x.block < W.heap.size := by obtain ⟨m, hm⟩ := k0; exact DataW.trod_lt m _ _ _ hm
  obtain ⟨a0, len0, cap0, rfl⟩ := okWide_slice Try.underlying22 (hval 0 22 v0 rfl rfl)
  obtain ⟨fu0, hf0⟩ := h0
  obtain ⟨A0, xs0, c0, e0, HR0, HG0, hl0, hm0⟩ := op_row (E := eLO) Try.underlying22 (by kernel_rfl) (by decide) opeleLO hf0
  simp only [Value.cells, List.cons.injEq, Value.slice.injEq, and_true] at e0
  obtain ⟨rfl, rfl, rfl⟩ := e0
  have HC0 : Caps xs0 := fun y hy => (HG0 y hy).1
  have HH0 : Held (xs0.map LO.o) := ⟨by rw [List.length_map]; omega, fun o ho => by obtain ⟨y, hy, rfl⟩ := List.mem_map.1 ho; exact (HG0 y hy).2⟩
  have k1 := h1
  have lt1 : ∀ x ∈ p1, x.block < W.heap.size := by obtain ⟨m, hm⟩ := k1; exact DataW.trod_lt m _ _ _ hm
  obtain ⟨cs1, rfl, _⟩ := okWide_struct Try.underlying37 (hval 1 37 v1 rfl rfl)
  obtain ⟨fu1, hf1⟩ := h1
  obtain ⟨xs1, A1, c1, e1, HR1, hl1, hm1⟩ := opn37 hf1
  obtain rfl : cs1 = #[.slice A1 xs1.length c1] := Array.ext' (by simpa [Value.cells] using e1)
  clear hA0 hval0 hsz0
  refine (Q.lawLogAt_calls a0 xs0 cap0 A1 xs1 c1 W HR0 HC0 HH0 HR1 (by omega)).mono fun e W' ⟨he, bel⟩ => ?_
  subst he
  exact ⟨_, rfl, _, _, _, [], _, [], hW', trodAll_mk1 (shut_bool Try.underlying4 _), (trodAll_cons_mk (Below.trod laidOut (by kernel_rfl) (of_decide_eq_true (by kernel_rfl)) k0 bel lt0) (trodAll_cons_mk (Below.trod laidOut (by kernel_rfl) (of_decide_eq_true (by kernel_rfl)) k1 bel lt1) trodAll_mk0)), rfl, bel.frame _, fun h => by cases h⟩
theorem over : Rows.fnExactLogAtRow.holds Try.pinned (OpenSpec.ofChange Rows.fnExactLogAtSpec) :=
  OpenClaim.holds_of_wide 7 Try.f7 rfl rfl rfl rfl rfl rfl rfl ⟨rfl, rfl, rfl, rfl, rfl⟩ rfl rfl rfl rfl rfl (by kernel_rfl) Try.func7 (by kernel_rfl)
    (of_decide_eq_true (by kernel_rfl)) (by unfold Func.isWrapper; first | (rw [if_pos (by decide +kernel)]; kernel_rfl) | (rw [if_neg (by decide +kernel)]; exact ⟨rfl, rfl⟩))
    (fun os started H enc _ => lifted os started H enc)
theorem proved : Rows.FnExactLogAtSaid := over
end Go.Proofs.Ytideafkiaipnoaa.fnExactLogAt
namespace Go.Proofs.Ytideafkiaipnoaa
/-- The row, under a short name, for the claim. -/
theorem fnExactLogAt_holds : Rows.FnExactLogAtSaid := fnExactLogAt.proved
#print axioms fnExactLogAt_holds
end Go.Proofs.Ytideafkiaipnoaa

