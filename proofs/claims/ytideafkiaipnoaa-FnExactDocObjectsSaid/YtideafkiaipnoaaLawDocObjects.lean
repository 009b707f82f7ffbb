/- Functions walked. -/
import Derived.Test.YtideafkiaipnoaaDocA
import Derived.Test.YtideafkiaipnoaaOpL
namespace Go.Proofs.Ytideafkiaipnoaa.Q
open Go Go.RowKit Go.Proofs.YtideafkiaipnoaaW.PrintWords Go.Proofs.YtideafkiaipnoaaW.PrintLast Go.Proofs.Ytideafkiaipnoaa.Deed
set_option maxRecDepth 100000
set_option maxHeartbeats 2000000 in
theorem lawDocObjects_calls (A0_ : Option Addr) (l0 : List LO) (c0_ : Nat) (w : World) (HR0 : RV eLO w A0_ l0) (HC0 : Caps l0) (HH0 : Held (l0.map LO.o)) : Calls Try.prog 3 #[.slice A0_ l0.length c0_] w fun e w' => e = .returned (.bool true) ∧ Below w.heap.size w w' := by
  refine calls_of_wp Try.func3 rfl ?_
  refine enter_ (N := 96) rfl ?_
  rintro a0 hN hD ⟨s0, -⟩
  have HB : Below w.heap.size w w := Below.refl _ _
  refine wp_seq ?_
  refine deedL [.eq 2 (.bool false), .eq 0 (.slice A0_ l0.length c0_), .w (Below w.heap.size w)] 96 [[]] [] [1, 2] hM hN hD (by kernel_rfl) ⟨s0, ⟨Below.refl _ _, below_drew (Below.refl _ _)⟩, trivial⟩ ⟨fun _ _ hb h => below_step h hb, trivial⟩ (fun hgrow => ⟨fun _ _ _ => rv rfl (x_assign rfl rfl) rfl, trivial⟩) ?_
  clear s0
  clear hN hD
  rintro a1 w1 hN hD ⟨s0, hGR, -⟩
  replace HB := below_step HB hGR
  have zsw1 : w.heap.size ≤ w1.heap.size := hGR.size
  clear hGR
  show Code.wp _ _ _ _ _
  refine wp_seq ?_
  refine deedL [.eq 3 (.int .i64 1048576), .eq 0 (.slice A0_ l0.length c0_), .w (Below w1.heap.size w1)] 96 [[]] [] [0, 1, 2] hM hN hD (by kernel_rfl) ⟨s0, ⟨Below.refl _ _, below_drew (Below.refl _ _)⟩, trivial⟩ ⟨fun _ _ hb h => below_step h hb, trivial⟩ (fun hgrow => ⟨fun _ _ _ => rv rfl (x_assign rfl rfl) rfl, trivial⟩) ?_
  clear s0
  clear hN hD
  rintro a2 w2 hN hD ⟨s3, s0, hGR, -⟩
  replace HB := below_step HB hGR
  have zsw2 : w1.heap.size ≤ w2.heap.size := hGR.size
  clear hGR
  show Code.wp _ _ _ _ _
  refine wp_seq ?_
  refine deedL [.eq 14 (.slice A0_ l0.length c0_), .eq 15 (.int .i64 1048576), .s1 16 fun x_ W => ∃ (r0 : Int), x_ = .int .i64 r0 ∧ (0 ≤ r0 → (l0.length : Int) + tot (l0.map LO.o) + r0 ≤ 1048576), .s2 16 3 fun x_ y_ _ => ∃ (r0 : Int), x_ = .int .i64 r0 ∧ y_ = .int .i64 r0, .eq 0 (.slice A0_ l0.length c0_), .eq 3 (.int .i64 1048576), .w (Below w2.heap.size w2)] 96 [[4], [5], [0, 1, 6], [2]] [[], [], [], [5]] [2, 3, 4, 6] hM hN hD (by kernel_rfl) ⟨s0, s3, ⟨Below.refl _ _, below_drew (Below.refl _ _)⟩, trivial⟩ ⟨fun _ _ _ hb h => by obtain ⟨r0, e_, z0⟩ := h; exact ⟨_, e_, z0⟩, fun _ _ _ _ hb h => h, fun _ _ hb h => below_step h hb, trivial⟩ (fun hgrow => ⟨fun _ _ h => rv rfl (x_move rfl h.1) rfl,
    fun _ _ h => rv rfl (x_move rfl h.1) rfl,
    fun _ _ h => rc hgrow rfl Try.func12 (by kernel_rfl) rfl rfl (args2 h.1 h.2.1) (szOpS_L A0_ l0 c0_ 1048576 _ (RV.below HR0 (below_step HB h.2.2.1)) HC0 HH0 (by omega) (by omega)) (fun _ _ hR => by obtain ⟨r0, e_, z0, hb⟩ := hR; exact ⟨_, e_, hb, r0, rfl, z0⟩),
    ?_, trivial⟩) ?_
  · rintro a_ W ⟨h2, -⟩
    obtain ⟨r0, e2, HLr0⟩ := h2
    exact rv rfl (x_assign rfl e2) ⟨_, e2, rfl⟩
  clear s0 s3
  clear hN hD
  rintro a3 w3 hN hD ⟨⟨r0, s16, HLr0⟩, q3, s0, hGR, -⟩
  obtain ⟨r0_, e_, s3⟩ := q3
  cases s16.symm.trans e_
  have lr0 := HLr0
  clear HLr0
  replace HB := below_step HB hGR
  have zsw3 : w2.heap.size ≤ w3.heap.size := hGR.size
  clear hGR
  show Code.wp _ _ _ _ _
  refine wp_seq ?_
  refine wp_seq ?_
  refine deedL [.eq 17 (.int .i64 r0), .eq 18 (.bool (decide (r0 < 0))), .eq 0 (.slice A0_ l0.length c0_), .eq 3 (.int .i64 r0), .w (Below w3.heap.size w3)] 96 [[3], [0]] [] [1, 2, 3, 4] hM hN hD (by kernel_rfl) ⟨s0, s3, ⟨Below.refl _ _, below_drew (Below.refl _ _)⟩, trivial⟩ ⟨fun _ _ hb h => below_step h hb, trivial⟩ (fun hgrow => ⟨fun _ _ h => rv rfl (x_move rfl h.1) rfl,
    fun _ _ h => rv rfl (x_lss rfl h.1 rfl) rfl, trivial⟩) ?_
  clear s0 s3
  clear hN hD
  rintro a4 w4 hN hD ⟨s18, s0, s3, hGR, -⟩
  replace HB := below_step HB hGR
  have zsw4 : w3.heap.size ≤ w4.heap.size := hGR.size
  clear hGR
  show Code.wp _ _ _ _ _
  refine wp_cond (t := decide (r0 < 0)) s18 ?_
  rcases Bool.eq_false_or_eq_true (decide (r0 < 0)) with cd5 | cd5
  · rw [cd5]
    show Code.wp _ _ _ _ _
    have pd5 := of_decide_eq_true cd5
    refine wp_seq ?_
    refine deedL [.eq 2 (.bool true), .w (Below w4.heap.size w4)] 96 [[]] [] [0, 1] hM hN hD (by kernel_rfl) ⟨⟨Below.refl _ _, below_drew (Below.refl _ _)⟩, trivial⟩ ⟨fun _ _ hb h => below_step h hb, trivial⟩ (fun hgrow => ⟨fun _ _ _ => rv rfl (x_assign rfl rfl) rfl, trivial⟩) ?_
    clear s0 s3 s18
    clear hN hD
    rintro a6 w6 hN hD ⟨s2, hGR, -⟩
    replace HB := below_step HB hGR
    have zsw6 : w4.heap.size ≤ w6.heap.size := hGR.size
    clear hGR
    show Code.wp _ _ _ _ _
    refine wp_ret (then_ret ?_)
    refine bodyPost_ret (results_single rfl (vtmp s2 .nil)) hD ?_
    exact ⟨rfl, HB⟩
  · rw [cd5]
    show Code.wp _ _ _ _ _
    have pd5 := of_decide_eq_false cd5
    have hsz0 := lr0 (by omega)
    have htn0 := tot_nn (l0.map LO.o)
    have hxn0 : l0.length ≤ 1048576 := by omega
    have hdl0 : ∀ x ∈ l0, x.o.deps.length ≤ 1048576 := dep_le' (by omega)
    refine wp_skip ?_
    show Code.wp _ _ _ _ _
    refine wp_seq ?_
    have hBw4 := HB
    refine deedL [.eq 20 (.slice A0_ l0.length c0_), .s1 21 fun x_ W => ∃ (A21 : Option Addr) (c21 : Nat) (y21 : List LO), x_ = .slice A21 ((l0.map LO.o).length) c21 ∧ OwnAt eLO W A21 y21 (w4.heap.size) W.heap.size ∧ y21.map LO.o = l0.map LO.o ∧ Caps y21, .s1 22 fun x_ W => ∃ (A22_0 : Option Addr) (c22_0 : Nat), x_ = .tuple #[Value.slice A22_0 ((sObjs (l0.map LO.o)).length) c22_0, Value.int .i64 ((if sLogOK (l0.map LO.o) = true then 0 else 1) : Int)] ∧ OwnI W A22_0 (sObjs (l0.map LO.o)) (w4.heap.size) W.heap.size, .s2 22 19 fun x_ y_ _ => ∃ (A22_0 : Option Addr) (c22_0 : Nat), x_ = .tuple #[Value.slice A22_0 ((sObjs (l0.map LO.o)).length) c22_0, Value.int .i64 ((if sLogOK (l0.map LO.o) = true then 0 else 1) : Int)] ∧ y_ = .tuple #[Value.slice A22_0 ((sObjs (l0.map LO.o)).length) c22_0, Value.int .i64 ((if sLogOK (l0.map LO.o) = true then 0 else 1) : Int)], .s2 22 23 fun x_ y_ _ => ∃ (A22_0 : Option Addr) (c22_0 : Nat), x_ = .tuple #[Value.slice A22_0 ((sObjs (l0.map LO.o)).length) c22_0, Value.int .i64 ((if sLogOK (l0.map LO.o) = true then 0 else 1) : Int)] ∧ y_ = .slice A22_0 ((sObjs (l0.map LO.o)).length) c22_0, .eq 24 (.int .i64 ((if sLogOK (l0.map LO.o) = true then 0 else 1) : Int)), .s2 22 4 fun x_ y_ _ => ∃ (A22_0 : Option Addr) (c22_0 : Nat), x_ = .tuple #[Value.slice A22_0 ((sObjs (l0.map LO.o)).length) c22_0, Value.int .i64 ((if sLogOK (l0.map LO.o) = true then 0 else 1) : Int)] ∧ y_ = .slice A22_0 ((sObjs (l0.map LO.o)).length) c22_0, .eq 5 (.int .i64 ((if sLogOK (l0.map LO.o) = true then 0 else 1) : Int)), .eq 0 (.slice A0_ l0.length c0_), .w (Below w4.heap.size w4)] 96 [[8], [0, 9], [1, 9], [2], [3], [3], [4], [5]] [] [7, 1, 2, 6, 8, 9] hM hN hD (by kernel_rfl) ⟨s0, ⟨Below.refl _ _, below_drew (Below.refl _ _)⟩, trivial⟩ ⟨fun _ _ _ hb h => by obtain ⟨A21, c21, y21, e_, z0, z1, z2⟩ := h; exact ⟨_, _, _, e_, (z0.below hb).wide (Nat.le_refl _) hb.size, z1, z2⟩, fun _ _ _ hb h => by obtain ⟨A22_0, c22_0, e_, z0⟩ := h; exact ⟨_, _, e_, (z0.below hb).wide (Nat.le_refl _) hb.size⟩, fun _ _ _ _ hb h => h, fun _ _ _ _ hb h => h, fun _ _ _ _ hb h => h, fun _ _ hb h => below_step h hb, trivial⟩ (fun hgrow => ⟨fun _ _ h => rv rfl (x_move rfl h.1) rfl,
      fun _ _ h => rc hgrow rfl Try.func14 (by kernel_rfl) rfl rfl (args1 h.1) (toOpS_L A0_ l0 c0_ _ (RV.below HR0 (below_step HB h.2.1)) hxn0 hdl0) (fun _ _ hR => by obtain ⟨A21, c21, y21, e_, z0, z1, z2, hb⟩ := hR; exact ⟨_, e_, hb, A21, c21, y21, rfl, (z0.wide h.2.1.size (Nat.le_refl _)), z1, z2⟩),
      ?_,
      ?_,
      ?_,
      ?_,
      ?_,
      fun _ _ h => rv rfl (x_assign rfl h.1) rfl, trivial⟩) ?_
    · rintro a_ W ⟨h1, h9, -⟩
      obtain ⟨A21, c21, y21, e1, HOX21, HYM21, HYC21⟩ := h1
      exact rc hgrow rfl Try.func13 (by kernel_rfl) rfl rfl (args1 e1) (sDoc_L A21 y21 c21 (l0.map LO.o) _ HYM21 HOX21.RV HYC21) (fun _ _ hR => by obtain ⟨A22_0, c22_0, e_, z0, hb⟩ := hR; exact ⟨_, e_, hb, A22_0, c22_0, rfl, (z0.wide h9.size (Nat.le_refl _))⟩)
    · rintro a_ W ⟨h2, -⟩
      obtain ⟨A22_0, c22_0, e2, HOX22_0⟩ := h2
      exact rv rfl (x_move rfl e2) ⟨_, _, e2, rfl⟩
    · rintro a_ W ⟨h3, -⟩
      obtain ⟨A22_0, c22_0, r3, e3⟩ := h3
      exact rv rfl (x_extract rfl e3 rfl) ⟨_, _, r3, rfl⟩
    · rintro a_ W ⟨h3, -⟩
      obtain ⟨A22_0, c22_0, r3, e3⟩ := h3
      exact rv rfl (x_extract rfl e3 rfl) rfl
    · rintro a_ W ⟨h4, -⟩
      obtain ⟨A22_0, c22_0, r4, e4⟩ := h4
      exact rv rfl (x_assign rfl e4) ⟨_, _, r4, rfl⟩
    clear s0 s3 s18
    clear hN hD
    rintro a7 w7 hN hD ⟨s5, ⟨A21, c21, y21, s21, HOX21, HYM21, HYC21⟩, ⟨A22_0, c22_0, s22, HOX22_0⟩, q4, s0, hGR, -⟩
    obtain ⟨A22_0_, c22_0_, e_, s4⟩ := q4
    cases s22.symm.trans e_
    replace HB := below_step HB hGR
    clear HOX21
    have zzOX22_0 : w.heap.size ≤ w4.heap.size := hBw4.size
    have zsw7 : w4.heap.size ≤ w7.heap.size := hGR.size
    clear hGR
    have HB5 := Below.refl w7.heap.size w7
    have HWOX22_0 := HOX22_0.RI
    clear HOX22_0
    show Code.wp _ _ _ _ _
    refine wp_seq ?_
    have hBw7 := HB
    refine deedL [.eq 25 (.slice A0_ l0.length c0_), .s1 26 fun x_ W => ∃ (A26 : Option Addr) (c26 : Nat) (y26 : List LO), x_ = .slice A26 ((l0.map LO.o).length) c26 ∧ OwnAt eLO W A26 y26 (w7.heap.size) W.heap.size ∧ y26.map LO.o = l0.map LO.o ∧ Caps y26, .s2 26 6 fun x_ y_ _ => ∃ (A26 : Option Addr) (c26 : Nat), x_ = .slice A26 ((l0.map LO.o).length) c26 ∧ y_ = .slice A26 ((l0.map LO.o).length) c26, .eq 0 (.slice A0_ l0.length c0_), .eq 4 (.slice A22_0 ((sObjs (l0.map LO.o)).length) c22_0), .eq 5 (.int .i64 ((if sLogOK (l0.map LO.o) = true then 0 else 1) : Int)), .w (Below w7.heap.size w7)] 96 [[3], [0, 6], [1]] [] [1, 2, 3, 4, 5, 6] hM hN hD (by kernel_rfl) ⟨s0, s4, s5, ⟨Below.refl _ _, below_drew (Below.refl _ _)⟩, trivial⟩ ⟨fun _ _ _ hb h => by obtain ⟨A26, c26, y26, e_, z0, z1, z2⟩ := h; exact ⟨_, _, _, e_, (z0.below hb).wide (Nat.le_refl _) hb.size, z1, z2⟩, fun _ _ _ _ hb h => h, fun _ _ hb h => below_step h hb, trivial⟩ (fun hgrow => ⟨fun _ _ h => rv rfl (x_move rfl h.1) rfl,
      fun _ _ h => rc hgrow rfl Try.func14 (by kernel_rfl) rfl rfl (args1 h.1) (toOpS_L A0_ l0 c0_ _ (RV.below HR0 (below_step HB h.2.1)) hxn0 hdl0) (fun _ _ hR => by obtain ⟨A26, c26, y26, e_, z0, z1, z2, hb⟩ := hR; exact ⟨_, e_, hb, A26, c26, y26, rfl, (z0.wide h.2.1.size (Nat.le_refl _)), z1, z2⟩),
      ?_, trivial⟩) ?_
    · rintro a_ W ⟨h1, -⟩
      obtain ⟨A26, c26, y26, e1, HOX26, HYM26, HYC26⟩ := h1
      exact rv rfl (x_assign rfl e1) ⟨_, _, e1, rfl⟩
    clear s0 s4 s5
    clear hN hD
    rintro a8 w8 hN hD ⟨⟨A26, c26, y26, s26, HOX26, HYM26, HYC26⟩, q6, s0, s4, s5, hGR, -⟩
    obtain ⟨A26_, c26_, e_, s6⟩ := q6
    cases s26.symm.trans e_
    replace HB := below_step HB hGR
    replace HYM21 := HYM21
    replace HYC21 := HYC21
    replace HB5 := below_step HB5 hGR
    have zzOX26 : w.heap.size ≤ w7.heap.size := hBw7.size
    have zsw8 : w7.heap.size ≤ w8.heap.size := hGR.size
    clear hGR
    show Code.wp _ _ _ _ _
    refine wp_seq ?_
    have hBw8 := HB
    refine deedL [.eq 28 (.slice A26 ((l0.map LO.o).length) c26), .s1 29 fun x_ W => ∃ (A29_0 : Option Addr) (c29_0 : Nat), x_ = .tuple #[Value.slice A29_0 ((sObjs (l0.map LO.o)).length) c29_0, Value.int .i64 ((if sLogOK (l0.map LO.o) = true then 0 else 1) : Int)] ∧ OwnI W A29_0 (sObjs (l0.map LO.o)) (w8.heap.size) W.heap.size, .s2 29 27 fun x_ y_ _ => ∃ (A29_0 : Option Addr) (c29_0 : Nat), x_ = .tuple #[Value.slice A29_0 ((sObjs (l0.map LO.o)).length) c29_0, Value.int .i64 ((if sLogOK (l0.map LO.o) = true then 0 else 1) : Int)] ∧ y_ = .tuple #[Value.slice A29_0 ((sObjs (l0.map LO.o)).length) c29_0, Value.int .i64 ((if sLogOK (l0.map LO.o) = true then 0 else 1) : Int)], .s2 29 30 fun x_ y_ _ => ∃ (A29_0 : Option Addr) (c29_0 : Nat), x_ = .tuple #[Value.slice A29_0 ((sObjs (l0.map LO.o)).length) c29_0, Value.int .i64 ((if sLogOK (l0.map LO.o) = true then 0 else 1) : Int)] ∧ y_ = .slice A29_0 ((sObjs (l0.map LO.o)).length) c29_0, .eq 31 (.int .i64 ((if sLogOK (l0.map LO.o) = true then 0 else 1) : Int)), .s2 29 7 fun x_ y_ _ => ∃ (A29_0 : Option Addr) (c29_0 : Nat), x_ = .tuple #[Value.slice A29_0 ((sObjs (l0.map LO.o)).length) c29_0, Value.int .i64 ((if sLogOK (l0.map LO.o) = true then 0 else 1) : Int)] ∧ y_ = .slice A29_0 ((sObjs (l0.map LO.o)).length) c29_0, .eq 8 (.int .i64 ((if sLogOK (l0.map LO.o) = true then 0 else 1) : Int)), .eq 0 (.slice A0_ l0.length c0_), .eq 4 (.slice A22_0 ((sObjs (l0.map LO.o)).length) c22_0), .eq 5 (.int .i64 ((if sLogOK (l0.map LO.o) = true then 0 else 1) : Int)), .eq 6 (.slice A26 ((l0.map LO.o).length) c26), .w (Below w8.heap.size w8)] 96 [[10], [0, 11], [1], [2], [2], [3], [4]] [] [6, 1, 5, 7, 8, 9, 10, 11] hM hN hD (by kernel_rfl) ⟨s0, s4, s5, s6, ⟨Below.refl _ _, below_drew (Below.refl _ _)⟩, trivial⟩ ⟨fun _ _ _ hb h => by obtain ⟨A29_0, c29_0, e_, z0⟩ := h; exact ⟨_, _, e_, (z0.below hb).wide (Nat.le_refl _) hb.size⟩, fun _ _ _ _ hb h => h, fun _ _ _ _ hb h => h, fun _ _ _ _ hb h => h, fun _ _ hb h => below_step h hb, trivial⟩ (fun hgrow => ⟨fun _ _ h => rv rfl (x_move rfl h.1) rfl,
      fun _ _ h => rc hgrow rfl Try.func15 (by kernel_rfl) rfl rfl (args1 h.1) (iDoc_L A26 y26 c26 (l0.map LO.o) _ (HYM26) (HOX26.below h.2.1).RV (HYC26)) (fun _ _ hR => by obtain ⟨A29_0, c29_0, e_, z0, hb⟩ := hR; exact ⟨_, e_, hb, A29_0, c29_0, rfl, (z0.wide h.2.1.size (Nat.le_refl _))⟩),
      ?_,
      ?_,
      ?_,
      ?_,
      fun _ _ h => rv rfl (x_assign rfl h.1) rfl, trivial⟩) ?_
    · rintro a_ W ⟨h1, -⟩
      obtain ⟨A29_0, c29_0, e1, HOX29_0⟩ := h1
      exact rv rfl (x_move rfl e1) ⟨_, _, e1, rfl⟩
    · rintro a_ W ⟨h2, -⟩
      obtain ⟨A29_0, c29_0, r2, e2⟩ := h2
      exact rv rfl (x_extract rfl e2 rfl) ⟨_, _, r2, rfl⟩
    · rintro a_ W ⟨h2, -⟩
      obtain ⟨A29_0, c29_0, r2, e2⟩ := h2
      exact rv rfl (x_extract rfl e2 rfl) rfl
    · rintro a_ W ⟨h3, -⟩
      obtain ⟨A29_0, c29_0, r3, e3⟩ := h3
      exact rv rfl (x_assign rfl e3) ⟨_, _, r3, rfl⟩
    clear s0 s4 s5 s6
    clear hN hD
    rintro a9 w9 hN hD ⟨s8, ⟨A29_0, c29_0, s29, HOX29_0⟩, q7, s0, s4, s5, s6, hGR, -⟩
    obtain ⟨A29_0_, c29_0_, e_, s7⟩ := q7
    cases s29.symm.trans e_
    replace HB := below_step HB hGR
    replace HYM21 := HYM21
    replace HYC21 := HYC21
    replace HB5 := below_step HB5 hGR
    replace HOX26 := HOX26.below hGR
    replace HYM26 := HYM26
    replace HYC26 := HYC26
    have zzOX29_0 : w.heap.size ≤ w8.heap.size := hBw8.size
    have zsw9 : w8.heap.size ≤ w9.heap.size := hGR.size
    clear hGR
    show Code.wp _ _ _ _ _
    refine wp_seq ?_
    refine wp_seq ?_
    refine deedL (.eq 32 (.slice A29_0 ((sObjs (l0.map LO.o)).length) c29_0) :: .eq 33 (.slice A22_0 ((sObjs (l0.map LO.o)).length) c22_0) :: .eq 34 (.bool ((sObjs (l0.map LO.o)) == (sObjs (l0.map LO.o)))) :: .eq 35 (.bool (!((sObjs (l0.map LO.o)) == (sObjs (l0.map LO.o))))) :: .eq 36 (.bool (!((sObjs (l0.map LO.o)) == (sObjs (l0.map LO.o))))) :: .gv (((!((sObjs (l0.map LO.o)) == (sObjs (l0.map LO.o)))) == false)) 37 (.int .i64 ((if sLogOK (l0.map LO.o) = true then 0 else 1) : Int)) :: .gv (((!((sObjs (l0.map LO.o)) == (sObjs (l0.map LO.o)))) == false)) 38 (.int .i64 ((if sLogOK (l0.map LO.o) = true then 0 else 1) : Int)) :: .gv (((!((sObjs (l0.map LO.o)) == (sObjs (l0.map LO.o)))) == false)) 39 (.bool (((if sLogOK (l0.map LO.o) = true then 0 else 1) : Int) != ((if sLogOK (l0.map LO.o) = true then 0 else 1) : Int))) :: .eq 40 (.bool ((!((sObjs (l0.map LO.o)) == (sObjs (l0.map LO.o)))) || (((if sLogOK (l0.map LO.o) = true then 0 else 1) : Int) != ((if sLogOK (l0.map LO.o) = true then 0 else 1) : Int)))) :: .eq 0 (.slice A0_ l0.length c0_) :: .eq 4 (.slice A22_0 ((sObjs (l0.map LO.o)).length) c22_0) :: .eq 5 (.int .i64 ((if sLogOK (l0.map LO.o) = true then 0 else 1) : Int)) :: .eq 6 (.slice A26 ((l0.map LO.o).length) c26) :: .eq 7 (.slice A29_0 ((sObjs (l0.map LO.o)).length) c29_0) :: .eq 8 (.int .i64 ((if sLogOK (l0.map LO.o) = true then 0 else 1) : Int)) :: .w (Below w9.heap.size w9) :: []) 96 [[13], [10], [0, 1, 15], [2], [3], [4, 14], [4, 11], [4, 5, 6], [4, 7]] [] [8, 9, 10, 11, 12, 13, 14, 15] hM hN hD (by kernel_rfl) ⟨s0, s4, s5, s6, s7, s8, ⟨Below.refl _ _, below_drew (Below.refl _ _)⟩, trivial⟩ ⟨fun _ _ hb h => below_step h hb, trivial⟩ (fun hgrow => ⟨fun _ _ h => rv rfl (x_move rfl h.1) rfl,
      fun _ _ h => rv rfl (x_move rfl h.1) rfl,
      fun _ _ h => rc hgrow rfl Try.func16 (by kernel_rfl) rfl rfl (args2 h.1 h.2.1) (eqI_calls A29_0 (sObjs (l0.map LO.o)) c29_0 A22_0 (sObjs (l0.map LO.o)) c22_0 _ (HOX29_0.below h.2.2.1).RI (RI.below HWOX22_0 (below_step HB5 h.2.2.1)) (by have := sObjs_len (l0.map LO.o); omega)) (fun _ _ h => ⟨_, h.1, h.2, rfl⟩),
      fun _ _ h => rv rfl (x_not rfl h.1) rfl,
      fun _ _ h => rv rfl (x_move rfl h.1) rfl,
      fun _ _ h => rb rfl rfl h.1 (fun hgt => x_move rfl h.2.1) (fun _ z => z),
      fun _ _ h => rb rfl rfl h.1 (fun hgt => x_move rfl h.2.1) (fun _ z => z),
      fun _ _ h => rb rfl rfl h.1 (fun hgt => x_neq rfl (h.2.1.1 hgt) (h.2.2.1.1 hgt)) (fun _ z => z),
      fun _ _ h => rv rfl (x_or rfl rfl h.1 (fun hc => h.2.1.1 (beq_iff_eq.2 hc))) rfl, trivial⟩) ?_
    clear s0 s4 s5 s6 s7 s8
    clear hN hD
    rintro a10 w10 hN hD ⟨s40, s0, s4, s5, s6, s7, s8, hGR, -⟩
    replace HB := below_step HB hGR
    replace HYM21 := HYM21
    replace HYC21 := HYC21
    replace HB5 := below_step HB5 hGR
    replace HOX26 := HOX26.below hGR
    replace HYM26 := HYM26
    replace HYC26 := HYC26
    replace HOX29_0 := HOX29_0.below hGR
    have zsw10 : w9.heap.size ≤ w10.heap.size := hGR.size
    clear hGR
    show Code.wp _ _ _ _ _
    refine wp_cond (t := (!((sObjs (l0.map LO.o)) == (sObjs (l0.map LO.o)))) || (((if sLogOK (l0.map LO.o) = true then 0 else 1) : Int) != ((if sLogOK (l0.map LO.o) = true then 0 else 1) : Int))) s40 ?_
    rw [show ((!((sObjs (l0.map LO.o)) == (sObjs (l0.map LO.o)))) || (((if sLogOK (l0.map LO.o) = true then 0 else 1) : Int) != ((if sLogOK (l0.map LO.o) = true then 0 else 1) : Int))) = false from (by have hpOX26 := cntL_pos (M := mLO) y26; simp [eqB, cnt_mkL] <;> omega)]
    show Code.wp _ _ _ _ _
    refine wp_skip ?_
    show Code.wp _ _ _ _ _
    refine wp_seq ?_
    refine wp_seq ?_
    have hBw10 := HB
    refine deedL [.eq 41 (.slice A26 ((l0.map LO.o).length) c26), .eq 42 (.slice A0_ l0.length c0_), .s1 43 fun x_ W => ∃ (A43 : Option Addr) (c43 : Nat) (y43 : List LO), x_ = .slice A43 ((l0.map LO.o).length) c43 ∧ OwnAt eLO W A43 y43 (w10.heap.size) W.heap.size ∧ y43.map LO.o = l0.map LO.o ∧ Caps y43, .eq 44 (.bool (eqB (l0.map LO.o) (l0.map LO.o))), .eq 45 (.bool (!(eqB (l0.map LO.o) (l0.map LO.o)))), .eq 0 (.slice A0_ l0.length c0_), .eq 4 (.slice A22_0 ((sObjs (l0.map LO.o)).length) c22_0), .eq 5 (.int .i64 ((if sLogOK (l0.map LO.o) = true then 0 else 1) : Int)), .eq 6 (.slice A26 ((l0.map LO.o).length) c26), .eq 7 (.slice A29_0 ((sObjs (l0.map LO.o)).length) c29_0), .eq 8 (.int .i64 ((if sLogOK (l0.map LO.o) = true then 0 else 1) : Int)), .w (Below w10.heap.size w10)] 96 [[8], [5], [1, 11], [0, 2, 11], [3]] [] [4, 2, 5, 6, 7, 8, 9, 10, 11] hM hN hD (by kernel_rfl) ⟨s0, s4, s5, s6, s7, s8, ⟨Below.refl _ _, below_drew (Below.refl _ _)⟩, trivial⟩ ⟨fun _ _ _ hb h => by obtain ⟨A43, c43, y43, e_, z0, z1, z2⟩ := h; exact ⟨_, _, _, e_, (z0.below hb).wide (Nat.le_refl _) hb.size, z1, z2⟩, fun _ _ hb h => below_step h hb, trivial⟩ (fun hgrow => ⟨fun _ _ h => rv rfl (x_move rfl h.1) rfl,
      fun _ _ h => rv rfl (x_move rfl h.1) rfl,
      fun _ _ h => rc hgrow rfl Try.func14 (by kernel_rfl) rfl rfl (args1 h.1) (toOpS_L A0_ l0 c0_ _ (RV.below HR0 (below_step HB h.2.1)) hxn0 hdl0) (fun _ _ hR => by obtain ⟨A43, c43, y43, e_, z0, z1, z2, hb⟩ := hR; exact ⟨_, e_, hb, A43, c43, y43, rfl, (z0.wide h.2.1.size (Nat.le_refl _)), z1, z2⟩),
      ?_,
      fun _ _ h => rv rfl (x_not rfl h.1) rfl, trivial⟩) ?_
    · rintro a_ W ⟨h0, h2, h11, -⟩
      obtain ⟨A43, c43, y43, e2, HOX43, HYM43, HYC43⟩ := h2
      exact rc hgrow rfl Try.func17 (by kernel_rfl) rfl rfl (args2 h0 e2) (eqOpS_L A26 y26 c26 (l0.map LO.o) A43 y43 c43 (l0.map LO.o) _ (HYM26) HYM43 (HOX26.below h11).RV HOX43.RV (by simp only [List.length_map]; omega) (by intro o ho; obtain ⟨x, hx, rfl⟩ := List.mem_map.1 ho; have := hdl0 x hx; omega)) (fun _ _ h => ⟨_, h.1, h.2, rfl⟩)
    clear s0 s4 s5 s6 s7 s8 s40
    clear hN hD
    rintro a12 w12 hN hD ⟨s45, ⟨A43, c43, y43, s43, HOX43, HYM43, HYC43⟩, s0, s4, s5, s6, s7, s8, hGR, -⟩
    replace HB := below_step HB hGR
    replace HYM21 := HYM21
    replace HYC21 := HYC21
    replace HB5 := below_step HB5 hGR
    replace HOX26 := HOX26.below hGR
    replace HYM26 := HYM26
    replace HYC26 := HYC26
    replace HOX29_0 := HOX29_0.below hGR
    clear HOX43
    have zsw12 : w10.heap.size ≤ w12.heap.size := hGR.size
    clear hGR
    show Code.wp _ _ _ _ _
    refine wp_cond (t := !(eqB (l0.map LO.o) (l0.map LO.o))) s45 ?_
    rw [show (!(eqB (l0.map LO.o) (l0.map LO.o))) = false from (by have hpOX26 := cntL_pos (M := mLO) y26; simp [eqB, cnt_mkL] <;> omega)]
    show Code.wp _ _ _ _ _
    refine wp_skip ?_
    show Code.wp _ _ _ _ _
    refine wp_seq ?_
    refine deedL [.eq 9 (.int .i64 1), .eq 0 (.slice A0_ l0.length c0_), .eq 4 (.slice A22_0 ((sObjs (l0.map LO.o)).length) c22_0), .eq 5 (.int .i64 ((if sLogOK (l0.map LO.o) = true then 0 else 1) : Int)), .eq 6 (.slice A26 ((l0.map LO.o).length) c26), .eq 7 (.slice A29_0 ((sObjs (l0.map LO.o)).length) c29_0), .eq 8 (.int .i64 ((if sLogOK (l0.map LO.o) = true then 0 else 1) : Int)), .w (Below w12.heap.size w12)] 96 [[]] [] [0, 1, 2, 3, 4, 5, 6, 7] hM hN hD (by kernel_rfl) ⟨s0, s4, s5, s6, s7, s8, ⟨Below.refl _ _, below_drew (Below.refl _ _)⟩, trivial⟩ ⟨fun _ _ hb h => below_step h hb, trivial⟩ (fun hgrow => ⟨fun _ _ _ => rv rfl (x_assign rfl rfl) rfl, trivial⟩) ?_
    clear s0 s4 s5 s6 s7 s8 s45
    clear hN hD
    rintro a14 w14 hN hD ⟨s9, s0, s4, s5, s6, s7, s8, hGR, -⟩
    replace HB := below_step HB hGR
    replace HYM21 := HYM21
    replace HYC21 := HYC21
    replace HB5 := below_step HB5 hGR
    replace HOX26 := HOX26.below hGR
    replace HYM26 := HYM26
    replace HYC26 := HYC26
    replace HOX29_0 := HOX29_0.below hGR
    replace HYM43 := HYM43
    replace HYC43 := HYC43
    have zsw14 : w12.heap.size ≤ w14.heap.size := hGR.size
    clear hGR
    show Code.wp _ _ _ _ _
    refine wp_seq ?_
    refine deedL [.eq 46 (.slice A26 ((l0.map LO.o).length) c26), .eq 47 (.int .i64 1), .s1 48 fun x_ W => x_ = .int .i64 (1 + cntL mLO y26) ∧ OwnAt eLO W A26 (mkL mLO y26 1) (w7.heap.size) (w8.heap.size) ∧ Kx (Mine (w7.heap.size) (w8.heap.size)) w14 W, .eq 9 (.int .i64 (1 + cntL mLO y26)), .eq 0 (.slice A0_ l0.length c0_), .eq 4 (.slice A22_0 ((sObjs (l0.map LO.o)).length) c22_0), .eq 5 (.int .i64 ((if sLogOK (l0.map LO.o) = true then 0 else 1) : Int)), .eq 6 (.slice A26 ((l0.map LO.o).length) c26), .eq 7 (.slice A29_0 ((sObjs (l0.map LO.o)).length) c29_0), .eq 8 (.int .i64 ((if sLogOK (l0.map LO.o) = true then 0 else 1) : Int)), .eq 9 (.int .i64 1), .w (Below w14.heap.size w14)] 96 [[7], [10], [0, 1, 11], [2]] [[], [], [11], [10]] [3, 2, 4, 5, 6, 7, 8, 9] hM hN hD (by kernel_rfl) ⟨s0, s4, s5, s6, s7, s8, s9, ⟨Below.refl _ _, below_drew (Below.refl _ _)⟩, trivial⟩ ⟨fun _ _ _ hb h => ⟨h.1, h.2.1.below hb, h.2.2.step hb⟩, fun _ _ hb h => below_step h hb, trivial⟩ (fun hgrow => ⟨fun _ _ h => rv rfl (x_move rfl h.1) rfl,
      fun _ _ h => rv rfl (x_move rfl h.1) rfl,
      ?_,
      ?_, trivial⟩) ?_
    · rintro a_ W ⟨h0, h1, h11, -⟩
      have hm_ := HOX26.below h11
      exact runs_call Try.func18 (by kernel_rfl) rfl _ (wanted_none rfl) rfl (args2 h0 h1) ((markOpS_L A26 y26 c26 (l0.map LO.o) 1 (w7.heap.size) (w8.heap.size) W HYM26 hm_ (by omega) (by have h1_ := cnt_tot y26; rw [HYM26] at h1_; have h2_ := len_of HYM26; omega) (by simp only [List.length_map]; omega)).mono fun e W2 hR => by obtain ⟨u1, u2, u3⟩ := hR; exact ⟨_, u1, owe_keep trivial ⟨rfl, u2, kx_tr (kx_of_below h11 _) u3⟩⟩)
    · rintro a_ W ⟨h2, -⟩
      obtain ⟨e2, how_, hkx_⟩ := h2
      exact rv rfl (x_assign rfl e2) rfl
    clear s0 s4 s5 s6 s7 s8 s9
    clear hN hD
    clear HOX26
    rintro a15 w15 hN hD ⟨s9, ⟨s48, HOWN, hkx⟩, s0, s4, s5, s6, s7, s8, -⟩
    replace HB := Kx.below HB hkx HB.size (fun k e => Nat.le_trans zzOX26 e.1)
    replace HYM21 := HYM21
    replace HYC21 := HYC21
    replace HB5 := Kx.below HB5 hkx HB5.size (fun k e => Nat.le_trans (by omega) e.1)
    replace HYM26 := HYM26
    replace HYC26 := HYC26
    replace HOX29_0 := HOX29_0.kx hkx (fun i u v e => by have := e.1; have := e.2; omega)
    replace HYM43 := HYM43
    replace HYC43 := HYC43
    have HOX26 := HOWN
    have zsw15 : w14.heap.size ≤ w15.heap.size := hkx.size
    clear HOWN hkx
    show Code.wp _ _ _ _ _
    refine wp_seq ?_
    refine wp_seq ?_
    refine deedL (.eq 49 (.int .i64 (1 + cntL mLO y26)) :: .eq 50 (.bool (decide (1 + cntL mLO y26 < 0))) :: .eq 51 (.bool (decide (1 + cntL mLO y26 < 0))) :: .gv (((decide (1 + cntL mLO y26 < 0)) == false)) 52 (.slice A29_0 ((sObjs (l0.map LO.o)).length) c29_0) :: .gv (((decide (1 + cntL mLO y26 < 0)) == false)) 53 (.slice A22_0 ((sObjs (l0.map LO.o)).length) c22_0) :: .gv (((decide (1 + cntL mLO y26 < 0)) == false)) 54 (.bool ((sObjs (l0.map LO.o)) == (sObjs (l0.map LO.o)))) :: .gv (((decide (1 + cntL mLO y26 < 0)) == false)) 55 (.bool (!((sObjs (l0.map LO.o)) == (sObjs (l0.map LO.o))))) :: .eq 56 (.bool ((decide (1 + cntL mLO y26 < 0)) || (!((sObjs (l0.map LO.o)) == (sObjs (l0.map LO.o)))))) :: .eq 57 (.bool ((decide (1 + cntL mLO y26 < 0)) || (!((sObjs (l0.map LO.o)) == (sObjs (l0.map LO.o)))))) :: .gv ((((decide (1 + cntL mLO y26 < 0)) || (!((sObjs (l0.map LO.o)) == (sObjs (l0.map LO.o))))) == false)) 58 (.int .i64 ((if sLogOK (l0.map LO.o) = true then 0 else 1) : Int)) :: .gv ((((decide (1 + cntL mLO y26 < 0)) || (!((sObjs (l0.map LO.o)) == (sObjs (l0.map LO.o))))) == false)) 59 (.int .i64 ((if sLogOK (l0.map LO.o) = true then 0 else 1) : Int)) :: .gv ((((decide (1 + cntL mLO y26 < 0)) || (!((sObjs (l0.map LO.o)) == (sObjs (l0.map LO.o))))) == false)) 60 (.bool (((if sLogOK (l0.map LO.o) = true then 0 else 1) : Int) != ((if sLogOK (l0.map LO.o) = true then 0 else 1) : Int))) :: .eq 61 (.bool (((decide (1 + cntL mLO y26 < 0)) || (!((sObjs (l0.map LO.o)) == (sObjs (l0.map LO.o))))) || (((if sLogOK (l0.map LO.o) = true then 0 else 1) : Int) != ((if sLogOK (l0.map LO.o) = true then 0 else 1) : Int)))) :: .eq 0 (.slice A0_ l0.length c0_) :: .eq 4 (.slice A22_0 ((sObjs (l0.map LO.o)).length) c22_0) :: .eq 5 (.int .i64 ((if sLogOK (l0.map LO.o) = true then 0 else 1) : Int)) :: .eq 7 (.slice A29_0 ((sObjs (l0.map LO.o)).length) c29_0) :: .eq 8 (.int .i64 ((if sLogOK (l0.map LO.o) = true then 0 else 1) : Int)) :: .eq 9 (.int .i64 (1 + cntL mLO y26)) :: .w (Below w15.heap.size w15) :: []) 96 [[18], [0], [1], [2, 16], [2, 14], [2, 3, 4, 19], [2, 5], [2, 6], [7], [8, 17], [8, 15], [8, 9, 10], [8, 11]] [] [12, 13, 14, 15, 16, 17, 18, 19] hM hN hD (by kernel_rfl) ⟨s0, s4, s5, s7, s8, s9, ⟨Below.refl _ _, below_drew (Below.refl _ _)⟩, trivial⟩ ⟨fun _ _ hb h => below_step h hb, trivial⟩ (fun hgrow => ⟨fun _ _ h => rv rfl (x_move rfl h.1) rfl,
      fun _ _ h => rv rfl (x_lss rfl h.1 rfl) rfl,
      fun _ _ h => rv rfl (x_move rfl h.1) rfl,
      fun _ _ h => rb rfl rfl h.1 (fun hgt => x_move rfl h.2.1) (fun _ z => z),
      fun _ _ h => rb rfl rfl h.1 (fun hgt => x_move rfl h.2.1) (fun _ z => z),
      fun _ _ h => rcb hgrow rfl rfl h.1 Try.func16 (by kernel_rfl) rfl rfl (fun hgt => args2 (h.2.1.1 hgt) (h.2.2.1.1 hgt)) (fun hgt => eqI_calls A29_0 (sObjs (l0.map LO.o)) c29_0 A22_0 (sObjs (l0.map LO.o)) c22_0 _ (HOX29_0.below h.2.2.2.1).RI (RI.below HWOX22_0 (below_step HB5 h.2.2.2.1)) (by have := sObjs_len (l0.map LO.o); omega)) (fun _ _ _ h => h) (fun _ _ z => z),
      fun _ _ h => rb rfl rfl h.1 (fun hgt => x_not rfl (h.2.1.1 hgt)) (fun _ z => z),
      fun _ _ h => rv rfl (x_or rfl rfl h.1 (fun hc => h.2.1.1 (beq_iff_eq.2 hc))) rfl,
      fun _ _ h => rv rfl (x_move rfl h.1) rfl,
      fun _ _ h => rb rfl rfl h.1 (fun hgt => x_move rfl h.2.1) (fun _ z => z),
      fun _ _ h => rb rfl rfl h.1 (fun hgt => x_move rfl h.2.1) (fun _ z => z),
      fun _ _ h => rb rfl rfl h.1 (fun hgt => x_neq rfl (h.2.1.1 hgt) (h.2.2.1.1 hgt)) (fun _ z => z),
      fun _ _ h => rv rfl (x_or rfl rfl h.1 (fun hc => h.2.1.1 (beq_iff_eq.2 hc))) rfl, trivial⟩) ?_
    clear s0 s4 s5 s6 s7 s8 s9
    clear hN hD
    rintro a16 w16 hN hD ⟨s61, s0, s4, s5, s7, s8, s9, hGR, -⟩
    replace HB := below_step HB hGR
    replace HYM21 := HYM21
    replace HYC21 := HYC21
    replace HB5 := below_step HB5 hGR
    replace HYM26 := HYM26
    replace HYC26 := HYC26
    replace HOX29_0 := HOX29_0.below hGR
    replace HYM43 := HYM43
    replace HYC43 := HYC43
    replace HOX26 := HOX26.below hGR
    have zsw16 : w15.heap.size ≤ w16.heap.size := hGR.size
    clear hGR
    show Code.wp _ _ _ _ _
    refine wp_cond (t := ((decide (1 + cntL mLO y26 < 0)) || (!((sObjs (l0.map LO.o)) == (sObjs (l0.map LO.o))))) || (((if sLogOK (l0.map LO.o) = true then 0 else 1) : Int) != ((if sLogOK (l0.map LO.o) = true then 0 else 1) : Int))) s61 ?_
    rw [show (((decide (1 + cntL mLO y26 < 0)) || (!((sObjs (l0.map LO.o)) == (sObjs (l0.map LO.o))))) || (((if sLogOK (l0.map LO.o) = true then 0 else 1) : Int) != ((if sLogOK (l0.map LO.o) = true then 0 else 1) : Int))) = false from (by have hpOX26 := cntL_pos (M := mLO) y26; simp [eqB, cnt_mkL] <;> omega)]
    show Code.wp _ _ _ _ _
    refine wp_skip ?_
    show Code.wp _ _ _ _ _
    refine wp_seq ?_
    refine deedL [.eq 10 (.int .i64 1), .eq 0 (.slice A0_ l0.length c0_), .eq 4 (.slice A22_0 ((sObjs (l0.map LO.o)).length) c22_0), .eq 5 (.int .i64 ((if sLogOK (l0.map LO.o) = true then 0 else 1) : Int)), .eq 7 (.slice A29_0 ((sObjs (l0.map LO.o)).length) c29_0), .w (Below w16.heap.size w16)] 96 [[]] [] [0, 1, 2, 3, 4, 5] hM hN hD (by kernel_rfl) ⟨s0, s4, s5, s7, ⟨Below.refl _ _, below_drew (Below.refl _ _)⟩, trivial⟩ ⟨fun _ _ hb h => below_step h hb, trivial⟩ (fun hgrow => ⟨fun _ _ _ => rv rfl (x_assign rfl rfl) rfl, trivial⟩) ?_
    clear s0 s4 s5 s7 s8 s9 s61
    clear hN hD
    rintro a18 w18 hN hD ⟨s10, s0, s4, s5, s7, hGR, -⟩
    replace HB := below_step HB hGR
    replace HYM21 := HYM21
    replace HYC21 := HYC21
    replace HB5 := below_step HB5 hGR
    replace HYM26 := HYM26
    replace HYC26 := HYC26
    replace HOX29_0 := HOX29_0.below hGR
    replace HYM43 := HYM43
    replace HYC43 := HYC43
    replace HOX26 := HOX26.below hGR
    have zsw18 : w16.heap.size ≤ w18.heap.size := hGR.size
    clear hGR
    show Code.wp _ _ _ _ _
    refine wp_seq ?_
    refine deedL [.eq 62 (.slice A29_0 ((sObjs (l0.map LO.o)).length) c29_0), .eq 63 (.int .i64 1), .s1 64 fun x_ W => x_ = .int .i64 (1 + ((sObjs (l0.map LO.o)).length : Int)) ∧ OwnI W A29_0 (mk 1 (sObjs (l0.map LO.o)).length) (w8.heap.size) (w9.heap.size) ∧ Kx (Mine (w8.heap.size) (w9.heap.size)) w18 W, .eq 10 (.int .i64 (1 + ((sObjs (l0.map LO.o)).length : Int))), .eq 0 (.slice A0_ l0.length c0_), .eq 4 (.slice A22_0 ((sObjs (l0.map LO.o)).length) c22_0), .eq 5 (.int .i64 ((if sLogOK (l0.map LO.o) = true then 0 else 1) : Int)), .eq 7 (.slice A29_0 ((sObjs (l0.map LO.o)).length) c29_0), .eq 10 (.int .i64 1), .w (Below w18.heap.size w18)] 96 [[7], [8], [0, 1, 9], [2]] [[], [], [9], [8]] [3, 2, 4, 5, 6, 7] hM hN hD (by kernel_rfl) ⟨s0, s4, s5, s7, s10, ⟨Below.refl _ _, below_drew (Below.refl _ _)⟩, trivial⟩ ⟨fun _ _ _ hb h => ⟨h.1, h.2.1.below hb, h.2.2.step hb⟩, fun _ _ hb h => below_step h hb, trivial⟩ (fun hgrow => ⟨fun _ _ h => rv rfl (x_move rfl h.1) rfl,
      fun _ _ h => rv rfl (x_move rfl h.1) rfl,
      ?_,
      ?_, trivial⟩) ?_
    · rintro a_ W ⟨h0, h1, h9, -⟩
      have hm_ := HOX29_0.below h9
      exact runs_call Try.func19 (by kernel_rfl) rfl _ (wanted_none rfl) rfl (args2 h0 h1) ((markI_L A29_0 (sObjs (l0.map LO.o)) c29_0 1 (w8.heap.size) (w9.heap.size) W hm_ (by omega) (by have := sObjs_len (l0.map LO.o); omega)).mono fun e W2 hR => by obtain ⟨u1, u2, u3⟩ := hR; exact ⟨_, u1, owe_keep trivial ⟨rfl, u2, kx_tr (kx_of_below h9 _) u3⟩⟩)
    · rintro a_ W ⟨h2, -⟩
      obtain ⟨e2, how_, hkx_⟩ := h2
      exact rv rfl (x_assign rfl e2) rfl
    clear s0 s4 s5 s7 s10
    clear hN hD
    clear HOX29_0
    rintro a19 w19 hN hD ⟨s10, ⟨s64, HOWN, hkx⟩, s0, s4, s5, s7, -⟩
    replace HB := Kx.below HB hkx HB.size (fun k e => Nat.le_trans zzOX29_0 e.1)
    replace HYM21 := HYM21
    replace HYC21 := HYC21
    replace HB5 := Kx.below HB5 hkx HB5.size (fun k e => Nat.le_trans (by omega) e.1)
    replace HYM26 := HYM26
    replace HYC26 := HYC26
    replace HYM43 := HYM43
    replace HYC43 := HYC43
    replace HOX26 := HOX26.kx hkx (fun i u v e => by have := e.1; have := e.2; omega)
    have HOX29_0 := HOWN
    have zsw19 : w18.heap.size ≤ w19.heap.size := hkx.size
    clear HOWN hkx
    show Code.wp _ _ _ _ _
    refine wp_seq ?_
    refine deedL [.eq 11 (.int .i64 1), .eq 0 (.slice A0_ l0.length c0_), .eq 4 (.slice A22_0 ((sObjs (l0.map LO.o)).length) c22_0), .eq 5 (.int .i64 ((if sLogOK (l0.map LO.o) = true then 0 else 1) : Int)), .eq 7 (.slice A29_0 ((sObjs (l0.map LO.o)).length) c29_0), .eq 10 (.int .i64 (1 + ((sObjs (l0.map LO.o)).length : Int))), .w (Below w19.heap.size w19)] 96 [[]] [] [0, 1, 2, 3, 4, 5, 6] hM hN hD (by kernel_rfl) ⟨s0, s4, s5, s7, s10, ⟨Below.refl _ _, below_drew (Below.refl _ _)⟩, trivial⟩ ⟨fun _ _ hb h => below_step h hb, trivial⟩ (fun hgrow => ⟨fun _ _ _ => rv rfl (x_assign rfl rfl) rfl, trivial⟩) ?_
    clear s0 s4 s5 s7 s10
    clear hN hD
    rintro a20 w20 hN hD ⟨s11, s0, s4, s5, s7, s10, hGR, -⟩
    replace HB := below_step HB hGR
    replace HYM21 := HYM21
    replace HYC21 := HYC21
    replace HB5 := below_step HB5 hGR
    replace HYM26 := HYM26
    replace HYC26 := HYC26
    replace HYM43 := HYM43
    replace HYC43 := HYC43
    replace HOX26 := HOX26.below hGR
    replace HOX29_0 := HOX29_0.below hGR
    have zsw20 : w19.heap.size ≤ w20.heap.size := hGR.size
    clear hGR
    show Code.wp _ _ _ _ _
    refine wp_seq ?_
    refine deedL [.eq 65 (.slice A29_0 ((sObjs (l0.map LO.o)).length) c29_0), .eq 66 (.int .i64 1), .eq 67 (.int .i64 (1 + ((sObjs (l0.map LO.o)).length : Int))), .eq 11 (.int .i64 (1 + ((sObjs (l0.map LO.o)).length : Int))), .eq 0 (.slice A0_ l0.length c0_), .eq 4 (.slice A22_0 ((sObjs (l0.map LO.o)).length) c22_0), .eq 5 (.int .i64 ((if sLogOK (l0.map LO.o) = true then 0 else 1) : Int)), .eq 7 (.slice A29_0 ((sObjs (l0.map LO.o)).length) c29_0), .eq 10 (.int .i64 (1 + ((sObjs (l0.map LO.o)).length : Int))), .eq 11 (.int .i64 1), .w (Below w20.heap.size w20)] 96 [[7], [9], [0, 1, 10], [2]] [[], [], [], [9]] [3, 4, 5, 6, 7, 8, 10] hM hN hD (by kernel_rfl) ⟨s0, s4, s5, s7, s10, s11, ⟨Below.refl _ _, below_drew (Below.refl _ _)⟩, trivial⟩ ⟨fun _ _ hb h => below_step h hb, trivial⟩ (fun hgrow => ⟨fun _ _ h => rv rfl (x_move rfl h.1) rfl,
      fun _ _ h => rv rfl (x_move rfl h.1) rfl,
      fun _ _ h => rc hgrow rfl Try.func20 (by kernel_rfl) rfl rfl (args2 h.1 h.2.1) (heldI_L A29_0 (sObjs (l0.map LO.o)) c29_0 1 _ (HOX29_0.below h.2.2.1).RI (by omega) (by have := sObjs_len (l0.map LO.o); omega)) (fun _ _ h => ⟨_, h.1, h.2, rfl⟩),
      fun _ _ h => rv rfl (x_assign rfl h.1) rfl, trivial⟩) ?_
    clear s0 s4 s5 s7 s10 s11
    clear hN hD
    rintro a21 w21 hN hD ⟨s11, s0, s4, s5, s7, s10, hGR, -⟩
    replace HB := below_step HB hGR
    replace HYM21 := HYM21
    replace HYC21 := HYC21
    replace HB5 := below_step HB5 hGR
    replace HYM26 := HYM26
    replace HYC26 := HYC26
    replace HYM43 := HYM43
    replace HYC43 := HYC43
    replace HOX26 := HOX26.below hGR
    replace HOX29_0 := HOX29_0.below hGR
    have zsw21 : w20.heap.size ≤ w21.heap.size := hGR.size
    clear hGR
    show Code.wp _ _ _ _ _
    refine wp_seq ?_
    refine wp_seq ?_
    refine deedL [.eq 68 (.int .i64 (1 + ((sObjs (l0.map LO.o)).length : Int))), .eq 69 (.bool (decide (1 + ((sObjs (l0.map LO.o)).length : Int) < 0))), .eq 0 (.slice A0_ l0.length c0_), .eq 4 (.slice A22_0 ((sObjs (l0.map LO.o)).length) c22_0), .eq 5 (.int .i64 ((if sLogOK (l0.map LO.o) = true then 0 else 1) : Int)), .eq 7 (.slice A29_0 ((sObjs (l0.map LO.o)).length) c29_0), .eq 10 (.int .i64 (1 + ((sObjs (l0.map LO.o)).length : Int))), .eq 11 (.int .i64 (1 + ((sObjs (l0.map LO.o)).length : Int))), .w (Below w21.heap.size w21)] 96 [[7], [0]] [] [1, 2, 3, 4, 5, 6, 7, 8] hM hN hD (by kernel_rfl) ⟨s0, s4, s5, s7, s10, s11, ⟨Below.refl _ _, below_drew (Below.refl _ _)⟩, trivial⟩ ⟨fun _ _ hb h => below_step h hb, trivial⟩ (fun hgrow => ⟨fun _ _ h => rv rfl (x_move rfl h.1) rfl,
      fun _ _ h => rv rfl (x_lss rfl h.1 rfl) rfl, trivial⟩) ?_
    clear s0 s4 s5 s7 s10 s11
    clear hN hD
    rintro a22 w22 hN hD ⟨s69, s0, s4, s5, s7, s10, s11, hGR, -⟩
    replace HB := below_step HB hGR
    replace HYM21 := HYM21
    replace HYC21 := HYC21
    replace HB5 := below_step HB5 hGR
    replace HYM26 := HYM26
    replace HYC26 := HYC26
    replace HYM43 := HYM43
    replace HYC43 := HYC43
    replace HOX26 := HOX26.below hGR
    replace HOX29_0 := HOX29_0.below hGR
    have zsw22 : w21.heap.size ≤ w22.heap.size := hGR.size
    clear hGR
    show Code.wp _ _ _ _ _
    refine wp_cond (t := decide (1 + ((sObjs (l0.map LO.o)).length : Int) < 0)) s69 ?_
    rw [show (decide (1 + ((sObjs (l0.map LO.o)).length : Int) < 0)) = false from (by have hpOX26 := cntL_pos (M := mLO) y26; simp [eqB, cnt_mkL] <;> omega)]
    show Code.wp _ _ _ _ _
    refine wp_skip ?_
    show Code.wp _ _ _ _ _
    refine wp_seq ?_
    refine wp_seq ?_
    refine deedL [.eq 70 (.int .i64 (1 + ((sObjs (l0.map LO.o)).length : Int))), .eq 71 (.int .i64 (1 + ((sObjs (l0.map LO.o)).length : Int))), .eq 72 (.bool ((1 + ((sObjs (l0.map LO.o)).length : Int)) != (1 + ((sObjs (l0.map LO.o)).length : Int)))), .eq 0 (.slice A0_ l0.length c0_), .eq 4 (.slice A22_0 ((sObjs (l0.map LO.o)).length) c22_0), .eq 5 (.int .i64 ((if sLogOK (l0.map LO.o) = true then 0 else 1) : Int)), .eq 7 (.slice A29_0 ((sObjs (l0.map LO.o)).length) c29_0), .eq 10 (.int .i64 (1 + ((sObjs (l0.map LO.o)).length : Int))), .eq 11 (.int .i64 (1 + ((sObjs (l0.map LO.o)).length : Int))), .w (Below w22.heap.size w22)] 96 [[8], [7], [0, 1]] [] [2, 3, 4, 5, 6, 7, 8, 9] hM hN hD (by kernel_rfl) ⟨s0, s4, s5, s7, s10, s11, ⟨Below.refl _ _, below_drew (Below.refl _ _)⟩, trivial⟩ ⟨fun _ _ hb h => below_step h hb, trivial⟩ (fun hgrow => ⟨fun _ _ h => rv rfl (x_move rfl h.1) rfl,
      fun _ _ h => rv rfl (x_move rfl h.1) rfl,
      fun _ _ h => rv rfl (x_neq rfl h.1 h.2.1) rfl, trivial⟩) ?_
    clear s0 s4 s5 s7 s10 s11 s69
    clear hN hD
    rintro a24 w24 hN hD ⟨s72, s0, s4, s5, s7, s10, s11, hGR, -⟩
    replace HB := below_step HB hGR
    replace HYM21 := HYM21
    replace HYC21 := HYC21
    replace HB5 := below_step HB5 hGR
    replace HYM26 := HYM26
    replace HYC26 := HYC26
    replace HYM43 := HYM43
    replace HYC43 := HYC43
    replace HOX26 := HOX26.below hGR
    replace HOX29_0 := HOX29_0.below hGR
    have zsw24 : w22.heap.size ≤ w24.heap.size := hGR.size
    clear hGR
    show Code.wp _ _ _ _ _
    refine wp_cond (t := (1 + ((sObjs (l0.map LO.o)).length : Int)) != (1 + ((sObjs (l0.map LO.o)).length : Int))) s72 ?_
    rw [show ((1 + ((sObjs (l0.map LO.o)).length : Int)) != (1 + ((sObjs (l0.map LO.o)).length : Int))) = false from (by have hpOX26 := cntL_pos (M := mLO) y26; simp [eqB, cnt_mkL] <;> omega)]
    show Code.wp _ _ _ _ _
    refine wp_skip ?_
    show Code.wp _ _ _ _ _
    refine wp_seq ?_
    have hBw24 := HB
    refine deedL [.eq 74 (.slice A0_ l0.length c0_), .s1 75 fun x_ W => ∃ (A75 : Option Addr) (c75 : Nat) (y75 : List LO), x_ = .slice A75 ((l0.map LO.o).length) c75 ∧ OwnAt eLO W A75 y75 (w24.heap.size) W.heap.size ∧ y75.map LO.o = l0.map LO.o ∧ Caps y75, .s1 76 fun x_ W => ∃ (A76_0 : Option Addr) (c76_0 : Nat), x_ = .tuple #[Value.slice A76_0 ((sObjs (l0.map LO.o)).length) c76_0, Value.int .i64 ((if sLogOK (l0.map LO.o) = true then 0 else 1) : Int)] ∧ OwnI W A76_0 (sObjs (l0.map LO.o)) (w24.heap.size) W.heap.size, .s2 76 73 fun x_ y_ _ => ∃ (A76_0 : Option Addr) (c76_0 : Nat), x_ = .tuple #[Value.slice A76_0 ((sObjs (l0.map LO.o)).length) c76_0, Value.int .i64 ((if sLogOK (l0.map LO.o) = true then 0 else 1) : Int)] ∧ y_ = .tuple #[Value.slice A76_0 ((sObjs (l0.map LO.o)).length) c76_0, Value.int .i64 ((if sLogOK (l0.map LO.o) = true then 0 else 1) : Int)], .s2 76 77 fun x_ y_ _ => ∃ (A76_0 : Option Addr) (c76_0 : Nat), x_ = .tuple #[Value.slice A76_0 ((sObjs (l0.map LO.o)).length) c76_0, Value.int .i64 ((if sLogOK (l0.map LO.o) = true then 0 else 1) : Int)] ∧ y_ = .slice A76_0 ((sObjs (l0.map LO.o)).length) c76_0, .eq 78 (.int .i64 ((if sLogOK (l0.map LO.o) = true then 0 else 1) : Int)), .s2 76 12 fun x_ y_ _ => ∃ (A76_0 : Option Addr) (c76_0 : Nat), x_ = .tuple #[Value.slice A76_0 ((sObjs (l0.map LO.o)).length) c76_0, Value.int .i64 ((if sLogOK (l0.map LO.o) = true then 0 else 1) : Int)] ∧ y_ = .slice A76_0 ((sObjs (l0.map LO.o)).length) c76_0, .eq 13 (.int .i64 ((if sLogOK (l0.map LO.o) = true then 0 else 1) : Int)), .eq 0 (.slice A0_ l0.length c0_), .eq 4 (.slice A22_0 ((sObjs (l0.map LO.o)).length) c22_0), .eq 5 (.int .i64 ((if sLogOK (l0.map LO.o) = true then 0 else 1) : Int)), .eq 7 (.slice A29_0 ((sObjs (l0.map LO.o)).length) c29_0), .eq 10 (.int .i64 (1 + ((sObjs (l0.map LO.o)).length : Int))), .w (Below w24.heap.size w24)] 96 [[8], [0, 13], [1, 13], [2], [3], [3], [4], [5]] [] [7, 1, 2, 6, 8, 9, 10, 11, 12, 13] hM hN hD (by kernel_rfl) ⟨s0, s4, s5, s7, s10, ⟨Below.refl _ _, below_drew (Below.refl _ _)⟩, trivial⟩ ⟨fun _ _ _ hb h => by obtain ⟨A75, c75, y75, e_, z0, z1, z2⟩ := h; exact ⟨_, _, _, e_, (z0.below hb).wide (Nat.le_refl _) hb.size, z1, z2⟩, fun _ _ _ hb h => by obtain ⟨A76_0, c76_0, e_, z0⟩ := h; exact ⟨_, _, e_, (z0.below hb).wide (Nat.le_refl _) hb.size⟩, fun _ _ _ _ hb h => h, fun _ _ _ _ hb h => h, fun _ _ _ _ hb h => h, fun _ _ hb h => below_step h hb, trivial⟩ (fun hgrow => ⟨fun _ _ h => rv rfl (x_move rfl h.1) rfl,
      fun _ _ h => rc hgrow rfl Try.func14 (by kernel_rfl) rfl rfl (args1 h.1) (toOpS_L A0_ l0 c0_ _ (RV.below HR0 (below_step HB h.2.1)) hxn0 hdl0) (fun _ _ hR => by obtain ⟨A75, c75, y75, e_, z0, z1, z2, hb⟩ := hR; exact ⟨_, e_, hb, A75, c75, y75, rfl, (z0.wide h.2.1.size (Nat.le_refl _)), z1, z2⟩),
      ?_,
      ?_,
      ?_,
      ?_,
      ?_,
      fun _ _ h => rv rfl (x_assign rfl h.1) rfl, trivial⟩) ?_
    · rintro a_ W ⟨h1, h13, -⟩
      obtain ⟨A75, c75, y75, e1, HOX75, HYM75, HYC75⟩ := h1
      exact rc hgrow rfl Try.func15 (by kernel_rfl) rfl rfl (args1 e1) (iDoc_L A75 y75 c75 (l0.map LO.o) _ HYM75 HOX75.RV HYC75) (fun _ _ hR => by obtain ⟨A76_0, c76_0, e_, z0, hb⟩ := hR; exact ⟨_, e_, hb, A76_0, c76_0, rfl, (z0.wide h13.size (Nat.le_refl _))⟩)
    · rintro a_ W ⟨h2, -⟩
      obtain ⟨A76_0, c76_0, e2, HOX76_0⟩ := h2
      exact rv rfl (x_move rfl e2) ⟨_, _, e2, rfl⟩
    · rintro a_ W ⟨h3, -⟩
      obtain ⟨A76_0, c76_0, r3, e3⟩ := h3
      exact rv rfl (x_extract rfl e3 rfl) ⟨_, _, r3, rfl⟩
    · rintro a_ W ⟨h3, -⟩
      obtain ⟨A76_0, c76_0, r3, e3⟩ := h3
      exact rv rfl (x_extract rfl e3 rfl) rfl
    · rintro a_ W ⟨h4, -⟩
      obtain ⟨A76_0, c76_0, r4, e4⟩ := h4
      exact rv rfl (x_assign rfl e4) ⟨_, _, r4, rfl⟩
    clear s0 s4 s5 s7 s10 s11 s72
    clear hN hD
    rintro a26 w26 hN hD ⟨s13, ⟨A75, c75, y75, s75, HOX75, HYM75, HYC75⟩, ⟨A76_0, c76_0, s76, HOX76_0⟩, q12, s0, s4, s5, s7, s10, hGR, -⟩
    obtain ⟨A76_0_, c76_0_, e_, s12⟩ := q12
    cases s76.symm.trans e_
    replace HB := below_step HB hGR
    replace HYM21 := HYM21
    replace HYC21 := HYC21
    replace HB5 := below_step HB5 hGR
    replace HYM26 := HYM26
    replace HYC26 := HYC26
    replace HYM43 := HYM43
    replace HYC43 := HYC43
    replace HOX26 := HOX26.below hGR
    replace HOX29_0 := HOX29_0.below hGR
    clear HOX26
    clear HOX75
    have zzOX76_0 : w.heap.size ≤ w24.heap.size := hBw24.size
    have zsw26 : w24.heap.size ≤ w26.heap.size := hGR.size
    clear hGR
    show Code.wp _ _ _ _ _
    refine wp_seq ?_
    refine wp_seq ?_
    refine deedL (.eq 79 (.slice A76_0 ((sObjs (l0.map LO.o)).length) c76_0) :: .eq 80 (.slice A22_0 ((sObjs (l0.map LO.o)).length) c22_0) :: .eq 81 (.bool ((sObjs (l0.map LO.o)) == (sObjs (l0.map LO.o)))) :: .eq 82 (.bool (!((sObjs (l0.map LO.o)) == (sObjs (l0.map LO.o))))) :: .eq 83 (.bool (!((sObjs (l0.map LO.o)) == (sObjs (l0.map LO.o))))) :: .gv (((!((sObjs (l0.map LO.o)) == (sObjs (l0.map LO.o)))) == false)) 84 (.int .i64 ((if sLogOK (l0.map LO.o) = true then 0 else 1) : Int)) :: .gv (((!((sObjs (l0.map LO.o)) == (sObjs (l0.map LO.o)))) == false)) 85 (.int .i64 ((if sLogOK (l0.map LO.o) = true then 0 else 1) : Int)) :: .gv (((!((sObjs (l0.map LO.o)) == (sObjs (l0.map LO.o)))) == false)) 86 (.bool (((if sLogOK (l0.map LO.o) = true then 0 else 1) : Int) != ((if sLogOK (l0.map LO.o) = true then 0 else 1) : Int))) :: .eq 87 (.bool ((!((sObjs (l0.map LO.o)) == (sObjs (l0.map LO.o)))) || (((if sLogOK (l0.map LO.o) = true then 0 else 1) : Int) != ((if sLogOK (l0.map LO.o) = true then 0 else 1) : Int)))) :: .eq 4 (.slice A22_0 ((sObjs (l0.map LO.o)).length) c22_0) :: .eq 5 (.int .i64 ((if sLogOK (l0.map LO.o) = true then 0 else 1) : Int)) :: .eq 7 (.slice A29_0 ((sObjs (l0.map LO.o)).length) c29_0) :: .eq 10 (.int .i64 (1 + ((sObjs (l0.map LO.o)).length : Int))) :: .eq 12 (.slice A76_0 ((sObjs (l0.map LO.o)).length) c76_0) :: .eq 13 (.int .i64 ((if sLogOK (l0.map LO.o) = true then 0 else 1) : Int)) :: .w (Below w26.heap.size w26) :: []) 96 [[13], [9], [0, 1, 15], [2], [3], [4, 14], [4, 10], [4, 5, 6], [4, 7]] [] [8, 9, 10, 11, 12, 13, 14, 15] hM hN hD (by kernel_rfl) ⟨s4, s5, s7, s10, s12, s13, ⟨Below.refl _ _, below_drew (Below.refl _ _)⟩, trivial⟩ ⟨fun _ _ hb h => below_step h hb, trivial⟩ (fun hgrow => ⟨fun _ _ h => rv rfl (x_move rfl h.1) rfl,
      fun _ _ h => rv rfl (x_move rfl h.1) rfl,
      fun _ _ h => rc hgrow rfl Try.func16 (by kernel_rfl) rfl rfl (args2 h.1 h.2.1) (eqI_calls A76_0 (sObjs (l0.map LO.o)) c76_0 A22_0 (sObjs (l0.map LO.o)) c22_0 _ (HOX76_0.below h.2.2.1).RI (RI.below HWOX22_0 (below_step HB5 h.2.2.1)) (by have := sObjs_len (l0.map LO.o); omega)) (fun _ _ h => ⟨_, h.1, h.2, rfl⟩),
      fun _ _ h => rv rfl (x_not rfl h.1) rfl,
      fun _ _ h => rv rfl (x_move rfl h.1) rfl,
      fun _ _ h => rb rfl rfl h.1 (fun hgt => x_move rfl h.2.1) (fun _ z => z),
      fun _ _ h => rb rfl rfl h.1 (fun hgt => x_move rfl h.2.1) (fun _ z => z),
      fun _ _ h => rb rfl rfl h.1 (fun hgt => x_neq rfl (h.2.1.1 hgt) (h.2.2.1.1 hgt)) (fun _ z => z),
      fun _ _ h => rv rfl (x_or rfl rfl h.1 (fun hc => h.2.1.1 (beq_iff_eq.2 hc))) rfl, trivial⟩) ?_
    clear s0 s4 s5 s7 s10 s12 s13
    clear hN hD
    rintro a27 w27 hN hD ⟨s87, s4, s5, s7, s10, s12, s13, hGR, -⟩
    replace HB := below_step HB hGR
    replace HYM21 := HYM21
    replace HYC21 := HYC21
    replace HB5 := below_step HB5 hGR
    replace HYM26 := HYM26
    replace HYC26 := HYC26
    replace HYM43 := HYM43
    replace HYC43 := HYC43
    replace HOX29_0 := HOX29_0.below hGR
    replace HYM75 := HYM75
    replace HYC75 := HYC75
    replace HOX76_0 := HOX76_0.below hGR
    have zsw27 : w26.heap.size ≤ w27.heap.size := hGR.size
    clear hGR
    show Code.wp _ _ _ _ _
    refine wp_cond (t := (!((sObjs (l0.map LO.o)) == (sObjs (l0.map LO.o)))) || (((if sLogOK (l0.map LO.o) = true then 0 else 1) : Int) != ((if sLogOK (l0.map LO.o) = true then 0 else 1) : Int))) s87 ?_
    rw [show ((!((sObjs (l0.map LO.o)) == (sObjs (l0.map LO.o)))) || (((if sLogOK (l0.map LO.o) = true then 0 else 1) : Int) != ((if sLogOK (l0.map LO.o) = true then 0 else 1) : Int))) = false from (by simp [eqB, cnt_mkL] <;> omega)]
    show Code.wp _ _ _ _ _
    refine wp_skip ?_
    show Code.wp _ _ _ _ _
    refine wp_seq ?_
    refine deedL [.eq 11 (.int .i64 1), .eq 7 (.slice A29_0 ((sObjs (l0.map LO.o)).length) c29_0), .eq 10 (.int .i64 (1 + ((sObjs (l0.map LO.o)).length : Int))), .w (Below w27.heap.size w27)] 96 [[]] [] [0, 1, 2, 3] hM hN hD (by kernel_rfl) ⟨s7, s10, ⟨Below.refl _ _, below_drew (Below.refl _ _)⟩, trivial⟩ ⟨fun _ _ hb h => below_step h hb, trivial⟩ (fun hgrow => ⟨fun _ _ _ => rv rfl (x_assign rfl rfl) rfl, trivial⟩) ?_
    clear s4 s5 s7 s10 s12 s13 s87
    clear hN hD
    rintro a29 w29 hN hD ⟨s11, s7, s10, hGR, -⟩
    replace HB := below_step HB hGR
    replace HYM21 := HYM21
    replace HYC21 := HYC21
    replace HB5 := below_step HB5 hGR
    replace HYM26 := HYM26
    replace HYC26 := HYC26
    replace HYM43 := HYM43
    replace HYC43 := HYC43
    replace HOX29_0 := HOX29_0.below hGR
    replace HYM75 := HYM75
    replace HYC75 := HYC75
    replace HOX76_0 := HOX76_0.below hGR
    have zsw29 : w27.heap.size ≤ w29.heap.size := hGR.size
    clear hGR
    show Code.wp _ _ _ _ _
    refine wp_seq ?_
    refine deedL [.eq 88 (.slice A29_0 ((sObjs (l0.map LO.o)).length) c29_0), .eq 89 (.int .i64 1), .eq 90 (.int .i64 (1 + ((sObjs (l0.map LO.o)).length : Int))), .eq 11 (.int .i64 (1 + ((sObjs (l0.map LO.o)).length : Int))), .eq 7 (.slice A29_0 ((sObjs (l0.map LO.o)).length) c29_0), .eq 10 (.int .i64 (1 + ((sObjs (l0.map LO.o)).length : Int))), .eq 11 (.int .i64 1), .w (Below w29.heap.size w29)] 96 [[4], [6], [0, 1, 7], [2]] [[], [], [], [6]] [3, 4, 5, 7] hM hN hD (by kernel_rfl) ⟨s7, s10, s11, ⟨Below.refl _ _, below_drew (Below.refl _ _)⟩, trivial⟩ ⟨fun _ _ hb h => below_step h hb, trivial⟩ (fun hgrow => ⟨fun _ _ h => rv rfl (x_move rfl h.1) rfl,
      fun _ _ h => rv rfl (x_move rfl h.1) rfl,
      fun _ _ h => rc hgrow rfl Try.func20 (by kernel_rfl) rfl rfl (args2 h.1 h.2.1) (heldI_L A29_0 (sObjs (l0.map LO.o)) c29_0 1 _ (HOX29_0.below h.2.2.1).RI (by omega) (by have := sObjs_len (l0.map LO.o); omega)) (fun _ _ h => ⟨_, h.1, h.2, rfl⟩),
      fun _ _ h => rv rfl (x_assign rfl h.1) rfl, trivial⟩) ?_
    clear s7 s10 s11
    clear hN hD
    rintro a30 w30 hN hD ⟨s11, s7, s10, hGR, -⟩
    replace HB := below_step HB hGR
    replace HYM21 := HYM21
    replace HYC21 := HYC21
    replace HB5 := below_step HB5 hGR
    replace HYM26 := HYM26
    replace HYC26 := HYC26
    replace HYM43 := HYM43
    replace HYC43 := HYC43
    replace HOX29_0 := HOX29_0.below hGR
    replace HYM75 := HYM75
    replace HYC75 := HYC75
    replace HOX76_0 := HOX76_0.below hGR
    have zsw30 : w29.heap.size ≤ w30.heap.size := hGR.size
    clear hGR
    show Code.wp _ _ _ _ _
    refine wp_seq ?_
    refine wp_seq ?_
    refine deedL [.eq 91 (.int .i64 (1 + ((sObjs (l0.map LO.o)).length : Int))), .eq 92 (.bool (decide (1 + ((sObjs (l0.map LO.o)).length : Int) < 0))), .eq 10 (.int .i64 (1 + ((sObjs (l0.map LO.o)).length : Int))), .eq 11 (.int .i64 (1 + ((sObjs (l0.map LO.o)).length : Int))), .w (Below w30.heap.size w30)] 96 [[3], [0]] [] [1, 2, 3, 4] hM hN hD (by kernel_rfl) ⟨s10, s11, ⟨Below.refl _ _, below_drew (Below.refl _ _)⟩, trivial⟩ ⟨fun _ _ hb h => below_step h hb, trivial⟩ (fun hgrow => ⟨fun _ _ h => rv rfl (x_move rfl h.1) rfl,
      fun _ _ h => rv rfl (x_lss rfl h.1 rfl) rfl, trivial⟩) ?_
    clear s7 s10 s11
    clear hN hD
    rintro a31 w31 hN hD ⟨s92, s10, s11, hGR, -⟩
    replace HB := below_step HB hGR
    replace HYM21 := HYM21
    replace HYC21 := HYC21
    replace HB5 := below_step HB5 hGR
    replace HYM26 := HYM26
    replace HYC26 := HYC26
    replace HYM43 := HYM43
    replace HYC43 := HYC43
    replace HOX29_0 := HOX29_0.below hGR
    replace HYM75 := HYM75
    replace HYC75 := HYC75
    replace HOX76_0 := HOX76_0.below hGR
    have zsw31 : w30.heap.size ≤ w31.heap.size := hGR.size
    clear hGR
    show Code.wp _ _ _ _ _
    refine wp_cond (t := decide (1 + ((sObjs (l0.map LO.o)).length : Int) < 0)) s92 ?_
    rw [show (decide (1 + ((sObjs (l0.map LO.o)).length : Int) < 0)) = false from (by simp [eqB, cnt_mkL] <;> omega)]
    show Code.wp _ _ _ _ _
    refine wp_skip ?_
    show Code.wp _ _ _ _ _
    refine wp_seq ?_
    refine wp_seq ?_
    refine deedL [.eq 93 (.int .i64 (1 + ((sObjs (l0.map LO.o)).length : Int))), .eq 94 (.int .i64 (1 + ((sObjs (l0.map LO.o)).length : Int))), .eq 95 (.bool ((1 + ((sObjs (l0.map LO.o)).length : Int)) != (1 + ((sObjs (l0.map LO.o)).length : Int)))), .eq 10 (.int .i64 (1 + ((sObjs (l0.map LO.o)).length : Int))), .eq 11 (.int .i64 (1 + ((sObjs (l0.map LO.o)).length : Int))), .w (Below w31.heap.size w31)] 96 [[4], [3], [0, 1]] [] [2, 3, 4, 5] hM hN hD (by kernel_rfl) ⟨s10, s11, ⟨Below.refl _ _, below_drew (Below.refl _ _)⟩, trivial⟩ ⟨fun _ _ hb h => below_step h hb, trivial⟩ (fun hgrow => ⟨fun _ _ h => rv rfl (x_move rfl h.1) rfl,
      fun _ _ h => rv rfl (x_move rfl h.1) rfl,
      fun _ _ h => rv rfl (x_neq rfl h.1 h.2.1) rfl, trivial⟩) ?_
    clear s10 s11 s92
    clear hN hD
    rintro a33 w33 hN hD ⟨s95, s10, s11, hGR, -⟩
    replace HB := below_step HB hGR
    replace HYM21 := HYM21
    replace HYC21 := HYC21
    replace HB5 := below_step HB5 hGR
    replace HYM26 := HYM26
    replace HYC26 := HYC26
    replace HYM43 := HYM43
    replace HYC43 := HYC43
    replace HOX29_0 := HOX29_0.below hGR
    replace HYM75 := HYM75
    replace HYC75 := HYC75
    replace HOX76_0 := HOX76_0.below hGR
    have zsw33 : w31.heap.size ≤ w33.heap.size := hGR.size
    clear hGR
    show Code.wp _ _ _ _ _
    refine wp_cond (t := (1 + ((sObjs (l0.map LO.o)).length : Int)) != (1 + ((sObjs (l0.map LO.o)).length : Int))) s95 ?_
    rw [show ((1 + ((sObjs (l0.map LO.o)).length : Int)) != (1 + ((sObjs (l0.map LO.o)).length : Int))) = false from (by simp [eqB, cnt_mkL] <;> omega)]
    show Code.wp _ _ _ _ _
    refine wp_skip ?_
    show Code.wp _ _ _ _ _
    refine wp_seq ?_
    refine deedL [.eq 2 (.bool true), .w (Below w33.heap.size w33)] 96 [[]] [] [0, 1] hM hN hD (by kernel_rfl) ⟨⟨Below.refl _ _, below_drew (Below.refl _ _)⟩, trivial⟩ ⟨fun _ _ hb h => below_step h hb, trivial⟩ (fun hgrow => ⟨fun _ _ _ => rv rfl (x_assign rfl rfl) rfl, trivial⟩) ?_
    clear s10 s11 s95
    clear hN hD
    rintro a35 w35 hN hD ⟨s2, hGR, -⟩
    replace HB := below_step HB hGR
    replace HYM21 := HYM21
    replace HYC21 := HYC21
    replace HB5 := below_step HB5 hGR
    replace HYM26 := HYM26
    replace HYC26 := HYC26
    replace HYM43 := HYM43
    replace HYC43 := HYC43
    replace HOX29_0 := HOX29_0.below hGR
    replace HYM75 := HYM75
    replace HYC75 := HYC75
    replace HOX76_0 := HOX76_0.below hGR
    have zsw35 : w33.heap.size ≤ w35.heap.size := hGR.size
    clear hGR
    show Code.wp _ _ _ _ _
    refine wp_ret ?_
    refine bodyPost_ret (results_single rfl (vtmp s2 .nil)) hD ?_
    exact ⟨rfl, HB⟩
end Go.Proofs.Ytideafkiaipnoaa.Q
