/- What the law needs, part 3 of 6. -/
import Derived.Test.YtideafkiaipnoaaZt1
import Derived.Test.YtideafkiaipnoaaZt0
/- Functions walked. -/
namespace Go.Proofs.Ytideafkiaipnoaa.Q
open Go Go.RowKit Go.Proofs.YtideafkiaipnoaaW.PrintWords Go.Proofs.YtideafkiaipnoaaW.PrintLast Go.Proofs.Ytideafkiaipnoaa.Deed
set_option maxRecDepth 100000
set_option linter.unusedVariables false
set_option linter.unusedSimpArgs false
abbrev ecLO (x : LO) : List Value := [.int .i64 x.o.actor, .int .i64 x.o.seq, .int .i64 x.o.time, .slice x.A x.o.deps.length x.c, .int .i64 x.o.kind, .int .i64 x.o.obj, .int .i64 x.o.num, .int .i64 x.o.undo, .int .i64 x.o.att, .int .i64 x.o.ata, .string x.o.key, .string x.o.text]
def eLO : Enc LO := { n := 12, T := 67, enc := fun x => ecLO x, inn := fun x => some (x.A, x.o.deps), len := fun _ => rfl }
def mLO : Mk LO := { tok := fun x k => (⟨⟨k, k + 1, k + 1 + 1, mk (k + 1 + 1 + 1) x.o.deps.length, k + 1 + 1 + 1 + (x.o.deps.length : Int), k + 1 + 1 + 1 + (x.o.deps.length : Int) + 1, k + 1 + 1 + 1 + (x.o.deps.length : Int) + 1 + 1, k + 1 + 1 + 1 + (x.o.deps.length : Int) + 1 + 1 + 1, k + 1 + 1 + 1 + (x.o.deps.length : Int) + 1 + 1 + 1 + 1, k + 1 + 1 + 1 + (x.o.deps.length : Int) + 1 + 1 + 1 + 1 + 1, mtext (k + 1 + 1 + 1 + (x.o.deps.length : Int) + 1 + 1 + 1 + 1 + 1 + 1), mtext (k + 1 + 1 + 1 + (x.o.deps.length : Int) + 1 + 1 + 1 + 1 + 1 + 1 + 1)⟩, x.A, x.c⟩ : LO), cnt := fun x => 11 + (x.o.deps.length : Int), pos := fun x => by first | omega | (simp only []; omega), same := fun x k => by simp [mk_length], idem := fun x k => by simp [mk_length] }

set_option maxHeartbeats 2000000 in
theorem eqeLO_calls (x y : LO) (w : World) (hn : x.o.deps.length ≤ 1099511627776) (HR1 : RI w x.A x.o.deps) (HR2 : RI w y.A y.o.deps) : Calls Try.prog 51 #[.agg (ecLO x).toArray, .agg (ecLO y).toArray] w fun e w' => e = .returned (.bool (eqB x.o y.o)) ∧ Below w.heap.size w w' := by
  refine calls_of_wp Try.func51 rfl ?_
  refine enter_ (N := 62) rfl ?_
  rintro a0 hN hD ⟨s0, s1, -⟩
  have HB : Below w.heap.size w w := Below.refl _ _
  refine wp_seq ?_
  refine deedL [.s1 2 (NewB w.heap.size (ecLO x) 67), .s1 3 (NewB w.heap.size (ecLO y) 67), .eq 4 (.bool false), .eq 0 (.agg (ecLO x).toArray), .eq 1 (.agg (ecLO y).toArray), .w (Below w.heap.size w)] 62 [[5, 3], [5, 4], []] [] [0, 1, 3, 4, 5] hM hN hD (by kernel_rfl) ⟨s0, s1, ⟨Below.refl _ _, below_drew (Below.refl _ _)⟩, trivial⟩ ⟨fun _ _ _ hb h => h.grow hb, fun _ _ _ hb h => h.grow hb, fun _ _ hb h => below_step h hb, trivial⟩ (fun hgrow => ⟨fun _ _ h => rbox hgrow rfl (x_box rfl h.2.1) h.1.size (fun _ _ z => z),
    fun _ _ h => rbox hgrow rfl (x_box rfl h.2.1) h.1.size (fun _ _ z => z),
    fun _ _ _ => rv rfl (x_assign rfl rfl) rfl, trivial⟩) ?_
  clear s0 s1
  clear hN hD
  rintro a1 w1 hN hD ⟨⟨g2, s2, lg2, HBX2⟩, ⟨g3, s3, lg3, HBX3⟩, s0, s1, hGR, -⟩
  replace HB := below_step HB hGR
  clear hGR
  show Code.wp _ _ _ _ _
  refine wp_seq ?_
  refine wp_seq ?_
  refine deedL [.eq 5 (.pointer (some ⟨g2, 0, none⟩)), .eq 6 (.int .i64 x.o.actor), .eq 7 (.pointer (some ⟨g3, 0, none⟩)), .eq 8 (.int .i64 y.o.actor), .eq 9 (.bool (x.o.actor != y.o.actor)), .eq 2 (.pointer (some ⟨g2, 0, none⟩)), .eq 3 (.pointer (some ⟨g3, 0, none⟩)), .w (Below w1.heap.size w1)] 62 [[5], [0, 7], [6], [2, 7], [1, 3]] [] [4, 5, 6, 7] hM hN hD (by kernel_rfl) ⟨s2, s3, ⟨Below.refl _ _, below_drew (Below.refl _ _)⟩, trivial⟩ ⟨fun _ _ hb h => below_step h hb, trivial⟩ (fun hgrow => ⟨fun _ _ h => rv rfl (x_field rfl h.1 Try.underlying67 rfl sz3 (by decide) rfl) rfl,
    fun _ _ h => rv rfl (x_load1 rfl h.1 Try.underlying3 rfl (blk_one (L := ecLO x) (blk_below HBX2 h.2.1) 0 rfl)) rfl,
    fun _ _ h => rv rfl (x_field rfl h.1 Try.underlying67 rfl sz3 (by decide) rfl) rfl,
    fun _ _ h => rv rfl (x_load1 rfl h.1 Try.underlying3 rfl (blk_one (L := ecLO y) (blk_below HBX3 h.2.1) 0 rfl)) rfl,
    fun _ _ h => rv rfl (x_neq rfl h.1 h.2.1) rfl, trivial⟩) ?_
  clear s0 s1 s2 s3
  clear hN hD
  rintro a2 w2 hN hD ⟨s9, s2, s3, hGR, -⟩
  replace HB := below_step HB hGR
  replace HBX2 := blk_below HBX2 hGR
  replace HBX3 := blk_below HBX3 hGR
  clear hGR
  show Code.wp _ _ _ _ _
  refine wp_cond (t := x.o.actor != y.o.actor) s9 ?_
  rcases Bool.eq_false_or_eq_true (x.o.actor != y.o.actor) with cd3 | cd3
  · rw [cd3]
    show Code.wp _ _ _ _ _
    have pd3 := cd3
    simp at pd3
    refine wp_seq ?_
    refine deedL [.eq 4 (.bool false), .w (Below w2.heap.size w2)] 62 [[]] [] [0, 1] hM hN hD (by kernel_rfl) ⟨⟨Below.refl _ _, below_drew (Below.refl _ _)⟩, trivial⟩ ⟨fun _ _ hb h => below_step h hb, trivial⟩ (fun hgrow => ⟨fun _ _ _ => rv rfl (x_assign rfl rfl) rfl, trivial⟩) ?_
    clear s2 s3 s9
    clear hN hD
    rintro a4 w4 hN hD ⟨s4, hGR, -⟩
    replace HB := below_step HB hGR
    replace HBX2 := blk_below HBX2 hGR
    replace HBX3 := blk_below HBX3 hGR
    clear hGR
    show Code.wp _ _ _ _ _
    refine wp_ret (then_ret ?_)
    refine bodyPost_ret (results_single rfl (vtmp s4 .nil)) hD ?_
    exact ⟨by rw [eqB_false (fun h => by simp only [beq_toList, bne_iff_ne, bne_eq_false_iff_eq, Bool.not_eq_true', Bool.not_eq_false', beq_iff_eq, beq_eq_false_iff_ne, eqB_iff, eqB_iff', ne_eq, Bool.and_eq_true, Bool.and_eq_false_iff] at cd3; simp_all)], HB⟩
  · rw [cd3]
    show Code.wp _ _ _ _ _
    have pd3 := cd3
    simp at pd3
    refine wp_skip ?_
    show Code.wp _ _ _ _ _
    refine wp_seq ?_
    refine wp_seq ?_
    refine deedL [.eq 10 (.pointer (some ⟨g2, 1, none⟩)), .eq 11 (.int .i64 x.o.seq), .eq 12 (.pointer (some ⟨g3, 1, none⟩)), .eq 13 (.int .i64 y.o.seq), .eq 14 (.bool (x.o.seq != y.o.seq)), .eq 2 (.pointer (some ⟨g2, 0, none⟩)), .eq 3 (.pointer (some ⟨g3, 0, none⟩)), .w (Below w2.heap.size w2)] 62 [[5], [0, 7], [6], [2, 7], [1, 3]] [] [4, 5, 6, 7] hM hN hD (by kernel_rfl) ⟨s2, s3, ⟨Below.refl _ _, below_drew (Below.refl _ _)⟩, trivial⟩ ⟨fun _ _ hb h => below_step h hb, trivial⟩ (fun hgrow => ⟨fun _ _ h => rv rfl (x_field rfl h.1 Try.underlying67 rfl sz3 (by decide) rfl) rfl,
      fun _ _ h => rv rfl (x_load1 rfl h.1 Try.underlying3 rfl (blk_one (L := ecLO x) (blk_below HBX2 h.2.1) 1 rfl)) rfl,
      fun _ _ h => rv rfl (x_field rfl h.1 Try.underlying67 rfl sz3 (by decide) rfl) rfl,
      fun _ _ h => rv rfl (x_load1 rfl h.1 Try.underlying3 rfl (blk_one (L := ecLO y) (blk_below HBX3 h.2.1) 1 rfl)) rfl,
      fun _ _ h => rv rfl (x_neq rfl h.1 h.2.1) rfl, trivial⟩) ?_
    clear s2 s3 s9
    clear hN hD
    rintro a5 w5 hN hD ⟨s14, s2, s3, hGR, -⟩
    replace HB := below_step HB hGR
    replace HBX2 := blk_below HBX2 hGR
    replace HBX3 := blk_below HBX3 hGR
    clear hGR
    show Code.wp _ _ _ _ _
    refine wp_cond (t := x.o.seq != y.o.seq) s14 ?_
    rcases Bool.eq_false_or_eq_true (x.o.seq != y.o.seq) with cd6 | cd6
    · rw [cd6]
      show Code.wp _ _ _ _ _
      have pd6 := cd6
      simp at pd6
      refine wp_seq ?_
      refine deedL [.eq 4 (.bool false), .w (Below w5.heap.size w5)] 62 [[]] [] [0, 1] hM hN hD (by kernel_rfl) ⟨⟨Below.refl _ _, below_drew (Below.refl _ _)⟩, trivial⟩ ⟨fun _ _ hb h => below_step h hb, trivial⟩ (fun hgrow => ⟨fun _ _ _ => rv rfl (x_assign rfl rfl) rfl, trivial⟩) ?_
      clear s2 s3 s14
      clear hN hD
      rintro a7 w7 hN hD ⟨s4, hGR, -⟩
      replace HB := below_step HB hGR
      replace HBX2 := blk_below HBX2 hGR
      replace HBX3 := blk_below HBX3 hGR
      clear hGR
      show Code.wp _ _ _ _ _
      refine wp_ret (then_ret ?_)
      refine bodyPost_ret (results_single rfl (vtmp s4 .nil)) hD ?_
      exact ⟨by rw [eqB_false (fun h => by simp only [beq_toList, bne_iff_ne, bne_eq_false_iff_eq, Bool.not_eq_true', Bool.not_eq_false', beq_iff_eq, beq_eq_false_iff_ne, eqB_iff, eqB_iff', ne_eq, Bool.and_eq_true, Bool.and_eq_false_iff] at cd3 cd6; simp_all)], HB⟩
    · rw [cd6]
      show Code.wp _ _ _ _ _
      have pd6 := cd6
      simp at pd6
      refine wp_skip ?_
      show Code.wp _ _ _ _ _
      refine wp_seq ?_
      refine wp_seq ?_
      refine deedL [.eq 15 (.pointer (some ⟨g2, 2, none⟩)), .eq 16 (.int .i64 x.o.time), .eq 17 (.pointer (some ⟨g3, 2, none⟩)), .eq 18 (.int .i64 y.o.time), .eq 19 (.bool (x.o.time != y.o.time)), .eq 2 (.pointer (some ⟨g2, 0, none⟩)), .eq 3 (.pointer (some ⟨g3, 0, none⟩)), .w (Below w5.heap.size w5)] 62 [[5], [0, 7], [6], [2, 7], [1, 3]] [] [4, 5, 6, 7] hM hN hD (by kernel_rfl) ⟨s2, s3, ⟨Below.refl _ _, below_drew (Below.refl _ _)⟩, trivial⟩ ⟨fun _ _ hb h => below_step h hb, trivial⟩ (fun hgrow => ⟨fun _ _ h => rv rfl (x_field rfl h.1 Try.underlying67 rfl sz3 (by decide) rfl) rfl,
        fun _ _ h => rv rfl (x_load1 rfl h.1 Try.underlying3 rfl (blk_one (L := ecLO x) (blk_below HBX2 h.2.1) 2 rfl)) rfl,
        fun _ _ h => rv rfl (x_field rfl h.1 Try.underlying67 rfl sz3 (by decide) rfl) rfl,
        fun _ _ h => rv rfl (x_load1 rfl h.1 Try.underlying3 rfl (blk_one (L := ecLO y) (blk_below HBX3 h.2.1) 2 rfl)) rfl,
        fun _ _ h => rv rfl (x_neq rfl h.1 h.2.1) rfl, trivial⟩) ?_
      clear s2 s3 s14
      clear hN hD
      rintro a8 w8 hN hD ⟨s19, s2, s3, hGR, -⟩
      replace HB := below_step HB hGR
      replace HBX2 := blk_below HBX2 hGR
      replace HBX3 := blk_below HBX3 hGR
      clear hGR
      show Code.wp _ _ _ _ _
      refine wp_cond (t := x.o.time != y.o.time) s19 ?_
      rcases Bool.eq_false_or_eq_true (x.o.time != y.o.time) with cd9 | cd9
      · rw [cd9]
        show Code.wp _ _ _ _ _
        have pd9 := cd9
        simp at pd9
        refine wp_seq ?_
        refine deedL [.eq 4 (.bool false), .w (Below w8.heap.size w8)] 62 [[]] [] [0, 1] hM hN hD (by kernel_rfl) ⟨⟨Below.refl _ _, below_drew (Below.refl _ _)⟩, trivial⟩ ⟨fun _ _ hb h => below_step h hb, trivial⟩ (fun hgrow => ⟨fun _ _ _ => rv rfl (x_assign rfl rfl) rfl, trivial⟩) ?_
        clear s2 s3 s19
        clear hN hD
        rintro a10 w10 hN hD ⟨s4, hGR, -⟩
        replace HB := below_step HB hGR
        replace HBX2 := blk_below HBX2 hGR
        replace HBX3 := blk_below HBX3 hGR
        clear hGR
        show Code.wp _ _ _ _ _
        refine wp_ret (then_ret ?_)
        refine bodyPost_ret (results_single rfl (vtmp s4 .nil)) hD ?_
        exact ⟨by rw [eqB_false (fun h => by simp only [beq_toList, bne_iff_ne, bne_eq_false_iff_eq, Bool.not_eq_true', Bool.not_eq_false', beq_iff_eq, beq_eq_false_iff_ne, eqB_iff, eqB_iff', ne_eq, Bool.and_eq_true, Bool.and_eq_false_iff] at cd3 cd6 cd9; simp_all)], HB⟩
      · rw [cd9]
        show Code.wp _ _ _ _ _
        have pd9 := cd9
        simp at pd9
        refine wp_skip ?_
        show Code.wp _ _ _ _ _
        refine wp_seq ?_
        refine wp_seq ?_
        refine deedL [.eq 20 (.pointer (some ⟨g2, 3, none⟩)), .eq 21 (.agg #[Value.slice x.A x.o.deps.length x.c]), .eq 22 (.pointer (some ⟨g3, 3, none⟩)), .eq 23 (.agg #[Value.slice y.A y.o.deps.length y.c]), .eq 24 (.bool (x.o.deps == y.o.deps)), .eq 25 (.bool (!(x.o.deps == y.o.deps))), .eq 2 (.pointer (some ⟨g2, 0, none⟩)), .eq 3 (.pointer (some ⟨g3, 0, none⟩)), .w (Below w8.heap.size w8)] 62 [[6], [0, 8], [7], [2, 8], [1, 3, 8], [4]] [] [5, 6, 7, 8] hM hN hD (by kernel_rfl) ⟨s2, s3, ⟨Below.refl _ _, below_drew (Below.refl _ _)⟩, trivial⟩ ⟨fun _ _ hb h => below_step h hb, trivial⟩ (fun hgrow => ⟨fun _ _ h => rv rfl (x_field rfl h.1 Try.underlying67 rfl sz41 (by decide) rfl) rfl,
          fun _ _ h => rv rfl (x_loadS rfl h.1 Try.underlying41 [.slice x.A x.o.deps.length x.c] sz41 (blk_list (L := ecLO x) (blk_below HBX2 h.2.1) 3 rfl)) rfl,
          fun _ _ h => rv rfl (x_field rfl h.1 Try.underlying67 rfl sz41 (by decide) rfl) rfl,
          fun _ _ h => rv rfl (x_loadS rfl h.1 Try.underlying41 [.slice y.A y.o.deps.length y.c] sz41 (blk_list (L := ecLO y) (blk_below HBX3 h.2.1) 3 rfl)) rfl,
          fun _ _ h => rc hgrow rfl Try.func27 (by kernel_rfl) rfl rfl (args2 h.1 h.2.1) (eqV_calls x.A x.o.deps x.c y.A y.o.deps y.c _ (RI.below HR1 (below_step HB h.2.2.1)) (RI.below HR2 (below_step HB h.2.2.1)) hn) (fun _ _ h => ⟨_, h.1, h.2, rfl⟩),
          fun _ _ h => rv rfl (x_not rfl h.1) rfl, trivial⟩) ?_
        clear s2 s3 s19
        clear hN hD
        rintro a11 w11 hN hD ⟨s25, s2, s3, hGR, -⟩
        replace HB := below_step HB hGR
        replace HBX2 := blk_below HBX2 hGR
        replace HBX3 := blk_below HBX3 hGR
        clear hGR
        show Code.wp _ _ _ _ _
        refine wp_cond (t := !(x.o.deps == y.o.deps)) s25 ?_
        rcases Bool.eq_false_or_eq_true (!(x.o.deps == y.o.deps)) with cd12 | cd12
        · rw [cd12]
          show Code.wp _ _ _ _ _
          have pd12 := cd12
          simp at pd12
          refine wp_seq ?_
          refine deedL [.eq 4 (.bool false), .w (Below w11.heap.size w11)] 62 [[]] [] [0, 1] hM hN hD (by kernel_rfl) ⟨⟨Below.refl _ _, below_drew (Below.refl _ _)⟩, trivial⟩ ⟨fun _ _ hb h => below_step h hb, trivial⟩ (fun hgrow => ⟨fun _ _ _ => rv rfl (x_assign rfl rfl) rfl, trivial⟩) ?_
          clear s2 s3 s25
          clear hN hD
          rintro a13 w13 hN hD ⟨s4, hGR, -⟩
          replace HB := below_step HB hGR
          replace HBX2 := blk_below HBX2 hGR
          replace HBX3 := blk_below HBX3 hGR
          clear hGR
          show Code.wp _ _ _ _ _
          refine wp_ret (then_ret ?_)
          refine bodyPost_ret (results_single rfl (vtmp s4 .nil)) hD ?_
          exact ⟨by rw [eqB_false (fun h => by simp only [beq_toList, bne_iff_ne, bne_eq_false_iff_eq, Bool.not_eq_true', Bool.not_eq_false', beq_iff_eq, beq_eq_false_iff_ne, eqB_iff, eqB_iff', ne_eq, Bool.and_eq_true, Bool.and_eq_false_iff] at cd3 cd6 cd9 cd12; simp_all)], HB⟩
        · rw [cd12]
          show Code.wp _ _ _ _ _
          have pd12 := cd12
          simp at pd12
          refine wp_skip ?_
          show Code.wp _ _ _ _ _
          refine wp_seq ?_
          refine wp_seq ?_
          refine deedL [.eq 26 (.pointer (some ⟨g2, 4, none⟩)), .eq 27 (.int .i64 x.o.kind), .eq 28 (.pointer (some ⟨g3, 4, none⟩)), .eq 29 (.int .i64 y.o.kind), .eq 30 (.bool (x.o.kind != y.o.kind)), .eq 2 (.pointer (some ⟨g2, 0, none⟩)), .eq 3 (.pointer (some ⟨g3, 0, none⟩)), .w (Below w11.heap.size w11)] 62 [[5], [0, 7], [6], [2, 7], [1, 3]] [] [4, 5, 6, 7] hM hN hD (by kernel_rfl) ⟨s2, s3, ⟨Below.refl _ _, below_drew (Below.refl _ _)⟩, trivial⟩ ⟨fun _ _ hb h => below_step h hb, trivial⟩ (fun hgrow => ⟨fun _ _ h => rv rfl (x_field rfl h.1 Try.underlying67 rfl sz3 (by decide) rfl) rfl,
            fun _ _ h => rv rfl (x_load1 rfl h.1 Try.underlying3 rfl (blk_one (L := ecLO x) (blk_below HBX2 h.2.1) 4 rfl)) rfl,
            fun _ _ h => rv rfl (x_field rfl h.1 Try.underlying67 rfl sz3 (by decide) rfl) rfl,
            fun _ _ h => rv rfl (x_load1 rfl h.1 Try.underlying3 rfl (blk_one (L := ecLO y) (blk_below HBX3 h.2.1) 4 rfl)) rfl,
            fun _ _ h => rv rfl (x_neq rfl h.1 h.2.1) rfl, trivial⟩) ?_
          clear s2 s3 s25
          clear hN hD
          rintro a14 w14 hN hD ⟨s30, s2, s3, hGR, -⟩
          replace HB := below_step HB hGR
          replace HBX2 := blk_below HBX2 hGR
          replace HBX3 := blk_below HBX3 hGR
          clear hGR
          show Code.wp _ _ _ _ _
          refine wp_cond (t := x.o.kind != y.o.kind) s30 ?_
          rcases Bool.eq_false_or_eq_true (x.o.kind != y.o.kind) with cd15 | cd15
          · rw [cd15]
            show Code.wp _ _ _ _ _
            have pd15 := cd15
            simp at pd15
            refine wp_seq ?_
            refine deedL [.eq 4 (.bool false), .w (Below w14.heap.size w14)] 62 [[]] [] [0, 1] hM hN hD (by kernel_rfl) ⟨⟨Below.refl _ _, below_drew (Below.refl _ _)⟩, trivial⟩ ⟨fun _ _ hb h => below_step h hb, trivial⟩ (fun hgrow => ⟨fun _ _ _ => rv rfl (x_assign rfl rfl) rfl, trivial⟩) ?_
            clear s2 s3 s30
            clear hN hD
            rintro a16 w16 hN hD ⟨s4, hGR, -⟩
            replace HB := below_step HB hGR
            replace HBX2 := blk_below HBX2 hGR
            replace HBX3 := blk_below HBX3 hGR
            clear hGR
            show Code.wp _ _ _ _ _
            refine wp_ret (then_ret ?_)
            refine bodyPost_ret (results_single rfl (vtmp s4 .nil)) hD ?_
            exact ⟨by rw [eqB_false (fun h => by simp only [beq_toList, bne_iff_ne, bne_eq_false_iff_eq, Bool.not_eq_true', Bool.not_eq_false', beq_iff_eq, beq_eq_false_iff_ne, eqB_iff, eqB_iff', ne_eq, Bool.and_eq_true, Bool.and_eq_false_iff] at cd3 cd6 cd9 cd12 cd15; simp_all)], HB⟩
          · rw [cd15]
            show Code.wp _ _ _ _ _
            have pd15 := cd15
            simp at pd15
            refine wp_skip ?_
            show Code.wp _ _ _ _ _
            refine wp_seq ?_
            refine wp_seq ?_
            refine deedL [.eq 31 (.pointer (some ⟨g2, 5, none⟩)), .eq 32 (.int .i64 x.o.obj), .eq 33 (.pointer (some ⟨g3, 5, none⟩)), .eq 34 (.int .i64 y.o.obj), .eq 35 (.bool (x.o.obj != y.o.obj)), .eq 2 (.pointer (some ⟨g2, 0, none⟩)), .eq 3 (.pointer (some ⟨g3, 0, none⟩)), .w (Below w14.heap.size w14)] 62 [[5], [0, 7], [6], [2, 7], [1, 3]] [] [4, 5, 6, 7] hM hN hD (by kernel_rfl) ⟨s2, s3, ⟨Below.refl _ _, below_drew (Below.refl _ _)⟩, trivial⟩ ⟨fun _ _ hb h => below_step h hb, trivial⟩ (fun hgrow => ⟨fun _ _ h => rv rfl (x_field rfl h.1 Try.underlying67 rfl sz3 (by decide) rfl) rfl,
              fun _ _ h => rv rfl (x_load1 rfl h.1 Try.underlying3 rfl (blk_one (L := ecLO x) (blk_below HBX2 h.2.1) 5 rfl)) rfl,
              fun _ _ h => rv rfl (x_field rfl h.1 Try.underlying67 rfl sz3 (by decide) rfl) rfl,
              fun _ _ h => rv rfl (x_load1 rfl h.1 Try.underlying3 rfl (blk_one (L := ecLO y) (blk_below HBX3 h.2.1) 5 rfl)) rfl,
              fun _ _ h => rv rfl (x_neq rfl h.1 h.2.1) rfl, trivial⟩) ?_
            clear s2 s3 s30
            clear hN hD
            rintro a17 w17 hN hD ⟨s35, s2, s3, hGR, -⟩
            replace HB := below_step HB hGR
            replace HBX2 := blk_below HBX2 hGR
            replace HBX3 := blk_below HBX3 hGR
            clear hGR
            show Code.wp _ _ _ _ _
            refine wp_cond (t := x.o.obj != y.o.obj) s35 ?_
            rcases Bool.eq_false_or_eq_true (x.o.obj != y.o.obj) with cd18 | cd18
            · rw [cd18]
              show Code.wp _ _ _ _ _
              have pd18 := cd18
              simp at pd18
              refine wp_seq ?_
              refine deedL [.eq 4 (.bool false), .w (Below w17.heap.size w17)] 62 [[]] [] [0, 1] hM hN hD (by kernel_rfl) ⟨⟨Below.refl _ _, below_drew (Below.refl _ _)⟩, trivial⟩ ⟨fun _ _ hb h => below_step h hb, trivial⟩ (fun hgrow => ⟨fun _ _ _ => rv rfl (x_assign rfl rfl) rfl, trivial⟩) ?_
              clear s2 s3 s35
              clear hN hD
              rintro a19 w19 hN hD ⟨s4, hGR, -⟩
              replace HB := below_step HB hGR
              replace HBX2 := blk_below HBX2 hGR
              replace HBX3 := blk_below HBX3 hGR
              clear hGR
              show Code.wp _ _ _ _ _
              refine wp_ret (then_ret ?_)
              refine bodyPost_ret (results_single rfl (vtmp s4 .nil)) hD ?_
              exact ⟨by rw [eqB_false (fun h => by simp only [beq_toList, bne_iff_ne, bne_eq_false_iff_eq, Bool.not_eq_true', Bool.not_eq_false', beq_iff_eq, beq_eq_false_iff_ne, eqB_iff, eqB_iff', ne_eq, Bool.and_eq_true, Bool.and_eq_false_iff] at cd3 cd6 cd9 cd12 cd15 cd18; simp_all)], HB⟩
            · rw [cd18]
              show Code.wp _ _ _ _ _
              have pd18 := cd18
              simp at pd18
              refine wp_skip ?_
              show Code.wp _ _ _ _ _
              refine wp_seq ?_
              refine wp_seq ?_
              refine deedL [.eq 36 (.pointer (some ⟨g2, 6, none⟩)), .eq 37 (.int .i64 x.o.num), .eq 38 (.pointer (some ⟨g3, 6, none⟩)), .eq 39 (.int .i64 y.o.num), .eq 40 (.bool (x.o.num != y.o.num)), .eq 2 (.pointer (some ⟨g2, 0, none⟩)), .eq 3 (.pointer (some ⟨g3, 0, none⟩)), .w (Below w17.heap.size w17)] 62 [[5], [0, 7], [6], [2, 7], [1, 3]] [] [4, 5, 6, 7] hM hN hD (by kernel_rfl) ⟨s2, s3, ⟨Below.refl _ _, below_drew (Below.refl _ _)⟩, trivial⟩ ⟨fun _ _ hb h => below_step h hb, trivial⟩ (fun hgrow => ⟨fun _ _ h => rv rfl (x_field rfl h.1 Try.underlying67 rfl sz3 (by decide) rfl) rfl,
                fun _ _ h => rv rfl (x_load1 rfl h.1 Try.underlying3 rfl (blk_one (L := ecLO x) (blk_below HBX2 h.2.1) 6 rfl)) rfl,
                fun _ _ h => rv rfl (x_field rfl h.1 Try.underlying67 rfl sz3 (by decide) rfl) rfl,
                fun _ _ h => rv rfl (x_load1 rfl h.1 Try.underlying3 rfl (blk_one (L := ecLO y) (blk_below HBX3 h.2.1) 6 rfl)) rfl,
                fun _ _ h => rv rfl (x_neq rfl h.1 h.2.1) rfl, trivial⟩) ?_
              clear s2 s3 s35
              clear hN hD
              rintro a20 w20 hN hD ⟨s40, s2, s3, hGR, -⟩
              replace HB := below_step HB hGR
              replace HBX2 := blk_below HBX2 hGR
              replace HBX3 := blk_below HBX3 hGR
              clear hGR
              show Code.wp _ _ _ _ _
              refine wp_cond (t := x.o.num != y.o.num) s40 ?_
              rcases Bool.eq_false_or_eq_true (x.o.num != y.o.num) with cd21 | cd21
              · rw [cd21]
                show Code.wp _ _ _ _ _
                have pd21 := cd21
                simp at pd21
                refine wp_seq ?_
                refine deedL [.eq 4 (.bool false), .w (Below w20.heap.size w20)] 62 [[]] [] [0, 1] hM hN hD (by kernel_rfl) ⟨⟨Below.refl _ _, below_drew (Below.refl _ _)⟩, trivial⟩ ⟨fun _ _ hb h => below_step h hb, trivial⟩ (fun hgrow => ⟨fun _ _ _ => rv rfl (x_assign rfl rfl) rfl, trivial⟩) ?_
                clear s2 s3 s40
                clear hN hD
                rintro a22 w22 hN hD ⟨s4, hGR, -⟩
                replace HB := below_step HB hGR
                replace HBX2 := blk_below HBX2 hGR
                replace HBX3 := blk_below HBX3 hGR
                clear hGR
                show Code.wp _ _ _ _ _
                refine wp_ret (then_ret ?_)
                refine bodyPost_ret (results_single rfl (vtmp s4 .nil)) hD ?_
                exact ⟨by rw [eqB_false (fun h => by simp only [beq_toList, bne_iff_ne, bne_eq_false_iff_eq, Bool.not_eq_true', Bool.not_eq_false', beq_iff_eq, beq_eq_false_iff_ne, eqB_iff, eqB_iff', ne_eq, Bool.and_eq_true, Bool.and_eq_false_iff] at cd3 cd6 cd9 cd12 cd15 cd18 cd21; simp_all)], HB⟩
              · rw [cd21]
                show Code.wp _ _ _ _ _
                have pd21 := cd21
                simp at pd21
                refine wp_skip ?_
                show Code.wp _ _ _ _ _
                refine wp_seq ?_
                refine wp_seq ?_
                refine deedL [.eq 41 (.pointer (some ⟨g2, 7, none⟩)), .eq 42 (.int .i64 x.o.undo), .eq 43 (.pointer (some ⟨g3, 7, none⟩)), .eq 44 (.int .i64 y.o.undo), .eq 45 (.bool (x.o.undo != y.o.undo)), .eq 2 (.pointer (some ⟨g2, 0, none⟩)), .eq 3 (.pointer (some ⟨g3, 0, none⟩)), .w (Below w20.heap.size w20)] 62 [[5], [0, 7], [6], [2, 7], [1, 3]] [] [4, 5, 6, 7] hM hN hD (by kernel_rfl) ⟨s2, s3, ⟨Below.refl _ _, below_drew (Below.refl _ _)⟩, trivial⟩ ⟨fun _ _ hb h => below_step h hb, trivial⟩ (fun hgrow => ⟨fun _ _ h => rv rfl (x_field rfl h.1 Try.underlying67 rfl sz3 (by decide) rfl) rfl,
                  fun _ _ h => rv rfl (x_load1 rfl h.1 Try.underlying3 rfl (blk_one (L := ecLO x) (blk_below HBX2 h.2.1) 7 rfl)) rfl,
                  fun _ _ h => rv rfl (x_field rfl h.1 Try.underlying67 rfl sz3 (by decide) rfl) rfl,
                  fun _ _ h => rv rfl (x_load1 rfl h.1 Try.underlying3 rfl (blk_one (L := ecLO y) (blk_below HBX3 h.2.1) 7 rfl)) rfl,
                  fun _ _ h => rv rfl (x_neq rfl h.1 h.2.1) rfl, trivial⟩) ?_
                clear s2 s3 s40
                clear hN hD
                rintro a23 w23 hN hD ⟨s45, s2, s3, hGR, -⟩
                replace HB := below_step HB hGR
                replace HBX2 := blk_below HBX2 hGR
                replace HBX3 := blk_below HBX3 hGR
                clear hGR
                show Code.wp _ _ _ _ _
                refine wp_cond (t := x.o.undo != y.o.undo) s45 ?_
                rcases Bool.eq_false_or_eq_true (x.o.undo != y.o.undo) with cd24 | cd24
                · rw [cd24]
                  show Code.wp _ _ _ _ _
                  have pd24 := cd24
                  simp at pd24
                  refine wp_seq ?_
                  refine deedL [.eq 4 (.bool false), .w (Below w23.heap.size w23)] 62 [[]] [] [0, 1] hM hN hD (by kernel_rfl) ⟨⟨Below.refl _ _, below_drew (Below.refl _ _)⟩, trivial⟩ ⟨fun _ _ hb h => below_step h hb, trivial⟩ (fun hgrow => ⟨fun _ _ _ => rv rfl (x_assign rfl rfl) rfl, trivial⟩) ?_
                  clear s2 s3 s45
                  clear hN hD
                  rintro a25 w25 hN hD ⟨s4, hGR, -⟩
                  replace HB := below_step HB hGR
                  replace HBX2 := blk_below HBX2 hGR
                  replace HBX3 := blk_below HBX3 hGR
                  clear hGR
                  show Code.wp _ _ _ _ _
                  refine wp_ret (then_ret ?_)
                  refine bodyPost_ret (results_single rfl (vtmp s4 .nil)) hD ?_
                  exact ⟨by rw [eqB_false (fun h => by simp only [beq_toList, bne_iff_ne, bne_eq_false_iff_eq, Bool.not_eq_true', Bool.not_eq_false', beq_iff_eq, beq_eq_false_iff_ne, eqB_iff, eqB_iff', ne_eq, Bool.and_eq_true, Bool.and_eq_false_iff] at cd3 cd6 cd9 cd12 cd15 cd18 cd21 cd24; simp_all)], HB⟩
                · rw [cd24]
                  show Code.wp _ _ _ _ _
                  have pd24 := cd24
                  simp at pd24
                  refine wp_skip ?_
                  show Code.wp _ _ _ _ _
                  refine wp_seq ?_
                  refine wp_seq ?_
                  refine deedL [.eq 46 (.pointer (some ⟨g2, 8, none⟩)), .eq 47 (.agg #[Value.int .i64 x.o.att, Value.int .i64 x.o.ata]), .eq 48 (.pointer (some ⟨g3, 8, none⟩)), .eq 49 (.agg #[Value.int .i64 y.o.att, Value.int .i64 y.o.ata]), .eq 50 (.bool (x.o.att == y.o.att && x.o.ata == y.o.ata)), .eq 51 (.bool (!(x.o.att == y.o.att && x.o.ata == y.o.ata))), .eq 2 (.pointer (some ⟨g2, 0, none⟩)), .eq 3 (.pointer (some ⟨g3, 0, none⟩)), .w (Below w23.heap.size w23)] 62 [[6], [0, 8], [7], [2, 8], [1, 3], [4]] [] [5, 6, 7, 8] hM hN hD (by kernel_rfl) ⟨s2, s3, ⟨Below.refl _ _, below_drew (Below.refl _ _)⟩, trivial⟩ ⟨fun _ _ hb h => below_step h hb, trivial⟩ (fun hgrow => ⟨fun _ _ h => rv rfl (x_field rfl h.1 Try.underlying67 rfl sz65 (by decide) rfl) rfl,
                    fun _ _ h => rv rfl (x_loadS rfl h.1 Try.underlying65 [.int .i64 x.o.att, .int .i64 x.o.ata] sz65 (blk_list (L := ecLO x) (blk_below HBX2 h.2.1) 8 rfl)) rfl,
                    fun _ _ h => rv rfl (x_field rfl h.1 Try.underlying67 rfl sz65 (by decide) rfl) rfl,
                    fun _ _ h => rv rfl (x_loadS rfl h.1 Try.underlying65 [.int .i64 y.o.att, .int .i64 y.o.ata] sz65 (blk_list (L := ecLO y) (blk_below HBX3 h.2.1) 8 rfl)) rfl,
                    fun _ _ h => rc hgrow rfl Try.func96 (by kernel_rfl) rfl rfl (args2 h.1 h.2.1) (eqSt_calls x.o.att x.o.ata y.o.att y.o.ata _) (fun _ _ h => ⟨_, h.1, h.2, rfl⟩),
                    fun _ _ h => rv rfl (x_not rfl h.1) rfl, trivial⟩) ?_
                  clear s2 s3 s45
                  clear hN hD
                  rintro a26 w26 hN hD ⟨s51, s2, s3, hGR, -⟩
                  replace HB := below_step HB hGR
                  replace HBX2 := blk_below HBX2 hGR
                  replace HBX3 := blk_below HBX3 hGR
                  clear hGR
                  show Code.wp _ _ _ _ _
                  refine wp_cond (t := !(x.o.att == y.o.att && x.o.ata == y.o.ata)) s51 ?_
                  rcases Bool.eq_false_or_eq_true (!(x.o.att == y.o.att && x.o.ata == y.o.ata)) with cd27 | cd27
                  · rw [cd27]
                    show Code.wp _ _ _ _ _
                    have pd27 := cd27
                    simp at pd27
                    refine wp_seq ?_
                    refine deedL [.eq 4 (.bool false), .w (Below w26.heap.size w26)] 62 [[]] [] [0, 1] hM hN hD (by kernel_rfl) ⟨⟨Below.refl _ _, below_drew (Below.refl _ _)⟩, trivial⟩ ⟨fun _ _ hb h => below_step h hb, trivial⟩ (fun hgrow => ⟨fun _ _ _ => rv rfl (x_assign rfl rfl) rfl, trivial⟩) ?_
                    clear s2 s3 s51
                    clear hN hD
                    rintro a28 w28 hN hD ⟨s4, hGR, -⟩
                    replace HB := below_step HB hGR
                    replace HBX2 := blk_below HBX2 hGR
                    replace HBX3 := blk_below HBX3 hGR
                    clear hGR
                    show Code.wp _ _ _ _ _
                    refine wp_ret (then_ret ?_)
                    refine bodyPost_ret (results_single rfl (vtmp s4 .nil)) hD ?_
                    exact ⟨by rw [eqB_false (fun h => by simp only [beq_toList, bne_iff_ne, bne_eq_false_iff_eq, Bool.not_eq_true', Bool.not_eq_false', beq_iff_eq, beq_eq_false_iff_ne, eqB_iff, eqB_iff', ne_eq, Bool.and_eq_true, Bool.and_eq_false_iff] at cd3 cd6 cd9 cd12 cd15 cd18 cd21 cd24 cd27; simp_all)], HB⟩
                  · rw [cd27]
                    show Code.wp _ _ _ _ _
                    have pd27 := cd27
                    simp at pd27
                    refine wp_skip ?_
                    show Code.wp _ _ _ _ _
                    refine wp_seq ?_
                    refine wp_seq ?_
                    refine deedL [.eq 52 (.pointer (some ⟨g2, 10, none⟩)), .eq 53 (.string x.o.key), .eq 54 (.pointer (some ⟨g3, 10, none⟩)), .eq 55 (.string y.o.key), .eq 56 (.bool (!(x.o.key.toList == y.o.key.toList))), .eq 2 (.pointer (some ⟨g2, 0, none⟩)), .eq 3 (.pointer (some ⟨g3, 0, none⟩)), .w (Below w26.heap.size w26)] 62 [[5], [0, 7], [6], [2, 7], [1, 3]] [] [4, 5, 6, 7] hM hN hD (by kernel_rfl) ⟨s2, s3, ⟨Below.refl _ _, below_drew (Below.refl _ _)⟩, trivial⟩ ⟨fun _ _ hb h => below_step h hb, trivial⟩ (fun hgrow => ⟨fun _ _ h => rv rfl (x_field rfl h.1 Try.underlying67 rfl sz9 (by decide) rfl) rfl,
                      fun _ _ h => rv rfl (x_load1 rfl h.1 Try.underlying9 rfl (blk_one (L := ecLO x) (blk_below HBX2 h.2.1) 10 rfl)) rfl,
                      fun _ _ h => rv rfl (x_field rfl h.1 Try.underlying67 rfl sz9 (by decide) rfl) rfl,
                      fun _ _ h => rv rfl (x_load1 rfl h.1 Try.underlying9 rfl (blk_one (L := ecLO y) (blk_below HBX3 h.2.1) 10 rfl)) rfl,
                      fun _ _ h => rv rfl (x_sneq rfl h.1 h.2.1) rfl, trivial⟩) ?_
                    clear s2 s3 s51
                    clear hN hD
                    rintro a29 w29 hN hD ⟨s56, s2, s3, hGR, -⟩
                    replace HB := below_step HB hGR
                    replace HBX2 := blk_below HBX2 hGR
                    replace HBX3 := blk_below HBX3 hGR
                    clear hGR
                    show Code.wp _ _ _ _ _
                    refine wp_cond (t := !(x.o.key.toList == y.o.key.toList)) s56 ?_
                    rcases Bool.eq_false_or_eq_true (!(x.o.key.toList == y.o.key.toList)) with cd30 | cd30
                    · rw [cd30]
                      show Code.wp _ _ _ _ _
                      have pd30 := cd30
                      simp at pd30
                      refine wp_seq ?_
                      refine deedL [.eq 4 (.bool false), .w (Below w29.heap.size w29)] 62 [[]] [] [0, 1] hM hN hD (by kernel_rfl) ⟨⟨Below.refl _ _, below_drew (Below.refl _ _)⟩, trivial⟩ ⟨fun _ _ hb h => below_step h hb, trivial⟩ (fun hgrow => ⟨fun _ _ _ => rv rfl (x_assign rfl rfl) rfl, trivial⟩) ?_
                      clear s2 s3 s56
                      clear hN hD
                      rintro a31 w31 hN hD ⟨s4, hGR, -⟩
                      replace HB := below_step HB hGR
                      replace HBX2 := blk_below HBX2 hGR
                      replace HBX3 := blk_below HBX3 hGR
                      clear hGR
                      show Code.wp _ _ _ _ _
                      refine wp_ret (then_ret ?_)
                      refine bodyPost_ret (results_single rfl (vtmp s4 .nil)) hD ?_
                      exact ⟨by rw [eqB_false (fun h => by simp only [beq_toList, bne_iff_ne, bne_eq_false_iff_eq, Bool.not_eq_true', Bool.not_eq_false', beq_iff_eq, beq_eq_false_iff_ne, eqB_iff, eqB_iff', ne_eq, Bool.and_eq_true, Bool.and_eq_false_iff] at cd3 cd6 cd9 cd12 cd15 cd18 cd21 cd24 cd27 cd30; simp_all)], HB⟩
                    · rw [cd30]
                      show Code.wp _ _ _ _ _
                      have pd30 := cd30
                      simp at pd30
                      refine wp_skip ?_
                      show Code.wp _ _ _ _ _
                      refine wp_seq ?_
                      refine wp_seq ?_
                      refine deedL [.eq 57 (.pointer (some ⟨g2, 11, none⟩)), .eq 58 (.string x.o.text), .eq 59 (.pointer (some ⟨g3, 11, none⟩)), .eq 60 (.string y.o.text), .eq 61 (.bool (!(x.o.text.toList == y.o.text.toList))), .eq 2 (.pointer (some ⟨g2, 0, none⟩)), .eq 3 (.pointer (some ⟨g3, 0, none⟩)), .w (Below w29.heap.size w29)] 62 [[5], [0, 7], [6], [2, 7], [1, 3]] [] [4, 5, 6, 7] hM hN hD (by kernel_rfl) ⟨s2, s3, ⟨Below.refl _ _, below_drew (Below.refl _ _)⟩, trivial⟩ ⟨fun _ _ hb h => below_step h hb, trivial⟩ (fun hgrow => ⟨fun _ _ h => rv rfl (x_field rfl h.1 Try.underlying67 rfl sz9 (by decide) rfl) rfl,
                        fun _ _ h => rv rfl (x_load1 rfl h.1 Try.underlying9 rfl (blk_one (L := ecLO x) (blk_below HBX2 h.2.1) 11 rfl)) rfl,
                        fun _ _ h => rv rfl (x_field rfl h.1 Try.underlying67 rfl sz9 (by decide) rfl) rfl,
                        fun _ _ h => rv rfl (x_load1 rfl h.1 Try.underlying9 rfl (blk_one (L := ecLO y) (blk_below HBX3 h.2.1) 11 rfl)) rfl,
                        fun _ _ h => rv rfl (x_sneq rfl h.1 h.2.1) rfl, trivial⟩) ?_
                      clear s2 s3 s56
                      clear hN hD
                      rintro a32 w32 hN hD ⟨s61, s2, s3, hGR, -⟩
                      replace HB := below_step HB hGR
                      replace HBX2 := blk_below HBX2 hGR
                      replace HBX3 := blk_below HBX3 hGR
                      clear hGR
                      show Code.wp _ _ _ _ _
                      refine wp_cond (t := !(x.o.text.toList == y.o.text.toList)) s61 ?_
                      rcases Bool.eq_false_or_eq_true (!(x.o.text.toList == y.o.text.toList)) with cd33 | cd33
                      · rw [cd33]
                        show Code.wp _ _ _ _ _
                        have pd33 := cd33
                        simp at pd33
                        refine wp_seq ?_
                        refine deedL [.eq 4 (.bool false), .w (Below w32.heap.size w32)] 62 [[]] [] [0, 1] hM hN hD (by kernel_rfl) ⟨⟨Below.refl _ _, below_drew (Below.refl _ _)⟩, trivial⟩ ⟨fun _ _ hb h => below_step h hb, trivial⟩ (fun hgrow => ⟨fun _ _ _ => rv rfl (x_assign rfl rfl) rfl, trivial⟩) ?_
                        clear s2 s3 s61
                        clear hN hD
                        rintro a34 w34 hN hD ⟨s4, hGR, -⟩
                        replace HB := below_step HB hGR
                        replace HBX2 := blk_below HBX2 hGR
                        replace HBX3 := blk_below HBX3 hGR
                        clear hGR
                        show Code.wp _ _ _ _ _
                        refine wp_ret (then_ret ?_)
                        refine bodyPost_ret (results_single rfl (vtmp s4 .nil)) hD ?_
                        exact ⟨by rw [eqB_false (fun h => by simp only [beq_toList, bne_iff_ne, bne_eq_false_iff_eq, Bool.not_eq_true', Bool.not_eq_false', beq_iff_eq, beq_eq_false_iff_ne, eqB_iff, eqB_iff', ne_eq, Bool.and_eq_true, Bool.and_eq_false_iff] at cd3 cd6 cd9 cd12 cd15 cd18 cd21 cd24 cd27 cd30 cd33; simp_all)], HB⟩
                      · rw [cd33]
                        show Code.wp _ _ _ _ _
                        have pd33 := cd33
                        simp at pd33
                        refine wp_skip ?_
                        show Code.wp _ _ _ _ _
                        refine wp_seq ?_
                        refine deedL [.eq 4 (.bool true), .w (Below w32.heap.size w32)] 62 [[]] [] [0, 1] hM hN hD (by kernel_rfl) ⟨⟨Below.refl _ _, below_drew (Below.refl _ _)⟩, trivial⟩ ⟨fun _ _ hb h => below_step h hb, trivial⟩ (fun hgrow => ⟨fun _ _ _ => rv rfl (x_assign rfl rfl) rfl, trivial⟩) ?_
                        clear s2 s3 s61
                        clear hN hD
                        rintro a35 w35 hN hD ⟨s4, hGR, -⟩
                        replace HB := below_step HB hGR
                        replace HBX2 := blk_below HBX2 hGR
                        replace HBX3 := blk_below HBX3 hGR
                        clear hGR
                        show Code.wp _ _ _ _ _
                        refine wp_ret ?_
                        refine bodyPost_ret (results_single rfl (vtmp s4 .nil)) hD ?_
                        simp only [beq_toList, bne_iff_ne, bne_eq_false_iff_eq, Bool.not_eq_true', Bool.not_eq_false', beq_iff_eq, beq_eq_false_iff_ne, eqB_iff, eqB_iff', ne_eq, Bool.and_eq_true, Bool.and_eq_false_iff] at cd3 cd6 cd9 cd12 cd15 cd18 cd21 cd24 cd27 cd30 cd33
                        exact ⟨by rw [eqB_true (by obtain ⟨⟨_, _, _, _, _, _, _, _, _, _, _, _⟩, _, _⟩ := x; obtain ⟨⟨_, _, _, _, _, _, _, _, _, _, _, _⟩, _, _⟩ := y; simp_all)], HB⟩
set_option maxHeartbeats 2000000 in
theorem eqseLO_calls (A : Option Addr) (xs : List LO) (c : Nat) (E : Option Addr) (ys : List LO) (d : Nat) (w : World) (HR1 : RV eLO w A xs) (HR2 : RV eLO w E ys) (hxn : xs.length ≤ 1099511627776) (hn : ∀ x ∈ xs, x.o.deps.length ≤ 1099511627776) : Calls Try.prog 17 #[.slice A xs.length c, .slice E ys.length d] w fun e w' => e = .returned (.bool (eqB (xs.map LO.o) (ys.map LO.o))) ∧ Below w.heap.size w w' := by
  refine calls_of_wp Try.func17 rfl ?_
  refine enter_ (N := 27) rfl ?_
  rintro a0 hN hD ⟨s0, s1, -⟩
  have HB : Below w.heap.size w w := Below.refl _ _
  refine wp_seq ?_
  refine deedL [.eq 4 (.bool false), .eq 0 (.slice A xs.length c), .eq 1 (.slice E ys.length d), .w (Below w.heap.size w)] 27 [[]] [] [1, 2, 3] hM hN hD (by kernel_rfl) ⟨s0, s1, ⟨Below.refl _ _, below_drew (Below.refl _ _)⟩, trivial⟩ ⟨fun _ _ hb h => below_step h hb, trivial⟩ (fun hgrow => ⟨fun _ _ _ => rv rfl (x_assign rfl rfl) rfl, trivial⟩) ?_
  clear s0 s1
  clear hN hD
  rintro a1 w1 hN hD ⟨s0, s1, hGR, -⟩
  replace HB := below_step HB hGR
  clear hGR
  show Code.wp _ _ _ _ _
  refine wp_seq ?_
  refine wp_seq ?_
  refine deedL [.eq 6 (.slice A xs.length c), .eq 7 (.int .i64 (xs.length : Int)), .eq 8 (.slice E ys.length d), .eq 9 (.int .i64 (ys.length : Int)), .eq 10 (.bool ((xs.length : Int) != (ys.length : Int))), .eq 0 (.slice A xs.length c), .eq 1 (.slice E ys.length d), .w (Below w1.heap.size w1)] 27 [[5], [0], [6], [2], [1, 3]] [] [4, 5, 6, 7] hM hN hD (by kernel_rfl) ⟨s0, s1, ⟨Below.refl _ _, below_drew (Below.refl _ _)⟩, trivial⟩ ⟨fun _ _ hb h => below_step h hb, trivial⟩ (fun hgrow => ⟨fun _ _ h => rv rfl (x_move rfl h.1) rfl,
    fun _ _ h => rv rfl (x_len_slice rfl Try.underlying27 h.1) rfl,
    fun _ _ h => rv rfl (x_move rfl h.1) rfl,
    fun _ _ h => rv rfl (x_len_slice rfl Try.underlying27 h.1) rfl,
    fun _ _ h => rv rfl (x_neq rfl h.1 h.2.1) rfl, trivial⟩) ?_
  clear s0 s1
  clear hN hD
  rintro a2 w2 hN hD ⟨s10, s0, s1, hGR, -⟩
  replace HB := below_step HB hGR
  clear hGR
  show Code.wp _ _ _ _ _
  refine wp_cond (t := (xs.length : Int) != (ys.length : Int)) s10 ?_
  rcases Bool.eq_false_or_eq_true ((xs.length : Int) != (ys.length : Int)) with cd3 | cd3
  · rw [cd3]
    show Code.wp _ _ _ _ _
    have pd3 := cd3
    simp at pd3
    have hl : ¬ (xs.length : Int) = ys.length := by simpa using cd3
    refine wp_seq ?_
    refine deedL [.eq 4 (.bool false), .w (Below w2.heap.size w2)] 27 [[]] [] [0, 1] hM hN hD (by kernel_rfl) ⟨⟨Below.refl _ _, below_drew (Below.refl _ _)⟩, trivial⟩ ⟨fun _ _ hb h => below_step h hb, trivial⟩ (fun hgrow => ⟨fun _ _ _ => rv rfl (x_assign rfl rfl) rfl, trivial⟩) ?_
    clear s0 s1 s10
    clear hN hD
    rintro a4 w4 hN hD ⟨s4, hGR, -⟩
    replace HB := below_step HB hGR
    clear hGR
    show Code.wp _ _ _ _ _
    refine wp_ret (then_ret ?_)
    refine bodyPost_ret (results_single rfl (vtmp s4 .nil)) hD ?_
    exact ⟨by rw [eqB_false (map_len hl)], HB⟩
  · rw [cd3]
    show Code.wp _ _ _ _ _
    have pd3 := cd3
    simp at pd3
    have hl : (xs.length : Int) = ys.length := by simpa using cd3
    refine wp_skip ?_
    show Code.wp _ _ _ _ _
    refine wp_seq ?_
    refine wp_seq ?_
    refine deedL [.eq 5 (.int .i64 0), .eq 0 (.slice A xs.length c), .eq 1 (.slice E ys.length d), .w (Below w2.heap.size w2)] 27 [[]] [] [0, 1, 2, 3] hM hN hD (by kernel_rfl) ⟨s0, s1, ⟨Below.refl _ _, below_drew (Below.refl _ _)⟩, trivial⟩ ⟨fun _ _ hb h => below_step h hb, trivial⟩ (fun hgrow => ⟨fun _ _ _ => rv rfl (x_assign rfl rfl) rfl, trivial⟩) ?_
    clear s0 s1 s10
    clear hN hD
    rintro a5 w5 hN hD ⟨s5, s0, s1, hGR, -⟩
    replace HB := below_step HB hGR
    clear hGR
    show Code.wp _ _ _ _ _
    refine wp_block ?_
    refine wp_loopN (fun n_ q_ w_ => ∃ (i : Int), (q_.tmps.size = 27) ∧ (q_.defers = []) ∧ (sl q_ 0 = .slice A xs.length c) ∧ (sl q_ 1 = .slice E ys.length d) ∧ (sl q_ 5 = .int .i64 i) ∧ (Below w.heap.size w w_) ∧ (0 ≤ i) ∧ (i ≤ xs.length) ∧ (∀ j : Int, 0 ≤ j → j < i → LO.o (gd xs j) = LO.o (gd ys j)) ∧ (n_ = (xs.length - i).toNat)) ((fun (i : Int) => (xs.length - i).toNat) 0) ?_ ?_
    · exact ⟨0, hN, hD, s0, s1, s5, HB, (by omega), (by omega), (by intro j u v; omega), rfl⟩
    clear s0 s1 s5 HB hN hD
    rintro n_6 a6 w6 ⟨i, hN, hD, s0, s1, s5, HB, hi0, hi1, hi, hmeas⟩
    refine wp_seq ?_
    refine wp_seq ?_
    refine deedL [.eq 11 (.int .i64 i), .eq 12 (.slice A xs.length c), .eq 13 (.int .i64 (xs.length : Int)), .eq 14 (.bool (decide (i < (xs.length : Int)))), .eq 0 (.slice A xs.length c), .eq 1 (.slice E ys.length d), .eq 5 (.int .i64 i), .w (Below w6.heap.size w6)] 27 [[6], [4], [1], [0, 2]] [] [3, 4, 5, 6, 7] hM hN hD (by kernel_rfl) ⟨s0, s1, s5, ⟨Below.refl _ _, below_drew (Below.refl _ _)⟩, trivial⟩ ⟨fun _ _ hb h => below_step h hb, trivial⟩ (fun hgrow => ⟨fun _ _ h => rv rfl (x_move rfl h.1) rfl,
      fun _ _ h => rv rfl (x_move rfl h.1) rfl,
      fun _ _ h => rv rfl (x_len_slice rfl Try.underlying27 h.1) rfl,
      fun _ _ h => rv rfl (x_lss rfl h.1 h.2.1) rfl, trivial⟩) ?_
    clear s0 s1 s5
    clear hN hD
    rintro a7 w7 hN hD ⟨s14, s0, s1, s5, hGR, -⟩
    replace HB := below_step HB hGR
    clear hGR
    show Code.wp _ _ _ _ _
    refine wp_cond (t := decide (i < (xs.length : Int))) s14 ?_
    rcases Bool.eq_false_or_eq_true (decide (i < (xs.length : Int))) with cd8 | cd8
    · rw [cd8]
      show Code.wp _ _ _ _ _
      have pd8 := of_decide_eq_true cd8
      have hi2 := pd8
      refine wp_skip ?_
      show Code.wp _ _ _ _ _
      refine wp_seq ?_
      refine wp_block ?_
      refine wp_seq ?_
      refine deedL [.eq 17 (.slice A xs.length c), .eq 18 (.int .i64 i), .eq 19 (.pointer (some ((adr A).add (i.toNat * 12)))), .eq 20 (.agg (ecLO (gd xs i)).toArray), .eq 21 (.slice E ys.length d), .eq 22 (.int .i64 i), .eq 23 (.pointer (some ((adr E).add (i.toNat * 12)))), .eq 24 (.agg (ecLO (gd ys i)).toArray), .eq 25 (.bool (eqB (gd xs i).o (gd ys i).o)), .eq 26 (.bool (!(eqB (gd xs i).o (gd ys i).o))), .eq 0 (.slice A xs.length c), .eq 1 (.slice E ys.length d), .eq 5 (.int .i64 i), .w (Below w7.heap.size w7)] 27 [[10], [12], [0, 1], [2, 13], [11], [12], [4, 5], [6, 13], [3, 7, 13], [8]] [] [9, 10, 11, 12, 13] hM hN hD (by kernel_rfl) ⟨s0, s1, s5, ⟨Below.refl _ _, below_drew (Below.refl _ _)⟩, trivial⟩ ⟨fun _ _ hb h => below_step h hb, trivial⟩ (fun hgrow => ⟨fun _ _ h => rv rfl (x_move rfl h.1) rfl,
        fun _ _ h => rv rfl (x_move rfl h.1) rfl,
        fun _ _ h => rv rfl (x_index_at rfl h.1 h.2.1 Try.underlying27 sz67 (by omega) (by omega) (RV.ad HR1 i (by omega) (by omega))) rfl,
        fun _ _ h => rv rfl (x_loadS rfl h.1 Try.underlying67 (ecLO (gd xs i)) sz67 (RV.cells HR1 (below_step HB h.2.1) (by omega) (by omega))) rfl,
        fun _ _ h => rv rfl (x_move rfl h.1) rfl,
        fun _ _ h => rv rfl (x_move rfl h.1) rfl,
        fun _ _ h => rv rfl (x_index_at rfl h.1 h.2.1 Try.underlying27 sz67 (by omega) (by omega) (RV.ad HR2 i (by omega) (by omega))) rfl,
        fun _ _ h => rv rfl (x_loadS rfl h.1 Try.underlying67 (ecLO (gd ys i)) sz67 (RV.cells HR2 (below_step HB h.2.1) (by omega) (by omega))) rfl,
        fun _ _ h => rc hgrow rfl Try.func51 (by kernel_rfl) rfl rfl (args2 h.1 h.2.1) (eqeLO_calls (gd xs i) (gd ys i) _ (hn _ (List.mem_of_getElem? (gd_of hi0 hi2))) (RI.below (RV.inn HR1 (by omega) (by omega) rfl) (below_step HB h.2.2.1)) (RI.below (RV.inn HR2 (by omega) (by omega) rfl) (below_step HB h.2.2.1))) (fun _ _ h => ⟨_, h.1, h.2, rfl⟩),
        fun _ _ h => rv rfl (x_not rfl h.1) rfl, trivial⟩) ?_
      clear s0 s1 s5 s14
      clear hN hD
      rintro a9 w9 hN hD ⟨s26, s0, s1, s5, hGR, -⟩
      replace HB := below_step HB hGR
      clear hGR
      show Code.wp _ _ _ _ _
      refine wp_cond (t := !(eqB (gd xs i).o (gd ys i).o)) s26 ?_
      rcases Bool.eq_false_or_eq_true (!(eqB (gd xs i).o (gd ys i).o)) with cd10 | cd10
      · rw [cd10]
        show Code.wp _ _ _ _ _
        have pd10 := cd10
        simp at pd10
        have hs : LO.o (gd xs i) ≠ LO.o (gd ys i) := by simpa [eqB] using cd10
        refine wp_seq ?_
        refine deedL [.eq 4 (.bool false), .w (Below w9.heap.size w9)] 27 [[]] [] [0, 1] hM hN hD (by kernel_rfl) ⟨⟨Below.refl _ _, below_drew (Below.refl _ _)⟩, trivial⟩ ⟨fun _ _ hb h => below_step h hb, trivial⟩ (fun hgrow => ⟨fun _ _ _ => rv rfl (x_assign rfl rfl) rfl, trivial⟩) ?_
        clear s0 s1 s5 s26
        clear hN hD
        rintro a11 w11 hN hD ⟨s4, hGR, -⟩
        replace HB := below_step HB hGR
        clear hGR
        show Code.wp _ _ _ _ _
        refine wp_ret (blk_ret (then_ret (then_ret (blk_ret (then_ret ?_)))))
        refine bodyPost_ret (results_single rfl (vtmp s4 .nil)) hD ?_
        exact ⟨by rw [eqB_false (map_ne hi0 hi2 hs)], HB⟩
      · rw [cd10]
        show Code.wp _ _ _ _ _
        have pd10 := cd10
        simp at pd10
        have hs : LO.o (gd xs i) = LO.o (gd ys i) := by simpa [eqB] using cd10
        refine wp_skip ?_
        show Code.wp _ _ _ _ _
        refine deedL [.eq 15 (.int .i64 i), .eq 16 (.int .i64 (i + 1)), .eq 5 (.int .i64 (i + 1)), .eq 0 (.slice A xs.length c), .eq 1 (.slice E ys.length d), .eq 5 (.int .i64 i), .w (Below w9.heap.size w9)] 27 [[5], [0], [1]] [[], [], [5]] [2, 3, 4, 6] hM hN hD (by kernel_rfl) ⟨s0, s1, s5, ⟨Below.refl _ _, below_drew (Below.refl _ _)⟩, trivial⟩ ⟨fun _ _ hb h => below_step h hb, trivial⟩ (fun hgrow => ⟨fun _ _ h => rv rfl (x_move rfl h.1) rfl,
          fun _ _ h => rv rfl (x_add' rfl h.1 rfl (by omega)) rfl,
          fun _ _ h => rv rfl (x_assign rfl h.1) rfl, trivial⟩) ?_
        clear s0 s1 s5 s26
        clear hN hD
        rintro a12 w12 hN hD ⟨s5, s0, s1, hGR, -⟩
        replace HB := below_step HB hGR
        clear hGR
        show ∃ m, m < n_6 ∧ _
        exact ⟨_, (by omega), ⟨(i + 1), hN, hD, s0, s1, s5, HB, (by omega), (by omega), (by intro j u v; by_cases e : j = i; (subst e; exact hs); exact hi j u (by omega)), rfl⟩⟩
    · rw [cd8]
      show Code.wp _ _ _ _ _
      have pd8 := of_decide_eq_false cd8
      refine wp_exit (then_exit (then_exit (at_exit ?_)))
      show Code.wp _ _ _ _ _
      refine wp_seq ?_
      refine deedL [.eq 4 (.bool true), .w (Below w7.heap.size w7)] 27 [[]] [] [0, 1] hM hN hD (by kernel_rfl) ⟨⟨Below.refl _ _, below_drew (Below.refl _ _)⟩, trivial⟩ ⟨fun _ _ hb h => below_step h hb, trivial⟩ (fun hgrow => ⟨fun _ _ _ => rv rfl (x_assign rfl rfl) rfl, trivial⟩) ?_
      clear s0 s1 s5 s14
      clear hN hD
      rintro a13 w13 hN hD ⟨s4, hGR, -⟩
      replace HB := below_step HB hGR
      clear hGR
      show Code.wp _ _ _ _ _
      refine wp_ret ?_
      refine bodyPost_ret (results_single rfl (vtmp s4 .nil)) hD ?_
      exact ⟨by rw [eqB_true (map_eq (by omega) (fun j u v => hi j u (by omega)))], HB⟩
set_option maxHeartbeats 2000000 in
theorem heldeLO_calls (A : Option Addr) (xs : List LO) (c : Nat) (k : Int) (w : World) (HR1 : RV eLO w A xs) (hk0 : 0 ≤ k) (hk1 : k + cntL mLO xs ≤ 4503599627370496) (hxn : xs.length ≤ 1099511627776) : Calls Try.prog 29 #[.slice A xs.length c, .int .i64 k] w fun e w' => e = .returned (.int .i64 (heldL mLO xs k)) ∧ Below w.heap.size w w' := by
  refine calls_of_wp Try.func29 rfl ?_
  refine enter_ (N := 126) rfl ?_
  rintro a0 hN hD ⟨s0, s1, -⟩
  have HB : Below w.heap.size w w := Below.refl _ _
  refine wp_seq ?_
  refine deedL [.eq 4 (.int .i64 0), .eq 0 (.slice A xs.length c), .eq 1 (.int .i64 k), .w (Below w.heap.size w)] 126 [[]] [] [1, 2, 3] hM hN hD (by kernel_rfl) ⟨s0, s1, ⟨Below.refl _ _, below_drew (Below.refl _ _)⟩, trivial⟩ ⟨fun _ _ hb h => below_step h hb, trivial⟩ (fun hgrow => ⟨fun _ _ _ => rv rfl (x_assign rfl rfl) rfl, trivial⟩) ?_
  clear s0 s1
  clear hN hD
  rintro a1 w1 hN hD ⟨s0, s1, hGR, -⟩
  replace HB := below_step HB hGR
  clear hGR
  show Code.wp _ _ _ _ _
  refine wp_seq ?_
  refine wp_seq ?_
  refine deedL [.eq 5 (.int .i64 0), .eq 0 (.slice A xs.length c), .eq 1 (.int .i64 k), .w (Below w1.heap.size w1)] 126 [[]] [] [0, 1, 2, 3] hM hN hD (by kernel_rfl) ⟨s0, s1, ⟨Below.refl _ _, below_drew (Below.refl _ _)⟩, trivial⟩ ⟨fun _ _ hb h => below_step h hb, trivial⟩ (fun hgrow => ⟨fun _ _ _ => rv rfl (x_assign rfl rfl) rfl, trivial⟩) ?_
  clear s0 s1
  clear hN hD
  rintro a2 w2 hN hD ⟨s5, s0, s1, hGR, -⟩
  replace HB := below_step HB hGR
  clear hGR
  show Code.wp _ _ _ _ _
  refine wp_block ?_
  refine wp_loopN (fun n_ q_ w_ => ∃ (i : Int) (l : Int), (q_.tmps.size = 126) ∧ (q_.defers = []) ∧ (sl q_ 0 = .slice A xs.length c) ∧ (sl q_ 1 = .int .i64 l) ∧ (sl q_ 5 = .int .i64 i) ∧ (Below w.heap.size w w_) ∧ (0 ≤ i) ∧ (i ≤ xs.length) ∧ (l = k + cntL mLO (xs.take i.toNat)) ∧ (heldL mLO xs k = heldL mLO (xs.drop i.toNat) l) ∧ (n_ = (xs.length - i).toNat)) ((fun (i : Int) (l : Int) => (xs.length - i).toNat) 0 k) ?_ ?_
  · exact ⟨0, k, hN, hD, s0, s1, s5, HB, (by omega), (by omega), (by simp [cntL]), rfl, rfl⟩
  clear s0 s1 s5 HB hN hD
  rintro n_3 a3 w3 ⟨i, l, hN, hD, s0, s1, s5, HB, hi0, hi1, hl, hh, hmeas⟩
  have hlp := cntL_pos (M := mLO) (xs.take i.toNat)
  refine wp_seq ?_
  refine wp_seq ?_
  refine deedL [.eq 6 (.int .i64 i), .eq 7 (.slice A xs.length c), .eq 8 (.int .i64 (xs.length : Int)), .eq 9 (.bool (decide (i < (xs.length : Int)))), .eq 0 (.slice A xs.length c), .eq 1 (.int .i64 l), .eq 5 (.int .i64 i), .w (Below w3.heap.size w3)] 126 [[6], [4], [1], [0, 2]] [] [3, 4, 5, 6, 7] hM hN hD (by kernel_rfl) ⟨s0, s1, s5, ⟨Below.refl _ _, below_drew (Below.refl _ _)⟩, trivial⟩ ⟨fun _ _ hb h => below_step h hb, trivial⟩ (fun hgrow => ⟨fun _ _ h => rv rfl (x_move rfl h.1) rfl,
    fun _ _ h => rv rfl (x_move rfl h.1) rfl,
    fun _ _ h => rv rfl (x_len_slice rfl Try.underlying27 h.1) rfl,
    fun _ _ h => rv rfl (x_lss rfl h.1 h.2.1) rfl, trivial⟩) ?_
  clear s0 s1 s5
  clear hN hD
  rintro a4 w4 hN hD ⟨s9, s0, s1, s5, hGR, -⟩
  replace HB := below_step HB hGR
  clear hGR
  show Code.wp _ _ _ _ _
  refine wp_cond (t := decide (i < (xs.length : Int))) s9 ?_
  rcases Bool.eq_false_or_eq_true (decide (i < (xs.length : Int))) with cd5 | cd5
  · rw [cd5]
    show Code.wp _ _ _ _ _
    have pd5 := of_decide_eq_true cd5
    have hi2 := pd5
    have hc := cntL_part (M := mLO) hi0 hi2
    rw [show mLO.cnt (gd xs i) = 11 + ((gd xs i).o.deps.length : Int) from rfl] at hc
    refine wp_skip ?_
    show Code.wp _ _ _ _ _
    refine wp_seq ?_
    refine wp_block ?_
    refine wp_seq ?_
    refine wp_seq ?_
    refine deedL [.eq 12 (.slice A xs.length c), .eq 13 (.int .i64 i), .eq 14 (.pointer (some ((adr A).add (i.toNat * 12)))), .eq 15 (.pointer (some ((adr A).add (i.toNat * 12)))), .eq 16 (.int .i64 ((gd xs i).o.actor)), .eq 17 (.int .i64 l), .eq 18 (.bool (((gd xs i).o.actor) != l)), .eq 0 (.slice A xs.length c), .eq 1 (.int .i64 l), .eq 5 (.int .i64 i), .w (Below w4.heap.size w4)] 126 [[7], [9], [0, 1], [2], [3, 10], [8], [4, 5]] [] [6, 7, 8, 9, 10] hM hN hD (by kernel_rfl) ⟨s0, s1, s5, ⟨Below.refl _ _, below_drew (Below.refl _ _)⟩, trivial⟩ ⟨fun _ _ hb h => below_step h hb, trivial⟩ (fun hgrow => ⟨fun _ _ h => rv rfl (x_move rfl h.1) rfl,
      fun _ _ h => rv rfl (x_move rfl h.1) rfl,
      fun _ _ h => rv rfl (x_index_at rfl h.1 h.2.1 Try.underlying27 sz67 (by omega) (by omega) (RV.ad HR1 i (by omega) (by omega))) rfl,
      fun _ _ h => rv rfl (x_field rfl h.1 Try.underlying67 rfl sz3 (by decide) rfl) rfl,
      fun _ _ h => rv rfl (x_load1 rfl h.1 Try.underlying3 rfl (RV.cell0 HR1 (below_step HB h.2.1) (by omega) (by omega) rfl)) rfl,
      fun _ _ h => rv rfl (x_move rfl h.1) rfl,
      fun _ _ h => rv rfl (x_neq rfl h.1 h.2.1) rfl, trivial⟩) ?_
    clear s0 s1 s5 s9
    clear hN hD
    rintro a6 w6 hN hD ⟨s18, s0, s1, s5, hGR, -⟩
    replace HB := below_step HB hGR
    clear hGR
    show Code.wp _ _ _ _ _
    refine wp_cond (t := ((gd xs i).o.actor) != l) s18 ?_
    rcases Bool.eq_false_or_eq_true (((gd xs i).o.actor) != l) with cd7 | cd7
    · rw [cd7]
      show Code.wp _ _ _ _ _
      have pd7 := cd7
      simp at pd7
      have hs : (gd xs i).o.actor ≠ l := by simpa using cd7
      refine wp_seq ?_
      refine deedL [.eq 4 (.int .i64 (-1)), .w (Below w6.heap.size w6)] 126 [[]] [] [0, 1] hM hN hD (by kernel_rfl) ⟨⟨Below.refl _ _, below_drew (Below.refl _ _)⟩, trivial⟩ ⟨fun _ _ hb h => below_step h hb, trivial⟩ (fun hgrow => ⟨fun _ _ _ => rv rfl (x_assign rfl rfl) rfl, trivial⟩) ?_
      clear s0 s1 s5 s18
      clear hN hD
      rintro a8 w8 hN hD ⟨s4, hGR, -⟩
      replace HB := below_step HB hGR
      clear hGR
      show Code.wp _ _ _ _ _
      refine wp_ret (then_ret (blk_ret (then_ret (then_ret (blk_ret (then_ret ?_))))))
      refine bodyPost_ret (results_single rfl (vtmp s4 .nil)) hD ?_
      exact ⟨by rw [hh, held_no hi0 hi2 (fun h => hs (congrArg (fun x => x.o.actor) h))], HB⟩
    · rw [cd7]
      show Code.wp _ _ _ _ _
      have pd7 := cd7
      simp at pd7
      have e0q : (gd xs i).o.actor = l := by simpa using cd7
      refine wp_skip ?_
      show Code.wp _ _ _ _ _
      refine wp_seq ?_
      refine deedL [.eq 19 (.int .i64 l), .eq 20 (.int .i64 (l + 1)), .eq 1 (.int .i64 (l + 1)), .eq 0 (.slice A xs.length c), .eq 1 (.int .i64 l), .eq 5 (.int .i64 i), .w (Below w6.heap.size w6)] 126 [[4], [0], [1]] [[], [], [4]] [2, 3, 5, 6] hM hN hD (by kernel_rfl) ⟨s0, s1, s5, ⟨Below.refl _ _, below_drew (Below.refl _ _)⟩, trivial⟩ ⟨fun _ _ hb h => below_step h hb, trivial⟩ (fun hgrow => ⟨fun _ _ h => rv rfl (x_move rfl h.1) rfl,
        fun _ _ h => rv rfl (x_add' rfl h.1 rfl (by omega)) rfl,
        fun _ _ h => rv rfl (x_assign rfl h.1) rfl, trivial⟩) ?_
      clear s0 s1 s5 s18
      clear hN hD
      rintro a9 w9 hN hD ⟨s1, s0, s5, hGR, -⟩
      replace HB := below_step HB hGR
      clear hGR
      show Code.wp _ _ _ _ _
      refine wp_seq ?_
      refine wp_seq ?_
      refine deedL [.eq 21 (.slice A xs.length c), .eq 22 (.int .i64 i), .eq 23 (.pointer (some ((adr A).add (i.toNat * 12)))), .eq 24 (.pointer (some (((adr A).add (i.toNat * 12)).add 1))), .eq 25 (.int .i64 ((gd xs i).o.seq)), .eq 26 (.int .i64 (l + 1)), .eq 27 (.bool (((gd xs i).o.seq) != (l + 1))), .eq 0 (.slice A xs.length c), .eq 1 (.int .i64 (l + 1)), .eq 5 (.int .i64 i), .w (Below w9.heap.size w9)] 126 [[7], [9], [0, 1], [2], [3, 10], [8], [4, 5]] [] [6, 7, 8, 9, 10] hM hN hD (by kernel_rfl) ⟨s0, s1, s5, ⟨Below.refl _ _, below_drew (Below.refl _ _)⟩, trivial⟩ ⟨fun _ _ hb h => below_step h hb, trivial⟩ (fun hgrow => ⟨fun _ _ h => rv rfl (x_move rfl h.1) rfl,
        fun _ _ h => rv rfl (x_move rfl h.1) rfl,
        fun _ _ h => rv rfl (x_index_at rfl h.1 h.2.1 Try.underlying27 sz67 (by omega) (by omega) (RV.ad HR1 i (by omega) (by omega))) rfl,
        fun _ _ h => rv rfl (x_field rfl h.1 Try.underlying67 rfl sz3 (by decide) rfl) rfl,
        fun _ _ h => rv rfl (x_load1 rfl h.1 Try.underlying3 rfl (RV.cell HR1 (below_step HB h.2.1) (by omega) (by omega) (j := 1) rfl)) rfl,
        fun _ _ h => rv rfl (x_move rfl h.1) rfl,
        fun _ _ h => rv rfl (x_neq rfl h.1 h.2.1) rfl, trivial⟩) ?_
      clear s0 s5 s1
      clear hN hD
      rintro a10 w10 hN hD ⟨s27, s0, s1, s5, hGR, -⟩
      replace HB := below_step HB hGR
      clear hGR
      show Code.wp _ _ _ _ _
      refine wp_cond (t := ((gd xs i).o.seq) != (l + 1)) s27 ?_
      rcases Bool.eq_false_or_eq_true (((gd xs i).o.seq) != (l + 1)) with cd11 | cd11
      · rw [cd11]
        show Code.wp _ _ _ _ _
        have pd11 := cd11
        simp at pd11
        have hs : (gd xs i).o.seq ≠ l + 1 := by simpa using cd11
        refine wp_seq ?_
        refine deedL [.eq 4 (.int .i64 (-1)), .w (Below w10.heap.size w10)] 126 [[]] [] [0, 1] hM hN hD (by kernel_rfl) ⟨⟨Below.refl _ _, below_drew (Below.refl _ _)⟩, trivial⟩ ⟨fun _ _ hb h => below_step h hb, trivial⟩ (fun hgrow => ⟨fun _ _ _ => rv rfl (x_assign rfl rfl) rfl, trivial⟩) ?_
        clear s0 s1 s5 s27
        clear hN hD
        rintro a12 w12 hN hD ⟨s4, hGR, -⟩
        replace HB := below_step HB hGR
        clear hGR
        show Code.wp _ _ _ _ _
        refine wp_ret (then_ret (blk_ret (then_ret (then_ret (blk_ret (then_ret ?_))))))
        refine bodyPost_ret (results_single rfl (vtmp s4 .nil)) hD ?_
        exact ⟨by rw [hh, held_no hi0 hi2 (fun h => hs (congrArg (fun x => x.o.seq) h))], HB⟩
      · rw [cd11]
        show Code.wp _ _ _ _ _
        have pd11 := cd11
        simp at pd11
        have e1q : (gd xs i).o.seq = l + 1 := by simpa using cd11
        refine wp_skip ?_
        show Code.wp _ _ _ _ _
        refine wp_seq ?_
        refine deedL [.eq 28 (.int .i64 (l + 1)), .eq 29 (.int .i64 (l + 1 + 1)), .eq 1 (.int .i64 (l + 1 + 1)), .eq 0 (.slice A xs.length c), .eq 1 (.int .i64 (l + 1)), .eq 5 (.int .i64 i), .w (Below w10.heap.size w10)] 126 [[4], [0], [1]] [[], [], [4]] [2, 3, 5, 6] hM hN hD (by kernel_rfl) ⟨s0, s1, s5, ⟨Below.refl _ _, below_drew (Below.refl _ _)⟩, trivial⟩ ⟨fun _ _ hb h => below_step h hb, trivial⟩ (fun hgrow => ⟨fun _ _ h => rv rfl (x_move rfl h.1) rfl,
          fun _ _ h => rv rfl (x_add' rfl h.1 rfl (by omega)) rfl,
          fun _ _ h => rv rfl (x_assign rfl h.1) rfl, trivial⟩) ?_
        clear s0 s1 s5 s27
        clear hN hD
        rintro a13 w13 hN hD ⟨s1, s0, s5, hGR, -⟩
        replace HB := below_step HB hGR
        clear hGR
        show Code.wp _ _ _ _ _
        refine wp_seq ?_
        refine wp_seq ?_
        refine deedL [.eq 30 (.slice A xs.length c), .eq 31 (.int .i64 i), .eq 32 (.pointer (some ((adr A).add (i.toNat * 12)))), .eq 33 (.pointer (some (((adr A).add (i.toNat * 12)).add 2))), .eq 34 (.int .i64 ((gd xs i).o.time)), .eq 35 (.int .i64 (l + 1 + 1)), .eq 36 (.bool (((gd xs i).o.time) != (l + 1 + 1))), .eq 0 (.slice A xs.length c), .eq 1 (.int .i64 (l + 1 + 1)), .eq 5 (.int .i64 i), .w (Below w13.heap.size w13)] 126 [[7], [9], [0, 1], [2], [3, 10], [8], [4, 5]] [] [6, 7, 8, 9, 10] hM hN hD (by kernel_rfl) ⟨s0, s1, s5, ⟨Below.refl _ _, below_drew (Below.refl _ _)⟩, trivial⟩ ⟨fun _ _ hb h => below_step h hb, trivial⟩ (fun hgrow => ⟨fun _ _ h => rv rfl (x_move rfl h.1) rfl,
          fun _ _ h => rv rfl (x_move rfl h.1) rfl,
          fun _ _ h => rv rfl (x_index_at rfl h.1 h.2.1 Try.underlying27 sz67 (by omega) (by omega) (RV.ad HR1 i (by omega) (by omega))) rfl,
          fun _ _ h => rv rfl (x_field rfl h.1 Try.underlying67 rfl sz3 (by decide) rfl) rfl,
          fun _ _ h => rv rfl (x_load1 rfl h.1 Try.underlying3 rfl (RV.cell HR1 (below_step HB h.2.1) (by omega) (by omega) (j := 2) rfl)) rfl,
          fun _ _ h => rv rfl (x_move rfl h.1) rfl,
          fun _ _ h => rv rfl (x_neq rfl h.1 h.2.1) rfl, trivial⟩) ?_
        clear s0 s5 s1
        clear hN hD
        rintro a14 w14 hN hD ⟨s36, s0, s1, s5, hGR, -⟩
        replace HB := below_step HB hGR
        clear hGR
        show Code.wp _ _ _ _ _
        refine wp_cond (t := ((gd xs i).o.time) != (l + 1 + 1)) s36 ?_
        rcases Bool.eq_false_or_eq_true (((gd xs i).o.time) != (l + 1 + 1)) with cd15 | cd15
        · rw [cd15]
          show Code.wp _ _ _ _ _
          have pd15 := cd15
          simp at pd15
          have hs : (gd xs i).o.time ≠ l + 1 + 1 := by simpa using cd15
          refine wp_seq ?_
          refine deedL [.eq 4 (.int .i64 (-1)), .w (Below w14.heap.size w14)] 126 [[]] [] [0, 1] hM hN hD (by kernel_rfl) ⟨⟨Below.refl _ _, below_drew (Below.refl _ _)⟩, trivial⟩ ⟨fun _ _ hb h => below_step h hb, trivial⟩ (fun hgrow => ⟨fun _ _ _ => rv rfl (x_assign rfl rfl) rfl, trivial⟩) ?_
          clear s0 s1 s5 s36
          clear hN hD
          rintro a16 w16 hN hD ⟨s4, hGR, -⟩
          replace HB := below_step HB hGR
          clear hGR
          show Code.wp _ _ _ _ _
          refine wp_ret (then_ret (blk_ret (then_ret (then_ret (blk_ret (then_ret ?_))))))
          refine bodyPost_ret (results_single rfl (vtmp s4 .nil)) hD ?_
          exact ⟨by rw [hh, held_no hi0 hi2 (fun h => hs (congrArg (fun x => x.o.time) h))], HB⟩
        · rw [cd15]
          show Code.wp _ _ _ _ _
          have pd15 := cd15
          simp at pd15
          have e2q : (gd xs i).o.time = l + 1 + 1 := by simpa using cd15
          refine wp_skip ?_
          show Code.wp _ _ _ _ _
          refine wp_seq ?_
          refine deedL [.eq 37 (.int .i64 (l + 1 + 1)), .eq 38 (.int .i64 (l + 1 + 1 + 1)), .eq 1 (.int .i64 (l + 1 + 1 + 1)), .eq 0 (.slice A xs.length c), .eq 1 (.int .i64 (l + 1 + 1)), .eq 5 (.int .i64 i), .w (Below w14.heap.size w14)] 126 [[4], [0], [1]] [[], [], [4]] [2, 3, 5, 6] hM hN hD (by kernel_rfl) ⟨s0, s1, s5, ⟨Below.refl _ _, below_drew (Below.refl _ _)⟩, trivial⟩ ⟨fun _ _ hb h => below_step h hb, trivial⟩ (fun hgrow => ⟨fun _ _ h => rv rfl (x_move rfl h.1) rfl,
            fun _ _ h => rv rfl (x_add' rfl h.1 rfl (by omega)) rfl,
            fun _ _ h => rv rfl (x_assign rfl h.1) rfl, trivial⟩) ?_
          clear s0 s1 s5 s36
          clear hN hD
          rintro a17 w17 hN hD ⟨s1, s0, s5, hGR, -⟩
          replace HB := below_step HB hGR
          clear hGR
          show Code.wp _ _ _ _ _
          refine wp_seq ?_
          refine deedL [.eq 39 (.slice A xs.length c), .eq 40 (.int .i64 i), .eq 41 (.pointer (some ((adr A).add (i.toNat * 12)))), .eq 42 (.pointer (some (((adr A).add (i.toNat * 12)).add 3))), .eq 43 (.pointer (some (((adr A).add (i.toNat * 12)).add 3))), .eq 44 (.slice ((gd xs i).A) ((gd xs i).o.deps.length) ((gd xs i).c)), .eq 45 (.int .i64 (l + 1 + 1 + 1)), .eq 46 (.int .i64 (held ((gd xs i).o.deps) (l + 1 + 1 + 1))), .eq 1 (.int .i64 (held ((gd xs i).o.deps) (l + 1 + 1 + 1))), .eq 0 (.slice A xs.length c), .eq 1 (.int .i64 (l + 1 + 1 + 1)), .eq 5 (.int .i64 i), .w (Below w17.heap.size w17)] 126 [[9], [11], [0, 1], [2], [3], [4, 12], [10], [5, 6, 12], [7]] [[], [], [], [], [], [], [], [], [10]] [8, 9, 11, 12] hM hN hD (by kernel_rfl) ⟨s0, s1, s5, ⟨Below.refl _ _, below_drew (Below.refl _ _)⟩, trivial⟩ ⟨fun _ _ hb h => below_step h hb, trivial⟩ (fun hgrow => ⟨fun _ _ h => rv rfl (x_move rfl h.1) rfl,
            fun _ _ h => rv rfl (x_move rfl h.1) rfl,
            fun _ _ h => rv rfl (x_index_at rfl h.1 h.2.1 Try.underlying27 sz67 (by omega) (by omega) (RV.ad HR1 i (by omega) (by omega))) rfl,
            fun _ _ h => rv rfl (x_field rfl h.1 Try.underlying67 rfl sz41 (by decide) rfl) rfl,
            fun _ _ h => rv rfl (x_field rfl h.1 Try.underlying41 rfl sz24 (by decide) rfl) rfl,
            fun _ _ h => rv rfl (x_load1 rfl h.1 Try.underlying24 rfl (RV.cell HR1 (below_step HB h.2.1) (by omega) (by omega) (j := 3) rfl)) rfl,
            fun _ _ h => rv rfl (x_move rfl h.1) rfl,
            fun _ _ h => rc hgrow rfl Try.func20 (by kernel_rfl) rfl rfl (args2 h.1 h.2.1) (heldI_calls ((gd xs i).A) ((gd xs i).o.deps) ((gd xs i).c) (l + 1 + 1 + 1) _ (RI.below (RV.inn HR1 (by omega) (by omega) rfl) (below_step HB h.2.2.1)) (by omega) (by omega)) (fun _ _ h => ⟨_, h.1, h.2, rfl⟩),
            fun _ _ h => rv rfl (x_assign rfl h.1) rfl, trivial⟩) ?_
          clear s0 s5 s1
          clear hN hD
          rintro a18 w18 hN hD ⟨s1, s0, s5, hGR, -⟩
          replace HB := below_step HB hGR
          clear hGR
          show Code.wp _ _ _ _ _
          refine wp_seq ?_
          refine wp_seq ?_
          refine deedL [.eq 47 (.int .i64 (held ((gd xs i).o.deps) (l + 1 + 1 + 1))), .eq 48 (.bool (decide (held ((gd xs i).o.deps) (l + 1 + 1 + 1) < 0))), .eq 0 (.slice A xs.length c), .eq 1 (.int .i64 (held ((gd xs i).o.deps) (l + 1 + 1 + 1))), .eq 5 (.int .i64 i), .w (Below w18.heap.size w18)] 126 [[3], [0]] [] [1, 2, 3, 4, 5] hM hN hD (by kernel_rfl) ⟨s0, s1, s5, ⟨Below.refl _ _, below_drew (Below.refl _ _)⟩, trivial⟩ ⟨fun _ _ hb h => below_step h hb, trivial⟩ (fun hgrow => ⟨fun _ _ h => rv rfl (x_move rfl h.1) rfl,
            fun _ _ h => rv rfl (x_lss rfl h.1 rfl) rfl, trivial⟩) ?_
          clear s0 s5 s1
          clear hN hD
          rintro a19 w19 hN hD ⟨s48, s0, s1, s5, hGR, -⟩
          replace HB := below_step HB hGR
          clear hGR
          show Code.wp _ _ _ _ _
          refine wp_cond (t := decide (held ((gd xs i).o.deps) (l + 1 + 1 + 1) < 0)) s48 ?_
          rcases Bool.eq_false_or_eq_true (decide (held ((gd xs i).o.deps) (l + 1 + 1 + 1) < 0)) with cd20 | cd20
          · rw [cd20]
            show Code.wp _ _ _ _ _
            have pd20 := of_decide_eq_true cd20
            have hs : (gd xs i).o.deps ≠ mk (l + 1 + 1 + 1) (gd xs i).o.deps.length := by rcases held_neg pd20 with u | u; exact u; exfalso; omega
            refine wp_seq ?_
            refine deedL [.eq 4 (.int .i64 (-1)), .w (Below w19.heap.size w19)] 126 [[]] [] [0, 1] hM hN hD (by kernel_rfl) ⟨⟨Below.refl _ _, below_drew (Below.refl _ _)⟩, trivial⟩ ⟨fun _ _ hb h => below_step h hb, trivial⟩ (fun hgrow => ⟨fun _ _ _ => rv rfl (x_assign rfl rfl) rfl, trivial⟩) ?_
            clear s0 s1 s5 s48
            clear hN hD
            rintro a21 w21 hN hD ⟨s4, hGR, -⟩
            replace HB := below_step HB hGR
            clear hGR
            show Code.wp _ _ _ _ _
            refine wp_ret (then_ret (blk_ret (then_ret (then_ret (blk_ret (then_ret ?_))))))
            refine bodyPost_ret (results_single rfl (vtmp s4 .nil)) hD ?_
            exact ⟨by rw [hh, held_no hi0 hi2 (fun h => hs (congrArg (fun x => x.o.deps) h))], HB⟩
          · rw [cd20]
            show Code.wp _ _ _ _ _
            have pd20 := of_decide_eq_false cd20
            have e3q := (held_ok pd20 (by omega)).1
            rw [(held_ok pd20 (by omega)).2] at s1
            refine wp_skip ?_
            show Code.wp _ _ _ _ _
            refine wp_seq ?_
            refine wp_seq ?_
            refine deedL [.eq 49 (.slice A xs.length c), .eq 50 (.int .i64 i), .eq 51 (.pointer (some ((adr A).add (i.toNat * 12)))), .eq 52 (.pointer (some (((adr A).add (i.toNat * 12)).add 4))), .eq 53 (.int .i64 ((gd xs i).o.kind)), .eq 54 (.int .i64 (l + 1 + 1 + 1 + ((gd xs i).o.deps.length : Int))), .eq 55 (.bool (((gd xs i).o.kind) != (l + 1 + 1 + 1 + ((gd xs i).o.deps.length : Int)))), .eq 0 (.slice A xs.length c), .eq 1 (.int .i64 (l + 1 + 1 + 1 + ((gd xs i).o.deps.length : Int))), .eq 5 (.int .i64 i), .w (Below w19.heap.size w19)] 126 [[7], [9], [0, 1], [2], [3, 10], [8], [4, 5]] [] [6, 7, 8, 9, 10] hM hN hD (by kernel_rfl) ⟨s0, s1, s5, ⟨Below.refl _ _, below_drew (Below.refl _ _)⟩, trivial⟩ ⟨fun _ _ hb h => below_step h hb, trivial⟩ (fun hgrow => ⟨fun _ _ h => rv rfl (x_move rfl h.1) rfl,
              fun _ _ h => rv rfl (x_move rfl h.1) rfl,
              fun _ _ h => rv rfl (x_index_at rfl h.1 h.2.1 Try.underlying27 sz67 (by omega) (by omega) (RV.ad HR1 i (by omega) (by omega))) rfl,
              fun _ _ h => rv rfl (x_field rfl h.1 Try.underlying67 rfl sz3 (by decide) rfl) rfl,
              fun _ _ h => rv rfl (x_load1 rfl h.1 Try.underlying3 rfl (RV.cell HR1 (below_step HB h.2.1) (by omega) (by omega) (j := 4) rfl)) rfl,
              fun _ _ h => rv rfl (x_move rfl h.1) rfl,
              fun _ _ h => rv rfl (x_neq rfl h.1 h.2.1) rfl, trivial⟩) ?_
            clear s0 s1 s5 s48
            clear hN hD
            rintro a22 w22 hN hD ⟨s55, s0, s1, s5, hGR, -⟩
            replace HB := below_step HB hGR
            clear hGR
            show Code.wp _ _ _ _ _
            refine wp_cond (t := ((gd xs i).o.kind) != (l + 1 + 1 + 1 + ((gd xs i).o.deps.length : Int))) s55 ?_
            rcases Bool.eq_false_or_eq_true (((gd xs i).o.kind) != (l + 1 + 1 + 1 + ((gd xs i).o.deps.length : Int))) with cd23 | cd23
            · rw [cd23]
              show Code.wp _ _ _ _ _
              have pd23 := cd23
              simp at pd23
              have hs : (gd xs i).o.kind ≠ l + 1 + 1 + 1 + ((gd xs i).o.deps.length : Int) := by simpa using cd23
              refine wp_seq ?_
              refine deedL [.eq 4 (.int .i64 (-1)), .w (Below w22.heap.size w22)] 126 [[]] [] [0, 1] hM hN hD (by kernel_rfl) ⟨⟨Below.refl _ _, below_drew (Below.refl _ _)⟩, trivial⟩ ⟨fun _ _ hb h => below_step h hb, trivial⟩ (fun hgrow => ⟨fun _ _ _ => rv rfl (x_assign rfl rfl) rfl, trivial⟩) ?_
              clear s0 s1 s5 s55
              clear hN hD
              rintro a24 w24 hN hD ⟨s4, hGR, -⟩
              replace HB := below_step HB hGR
              clear hGR
              show Code.wp _ _ _ _ _
              refine wp_ret (then_ret (blk_ret (then_ret (then_ret (blk_ret (then_ret ?_))))))
              refine bodyPost_ret (results_single rfl (vtmp s4 .nil)) hD ?_
              exact ⟨by rw [hh, held_no hi0 hi2 (fun h => hs (congrArg (fun x => x.o.kind) h))], HB⟩
            · rw [cd23]
              show Code.wp _ _ _ _ _
              have pd23 := cd23
              simp at pd23
              have e4q : (gd xs i).o.kind = l + 1 + 1 + 1 + ((gd xs i).o.deps.length : Int) := by simpa using cd23
              refine wp_skip ?_
              show Code.wp _ _ _ _ _
              refine wp_seq ?_
              refine deedL [.eq 56 (.int .i64 (l + 1 + 1 + 1 + ((gd xs i).o.deps.length : Int))), .eq 57 (.int .i64 (l + 1 + 1 + 1 + ((gd xs i).o.deps.length : Int) + 1)), .eq 1 (.int .i64 (l + 1 + 1 + 1 + ((gd xs i).o.deps.length : Int) + 1)), .eq 0 (.slice A xs.length c), .eq 1 (.int .i64 (l + 1 + 1 + 1 + ((gd xs i).o.deps.length : Int))), .eq 5 (.int .i64 i), .w (Below w22.heap.size w22)] 126 [[4], [0], [1]] [[], [], [4]] [2, 3, 5, 6] hM hN hD (by kernel_rfl) ⟨s0, s1, s5, ⟨Below.refl _ _, below_drew (Below.refl _ _)⟩, trivial⟩ ⟨fun _ _ hb h => below_step h hb, trivial⟩ (fun hgrow => ⟨fun _ _ h => rv rfl (x_move rfl h.1) rfl,
                fun _ _ h => rv rfl (x_add' rfl h.1 rfl (by omega)) rfl,
                fun _ _ h => rv rfl (x_assign rfl h.1) rfl, trivial⟩) ?_
              clear s0 s1 s5 s55
              clear hN hD
              rintro a25 w25 hN hD ⟨s1, s0, s5, hGR, -⟩
              replace HB := below_step HB hGR
              clear hGR
              show Code.wp _ _ _ _ _
              refine wp_seq ?_
              refine wp_seq ?_
              refine deedL [.eq 58 (.slice A xs.length c), .eq 59 (.int .i64 i), .eq 60 (.pointer (some ((adr A).add (i.toNat * 12)))), .eq 61 (.pointer (some (((adr A).add (i.toNat * 12)).add 5))), .eq 62 (.int .i64 ((gd xs i).o.obj)), .eq 63 (.int .i64 (l + 1 + 1 + 1 + ((gd xs i).o.deps.length : Int) + 1)), .eq 64 (.bool (((gd xs i).o.obj) != (l + 1 + 1 + 1 + ((gd xs i).o.deps.length : Int) + 1))), .eq 0 (.slice A xs.length c), .eq 1 (.int .i64 (l + 1 + 1 + 1 + ((gd xs i).o.deps.length : Int) + 1)), .eq 5 (.int .i64 i), .w (Below w25.heap.size w25)] 126 [[7], [9], [0, 1], [2], [3, 10], [8], [4, 5]] [] [6, 7, 8, 9, 10] hM hN hD (by kernel_rfl) ⟨s0, s1, s5, ⟨Below.refl _ _, below_drew (Below.refl _ _)⟩, trivial⟩ ⟨fun _ _ hb h => below_step h hb, trivial⟩ (fun hgrow => ⟨fun _ _ h => rv rfl (x_move rfl h.1) rfl,
                fun _ _ h => rv rfl (x_move rfl h.1) rfl,
                fun _ _ h => rv rfl (x_index_at rfl h.1 h.2.1 Try.underlying27 sz67 (by omega) (by omega) (RV.ad HR1 i (by omega) (by omega))) rfl,
                fun _ _ h => rv rfl (x_field rfl h.1 Try.underlying67 rfl sz3 (by decide) rfl) rfl,
                fun _ _ h => rv rfl (x_load1 rfl h.1 Try.underlying3 rfl (RV.cell HR1 (below_step HB h.2.1) (by omega) (by omega) (j := 5) rfl)) rfl,
                fun _ _ h => rv rfl (x_move rfl h.1) rfl,
                fun _ _ h => rv rfl (x_neq rfl h.1 h.2.1) rfl, trivial⟩) ?_
              clear s0 s5 s1
              clear hN hD
              rintro a26 w26 hN hD ⟨s64, s0, s1, s5, hGR, -⟩
              replace HB := below_step HB hGR
              clear hGR
              show Code.wp _ _ _ _ _
              refine wp_cond (t := ((gd xs i).o.obj) != (l + 1 + 1 + 1 + ((gd xs i).o.deps.length : Int) + 1)) s64 ?_
              rcases Bool.eq_false_or_eq_true (((gd xs i).o.obj) != (l + 1 + 1 + 1 + ((gd xs i).o.deps.length : Int) + 1)) with cd27 | cd27
              · rw [cd27]
                show Code.wp _ _ _ _ _
                have pd27 := cd27
                simp at pd27
                have hs : (gd xs i).o.obj ≠ l + 1 + 1 + 1 + ((gd xs i).o.deps.length : Int) + 1 := by simpa using cd27
                refine wp_seq ?_
                refine deedL [.eq 4 (.int .i64 (-1)), .w (Below w26.heap.size w26)] 126 [[]] [] [0, 1] hM hN hD (by kernel_rfl) ⟨⟨Below.refl _ _, below_drew (Below.refl _ _)⟩, trivial⟩ ⟨fun _ _ hb h => below_step h hb, trivial⟩ (fun hgrow => ⟨fun _ _ _ => rv rfl (x_assign rfl rfl) rfl, trivial⟩) ?_
                clear s0 s1 s5 s64
                clear hN hD
                rintro a28 w28 hN hD ⟨s4, hGR, -⟩
                replace HB := below_step HB hGR
                clear hGR
                show Code.wp _ _ _ _ _
                refine wp_ret (then_ret (blk_ret (then_ret (then_ret (blk_ret (then_ret ?_))))))
                refine bodyPost_ret (results_single rfl (vtmp s4 .nil)) hD ?_
                exact ⟨by rw [hh, held_no hi0 hi2 (fun h => hs (congrArg (fun x => x.o.obj) h))], HB⟩
              · rw [cd27]
                show Code.wp _ _ _ _ _
                have pd27 := cd27
                simp at pd27
                have e5q : (gd xs i).o.obj = l + 1 + 1 + 1 + ((gd xs i).o.deps.length : Int) + 1 := by simpa using cd27
                refine wp_skip ?_
                show Code.wp _ _ _ _ _
                refine wp_seq ?_
                refine deedL [.eq 65 (.int .i64 (l + 1 + 1 + 1 + ((gd xs i).o.deps.length : Int) + 1)), .eq 66 (.int .i64 (l + 1 + 1 + 1 + ((gd xs i).o.deps.length : Int) + 1 + 1)), .eq 1 (.int .i64 (l + 1 + 1 + 1 + ((gd xs i).o.deps.length : Int) + 1 + 1)), .eq 0 (.slice A xs.length c), .eq 1 (.int .i64 (l + 1 + 1 + 1 + ((gd xs i).o.deps.length : Int) + 1)), .eq 5 (.int .i64 i), .w (Below w26.heap.size w26)] 126 [[4], [0], [1]] [[], [], [4]] [2, 3, 5, 6] hM hN hD (by kernel_rfl) ⟨s0, s1, s5, ⟨Below.refl _ _, below_drew (Below.refl _ _)⟩, trivial⟩ ⟨fun _ _ hb h => below_step h hb, trivial⟩ (fun hgrow => ⟨fun _ _ h => rv rfl (x_move rfl h.1) rfl,
                  fun _ _ h => rv rfl (x_add' rfl h.1 rfl (by omega)) rfl,
                  fun _ _ h => rv rfl (x_assign rfl h.1) rfl, trivial⟩) ?_
                clear s0 s1 s5 s64
                clear hN hD
                rintro a29 w29 hN hD ⟨s1, s0, s5, hGR, -⟩
                replace HB := below_step HB hGR
                clear hGR
                show Code.wp _ _ _ _ _
                refine wp_seq ?_
                refine wp_seq ?_
                refine deedL [.eq 67 (.slice A xs.length c), .eq 68 (.int .i64 i), .eq 69 (.pointer (some ((adr A).add (i.toNat * 12)))), .eq 70 (.pointer (some (((adr A).add (i.toNat * 12)).add 6))), .eq 71 (.int .i64 ((gd xs i).o.num)), .eq 72 (.int .i64 (l + 1 + 1 + 1 + ((gd xs i).o.deps.length : Int) + 1 + 1)), .eq 73 (.bool (((gd xs i).o.num) != (l + 1 + 1 + 1 + ((gd xs i).o.deps.length : Int) + 1 + 1))), .eq 0 (.slice A xs.length c), .eq 1 (.int .i64 (l + 1 + 1 + 1 + ((gd xs i).o.deps.length : Int) + 1 + 1)), .eq 5 (.int .i64 i), .w (Below w29.heap.size w29)] 126 [[7], [9], [0, 1], [2], [3, 10], [8], [4, 5]] [] [6, 7, 8, 9, 10] hM hN hD (by kernel_rfl) ⟨s0, s1, s5, ⟨Below.refl _ _, below_drew (Below.refl _ _)⟩, trivial⟩ ⟨fun _ _ hb h => below_step h hb, trivial⟩ (fun hgrow => ⟨fun _ _ h => rv rfl (x_move rfl h.1) rfl,
                  fun _ _ h => rv rfl (x_move rfl h.1) rfl,
                  fun _ _ h => rv rfl (x_index_at rfl h.1 h.2.1 Try.underlying27 sz67 (by omega) (by omega) (RV.ad HR1 i (by omega) (by omega))) rfl,
                  fun _ _ h => rv rfl (x_field rfl h.1 Try.underlying67 rfl sz3 (by decide) rfl) rfl,
                  fun _ _ h => rv rfl (x_load1 rfl h.1 Try.underlying3 rfl (RV.cell HR1 (below_step HB h.2.1) (by omega) (by omega) (j := 6) rfl)) rfl,
                  fun _ _ h => rv rfl (x_move rfl h.1) rfl,
                  fun _ _ h => rv rfl (x_neq rfl h.1 h.2.1) rfl, trivial⟩) ?_
                clear s0 s5 s1
                clear hN hD
                rintro a30 w30 hN hD ⟨s73, s0, s1, s5, hGR, -⟩
                replace HB := below_step HB hGR
                clear hGR
                show Code.wp _ _ _ _ _
                refine wp_cond (t := ((gd xs i).o.num) != (l + 1 + 1 + 1 + ((gd xs i).o.deps.length : Int) + 1 + 1)) s73 ?_
                rcases Bool.eq_false_or_eq_true (((gd xs i).o.num) != (l + 1 + 1 + 1 + ((gd xs i).o.deps.length : Int) + 1 + 1)) with cd31 | cd31
                · rw [cd31]
                  show Code.wp _ _ _ _ _
                  have pd31 := cd31
                  simp at pd31
                  have hs : (gd xs i).o.num ≠ l + 1 + 1 + 1 + ((gd xs i).o.deps.length : Int) + 1 + 1 := by simpa using cd31
                  refine wp_seq ?_
                  refine deedL [.eq 4 (.int .i64 (-1)), .w (Below w30.heap.size w30)] 126 [[]] [] [0, 1] hM hN hD (by kernel_rfl) ⟨⟨Below.refl _ _, below_drew (Below.refl _ _)⟩, trivial⟩ ⟨fun _ _ hb h => below_step h hb, trivial⟩ (fun hgrow => ⟨fun _ _ _ => rv rfl (x_assign rfl rfl) rfl, trivial⟩) ?_
                  clear s0 s1 s5 s73
                  clear hN hD
                  rintro a32 w32 hN hD ⟨s4, hGR, -⟩
                  replace HB := below_step HB hGR
                  clear hGR
                  show Code.wp _ _ _ _ _
                  refine wp_ret (then_ret (blk_ret (then_ret (then_ret (blk_ret (then_ret ?_))))))
                  refine bodyPost_ret (results_single rfl (vtmp s4 .nil)) hD ?_
                  exact ⟨by rw [hh, held_no hi0 hi2 (fun h => hs (congrArg (fun x => x.o.num) h))], HB⟩
                · rw [cd31]
                  show Code.wp _ _ _ _ _
                  have pd31 := cd31
                  simp at pd31
                  have e6q : (gd xs i).o.num = l + 1 + 1 + 1 + ((gd xs i).o.deps.length : Int) + 1 + 1 := by simpa using cd31
                  refine wp_skip ?_
                  show Code.wp _ _ _ _ _
                  refine wp_seq ?_
                  refine deedL [.eq 74 (.int .i64 (l + 1 + 1 + 1 + ((gd xs i).o.deps.length : Int) + 1 + 1)), .eq 75 (.int .i64 (l + 1 + 1 + 1 + ((gd xs i).o.deps.length : Int) + 1 + 1 + 1)), .eq 1 (.int .i64 (l + 1 + 1 + 1 + ((gd xs i).o.deps.length : Int) + 1 + 1 + 1)), .eq 0 (.slice A xs.length c), .eq 1 (.int .i64 (l + 1 + 1 + 1 + ((gd xs i).o.deps.length : Int) + 1 + 1)), .eq 5 (.int .i64 i), .w (Below w30.heap.size w30)] 126 [[4], [0], [1]] [[], [], [4]] [2, 3, 5, 6] hM hN hD (by kernel_rfl) ⟨s0, s1, s5, ⟨Below.refl _ _, below_drew (Below.refl _ _)⟩, trivial⟩ ⟨fun _ _ hb h => below_step h hb, trivial⟩ (fun hgrow => ⟨fun _ _ h => rv rfl (x_move rfl h.1) rfl,
                    fun _ _ h => rv rfl (x_add' rfl h.1 rfl (by omega)) rfl,
                    fun _ _ h => rv rfl (x_assign rfl h.1) rfl, trivial⟩) ?_
                  clear s0 s1 s5 s73
                  clear hN hD
                  rintro a33 w33 hN hD ⟨s1, s0, s5, hGR, -⟩
                  replace HB := below_step HB hGR
                  clear hGR
                  show Code.wp _ _ _ _ _
                  refine wp_seq ?_
                  refine wp_seq ?_
                  refine deedL [.eq 76 (.slice A xs.length c), .eq 77 (.int .i64 i), .eq 78 (.pointer (some ((adr A).add (i.toNat * 12)))), .eq 79 (.pointer (some (((adr A).add (i.toNat * 12)).add 7))), .eq 80 (.int .i64 ((gd xs i).o.undo)), .eq 81 (.int .i64 (l + 1 + 1 + 1 + ((gd xs i).o.deps.length : Int) + 1 + 1 + 1)), .eq 82 (.bool (((gd xs i).o.undo) != (l + 1 + 1 + 1 + ((gd xs i).o.deps.length : Int) + 1 + 1 + 1))), .eq 0 (.slice A xs.length c), .eq 1 (.int .i64 (l + 1 + 1 + 1 + ((gd xs i).o.deps.length : Int) + 1 + 1 + 1)), .eq 5 (.int .i64 i), .w (Below w33.heap.size w33)] 126 [[7], [9], [0, 1], [2], [3, 10], [8], [4, 5]] [] [6, 7, 8, 9, 10] hM hN hD (by kernel_rfl) ⟨s0, s1, s5, ⟨Below.refl _ _, below_drew (Below.refl _ _)⟩, trivial⟩ ⟨fun _ _ hb h => below_step h hb, trivial⟩ (fun hgrow => ⟨fun _ _ h => rv rfl (x_move rfl h.1) rfl,
                    fun _ _ h => rv rfl (x_move rfl h.1) rfl,
                    fun _ _ h => rv rfl (x_index_at rfl h.1 h.2.1 Try.underlying27 sz67 (by omega) (by omega) (RV.ad HR1 i (by omega) (by omega))) rfl,
                    fun _ _ h => rv rfl (x_field rfl h.1 Try.underlying67 rfl sz3 (by decide) rfl) rfl,
                    fun _ _ h => rv rfl (x_load1 rfl h.1 Try.underlying3 rfl (RV.cell HR1 (below_step HB h.2.1) (by omega) (by omega) (j := 7) rfl)) rfl,
                    fun _ _ h => rv rfl (x_move rfl h.1) rfl,
                    fun _ _ h => rv rfl (x_neq rfl h.1 h.2.1) rfl, trivial⟩) ?_
                  clear s0 s5 s1
                  clear hN hD
                  rintro a34 w34 hN hD ⟨s82, s0, s1, s5, hGR, -⟩
                  replace HB := below_step HB hGR
                  clear hGR
                  show Code.wp _ _ _ _ _
                  refine wp_cond (t := ((gd xs i).o.undo) != (l + 1 + 1 + 1 + ((gd xs i).o.deps.length : Int) + 1 + 1 + 1)) s82 ?_
                  rcases Bool.eq_false_or_eq_true (((gd xs i).o.undo) != (l + 1 + 1 + 1 + ((gd xs i).o.deps.length : Int) + 1 + 1 + 1)) with cd35 | cd35
                  · rw [cd35]
                    show Code.wp _ _ _ _ _
                    have pd35 := cd35
                    simp at pd35
                    have hs : (gd xs i).o.undo ≠ l + 1 + 1 + 1 + ((gd xs i).o.deps.length : Int) + 1 + 1 + 1 := by simpa using cd35
                    refine wp_seq ?_
                    refine deedL [.eq 4 (.int .i64 (-1)), .w (Below w34.heap.size w34)] 126 [[]] [] [0, 1] hM hN hD (by kernel_rfl) ⟨⟨Below.refl _ _, below_drew (Below.refl _ _)⟩, trivial⟩ ⟨fun _ _ hb h => below_step h hb, trivial⟩ (fun hgrow => ⟨fun _ _ _ => rv rfl (x_assign rfl rfl) rfl, trivial⟩) ?_
                    clear s0 s1 s5 s82
                    clear hN hD
                    rintro a36 w36 hN hD ⟨s4, hGR, -⟩
                    replace HB := below_step HB hGR
                    clear hGR
                    show Code.wp _ _ _ _ _
                    refine wp_ret (then_ret (blk_ret (then_ret (then_ret (blk_ret (then_ret ?_))))))
                    refine bodyPost_ret (results_single rfl (vtmp s4 .nil)) hD ?_
                    exact ⟨by rw [hh, held_no hi0 hi2 (fun h => hs (congrArg (fun x => x.o.undo) h))], HB⟩
                  · rw [cd35]
                    show Code.wp _ _ _ _ _
                    have pd35 := cd35
                    simp at pd35
                    have e7q : (gd xs i).o.undo = l + 1 + 1 + 1 + ((gd xs i).o.deps.length : Int) + 1 + 1 + 1 := by simpa using cd35
                    refine wp_skip ?_
                    show Code.wp _ _ _ _ _
                    refine wp_seq ?_
                    refine deedL [.eq 83 (.int .i64 (l + 1 + 1 + 1 + ((gd xs i).o.deps.length : Int) + 1 + 1 + 1)), .eq 84 (.int .i64 (l + 1 + 1 + 1 + ((gd xs i).o.deps.length : Int) + 1 + 1 + 1 + 1)), .eq 1 (.int .i64 (l + 1 + 1 + 1 + ((gd xs i).o.deps.length : Int) + 1 + 1 + 1 + 1)), .eq 0 (.slice A xs.length c), .eq 1 (.int .i64 (l + 1 + 1 + 1 + ((gd xs i).o.deps.length : Int) + 1 + 1 + 1)), .eq 5 (.int .i64 i), .w (Below w34.heap.size w34)] 126 [[4], [0], [1]] [[], [], [4]] [2, 3, 5, 6] hM hN hD (by kernel_rfl) ⟨s0, s1, s5, ⟨Below.refl _ _, below_drew (Below.refl _ _)⟩, trivial⟩ ⟨fun _ _ hb h => below_step h hb, trivial⟩ (fun hgrow => ⟨fun _ _ h => rv rfl (x_move rfl h.1) rfl,
                      fun _ _ h => rv rfl (x_add' rfl h.1 rfl (by omega)) rfl,
                      fun _ _ h => rv rfl (x_assign rfl h.1) rfl, trivial⟩) ?_
                    clear s0 s1 s5 s82
                    clear hN hD
                    rintro a37 w37 hN hD ⟨s1, s0, s5, hGR, -⟩
                    replace HB := below_step HB hGR
                    clear hGR
                    show Code.wp _ _ _ _ _
                    refine wp_seq ?_
                    refine wp_seq ?_
                    refine deedL [.eq 85 (.slice A xs.length c), .eq 86 (.int .i64 i), .eq 87 (.pointer (some ((adr A).add (i.toNat * 12)))), .eq 88 (.pointer (some (((adr A).add (i.toNat * 12)).add 8))), .eq 89 (.pointer (some (((adr A).add (i.toNat * 12)).add 8))), .eq 90 (.int .i64 ((gd xs i).o.att)), .eq 91 (.int .i64 (l + 1 + 1 + 1 + ((gd xs i).o.deps.length : Int) + 1 + 1 + 1 + 1)), .eq 92 (.bool (((gd xs i).o.att) != (l + 1 + 1 + 1 + ((gd xs i).o.deps.length : Int) + 1 + 1 + 1 + 1))), .eq 0 (.slice A xs.length c), .eq 1 (.int .i64 (l + 1 + 1 + 1 + ((gd xs i).o.deps.length : Int) + 1 + 1 + 1 + 1)), .eq 5 (.int .i64 i), .w (Below w37.heap.size w37)] 126 [[8], [10], [0, 1], [2], [3], [4, 11], [9], [5, 6]] [] [7, 8, 9, 10, 11] hM hN hD (by kernel_rfl) ⟨s0, s1, s5, ⟨Below.refl _ _, below_drew (Below.refl _ _)⟩, trivial⟩ ⟨fun _ _ hb h => below_step h hb, trivial⟩ (fun hgrow => ⟨fun _ _ h => rv rfl (x_move rfl h.1) rfl,
                      fun _ _ h => rv rfl (x_move rfl h.1) rfl,
                      fun _ _ h => rv rfl (x_index_at rfl h.1 h.2.1 Try.underlying27 sz67 (by omega) (by omega) (RV.ad HR1 i (by omega) (by omega))) rfl,
                      fun _ _ h => rv rfl (x_field rfl h.1 Try.underlying67 rfl sz65 (by decide) rfl) rfl,
                      fun _ _ h => rv rfl (x_field rfl h.1 Try.underlying65 rfl sz3 (by decide) rfl) rfl,
                      fun _ _ h => rv rfl (x_load1 rfl h.1 Try.underlying3 rfl (RV.cell HR1 (below_step HB h.2.1) (by omega) (by omega) (j := 8) rfl)) rfl,
                      fun _ _ h => rv rfl (x_move rfl h.1) rfl,
                      fun _ _ h => rv rfl (x_neq rfl h.1 h.2.1) rfl, trivial⟩) ?_
                    clear s0 s5 s1
                    clear hN hD
                    rintro a38 w38 hN hD ⟨s92, s0, s1, s5, hGR, -⟩
                    replace HB := below_step HB hGR
                    clear hGR
                    show Code.wp _ _ _ _ _
                    refine wp_cond (t := ((gd xs i).o.att) != (l + 1 + 1 + 1 + ((gd xs i).o.deps.length : Int) + 1 + 1 + 1 + 1)) s92 ?_
                    rcases Bool.eq_false_or_eq_true (((gd xs i).o.att) != (l + 1 + 1 + 1 + ((gd xs i).o.deps.length : Int) + 1 + 1 + 1 + 1)) with cd39 | cd39
                    · rw [cd39]
                      show Code.wp _ _ _ _ _
                      have pd39 := cd39
                      simp at pd39
                      have hs : (gd xs i).o.att ≠ l + 1 + 1 + 1 + ((gd xs i).o.deps.length : Int) + 1 + 1 + 1 + 1 := by simpa using cd39
                      refine wp_seq ?_
                      refine deedL [.eq 4 (.int .i64 (-1)), .w (Below w38.heap.size w38)] 126 [[]] [] [0, 1] hM hN hD (by kernel_rfl) ⟨⟨Below.refl _ _, below_drew (Below.refl _ _)⟩, trivial⟩ ⟨fun _ _ hb h => below_step h hb, trivial⟩ (fun hgrow => ⟨fun _ _ _ => rv rfl (x_assign rfl rfl) rfl, trivial⟩) ?_
                      clear s0 s1 s5 s92
                      clear hN hD
                      rintro a40 w40 hN hD ⟨s4, hGR, -⟩
                      replace HB := below_step HB hGR
                      clear hGR
                      show Code.wp _ _ _ _ _
                      refine wp_ret (then_ret (blk_ret (then_ret (then_ret (blk_ret (then_ret ?_))))))
                      refine bodyPost_ret (results_single rfl (vtmp s4 .nil)) hD ?_
                      exact ⟨by rw [hh, held_no hi0 hi2 (fun h => hs (congrArg (fun x => x.o.att) h))], HB⟩
                    · rw [cd39]
                      show Code.wp _ _ _ _ _
                      have pd39 := cd39
                      simp at pd39
                      have e8q : (gd xs i).o.att = l + 1 + 1 + 1 + ((gd xs i).o.deps.length : Int) + 1 + 1 + 1 + 1 := by simpa using cd39
                      refine wp_skip ?_
                      show Code.wp _ _ _ _ _
                      refine wp_seq ?_
                      refine deedL [.eq 93 (.int .i64 (l + 1 + 1 + 1 + ((gd xs i).o.deps.length : Int) + 1 + 1 + 1 + 1)), .eq 94 (.int .i64 (l + 1 + 1 + 1 + ((gd xs i).o.deps.length : Int) + 1 + 1 + 1 + 1 + 1)), .eq 1 (.int .i64 (l + 1 + 1 + 1 + ((gd xs i).o.deps.length : Int) + 1 + 1 + 1 + 1 + 1)), .eq 0 (.slice A xs.length c), .eq 1 (.int .i64 (l + 1 + 1 + 1 + ((gd xs i).o.deps.length : Int) + 1 + 1 + 1 + 1)), .eq 5 (.int .i64 i), .w (Below w38.heap.size w38)] 126 [[4], [0], [1]] [[], [], [4]] [2, 3, 5, 6] hM hN hD (by kernel_rfl) ⟨s0, s1, s5, ⟨Below.refl _ _, below_drew (Below.refl _ _)⟩, trivial⟩ ⟨fun _ _ hb h => below_step h hb, trivial⟩ (fun hgrow => ⟨fun _ _ h => rv rfl (x_move rfl h.1) rfl,
                        fun _ _ h => rv rfl (x_add' rfl h.1 rfl (by omega)) rfl,
                        fun _ _ h => rv rfl (x_assign rfl h.1) rfl, trivial⟩) ?_
                      clear s0 s1 s5 s92
                      clear hN hD
                      rintro a41 w41 hN hD ⟨s1, s0, s5, hGR, -⟩
                      replace HB := below_step HB hGR
                      clear hGR
                      show Code.wp _ _ _ _ _
                      refine wp_seq ?_
                      refine wp_seq ?_
                      refine deedL [.eq 95 (.slice A xs.length c), .eq 96 (.int .i64 i), .eq 97 (.pointer (some ((adr A).add (i.toNat * 12)))), .eq 98 (.pointer (some (((adr A).add (i.toNat * 12)).add 8))), .eq 99 (.pointer (some ((((adr A).add (i.toNat * 12)).add 8).add 1))), .eq 100 (.int .i64 ((gd xs i).o.ata)), .eq 101 (.int .i64 (l + 1 + 1 + 1 + ((gd xs i).o.deps.length : Int) + 1 + 1 + 1 + 1 + 1)), .eq 102 (.bool (((gd xs i).o.ata) != (l + 1 + 1 + 1 + ((gd xs i).o.deps.length : Int) + 1 + 1 + 1 + 1 + 1))), .eq 0 (.slice A xs.length c), .eq 1 (.int .i64 (l + 1 + 1 + 1 + ((gd xs i).o.deps.length : Int) + 1 + 1 + 1 + 1 + 1)), .eq 5 (.int .i64 i), .w (Below w41.heap.size w41)] 126 [[8], [10], [0, 1], [2], [3], [4, 11], [9], [5, 6]] [] [7, 8, 9, 10, 11] hM hN hD (by kernel_rfl) ⟨s0, s1, s5, ⟨Below.refl _ _, below_drew (Below.refl _ _)⟩, trivial⟩ ⟨fun _ _ hb h => below_step h hb, trivial⟩ (fun hgrow => ⟨fun _ _ h => rv rfl (x_move rfl h.1) rfl,
                        fun _ _ h => rv rfl (x_move rfl h.1) rfl,
                        fun _ _ h => rv rfl (x_index_at rfl h.1 h.2.1 Try.underlying27 sz67 (by omega) (by omega) (RV.ad HR1 i (by omega) (by omega))) rfl,
                        fun _ _ h => rv rfl (x_field rfl h.1 Try.underlying67 rfl sz65 (by decide) rfl) rfl,
                        fun _ _ h => rv rfl (x_field rfl h.1 Try.underlying65 rfl sz3 (by decide) rfl) rfl,
                        fun _ _ h => rv rfl (x_load1 rfl h.1 Try.underlying3 rfl (RV.cell HR1 (below_step HB h.2.1) (by omega) (by omega) (j := 9) rfl)) rfl,
                        fun _ _ h => rv rfl (x_move rfl h.1) rfl,
                        fun _ _ h => rv rfl (x_neq rfl h.1 h.2.1) rfl, trivial⟩) ?_
                      clear s0 s5 s1
                      clear hN hD
                      rintro a42 w42 hN hD ⟨s102, s0, s1, s5, hGR, -⟩
                      replace HB := below_step HB hGR
                      clear hGR
                      show Code.wp _ _ _ _ _
                      refine wp_cond (t := ((gd xs i).o.ata) != (l + 1 + 1 + 1 + ((gd xs i).o.deps.length : Int) + 1 + 1 + 1 + 1 + 1)) s102 ?_
                      rcases Bool.eq_false_or_eq_true (((gd xs i).o.ata) != (l + 1 + 1 + 1 + ((gd xs i).o.deps.length : Int) + 1 + 1 + 1 + 1 + 1)) with cd43 | cd43
                      · rw [cd43]
                        show Code.wp _ _ _ _ _
                        have pd43 := cd43
                        simp at pd43
                        have hs : (gd xs i).o.ata ≠ l + 1 + 1 + 1 + ((gd xs i).o.deps.length : Int) + 1 + 1 + 1 + 1 + 1 := by simpa using cd43
                        refine wp_seq ?_
                        refine deedL [.eq 4 (.int .i64 (-1)), .w (Below w42.heap.size w42)] 126 [[]] [] [0, 1] hM hN hD (by kernel_rfl) ⟨⟨Below.refl _ _, below_drew (Below.refl _ _)⟩, trivial⟩ ⟨fun _ _ hb h => below_step h hb, trivial⟩ (fun hgrow => ⟨fun _ _ _ => rv rfl (x_assign rfl rfl) rfl, trivial⟩) ?_
                        clear s0 s1 s5 s102
                        clear hN hD
                        rintro a44 w44 hN hD ⟨s4, hGR, -⟩
                        replace HB := below_step HB hGR
                        clear hGR
                        show Code.wp _ _ _ _ _
                        refine wp_ret (then_ret (blk_ret (then_ret (then_ret (blk_ret (then_ret ?_))))))
                        refine bodyPost_ret (results_single rfl (vtmp s4 .nil)) hD ?_
                        exact ⟨by rw [hh, held_no hi0 hi2 (fun h => hs (congrArg (fun x => x.o.ata) h))], HB⟩
                      · rw [cd43]
                        show Code.wp _ _ _ _ _
                        have pd43 := cd43
                        simp at pd43
                        have e9q : (gd xs i).o.ata = l + 1 + 1 + 1 + ((gd xs i).o.deps.length : Int) + 1 + 1 + 1 + 1 + 1 := by simpa using cd43
                        refine wp_skip ?_
                        show Code.wp _ _ _ _ _
                        refine wp_seq ?_
                        refine deedL [.eq 103 (.int .i64 (l + 1 + 1 + 1 + ((gd xs i).o.deps.length : Int) + 1 + 1 + 1 + 1 + 1)), .eq 104 (.int .i64 (l + 1 + 1 + 1 + ((gd xs i).o.deps.length : Int) + 1 + 1 + 1 + 1 + 1 + 1)), .eq 1 (.int .i64 (l + 1 + 1 + 1 + ((gd xs i).o.deps.length : Int) + 1 + 1 + 1 + 1 + 1 + 1)), .eq 0 (.slice A xs.length c), .eq 1 (.int .i64 (l + 1 + 1 + 1 + ((gd xs i).o.deps.length : Int) + 1 + 1 + 1 + 1 + 1)), .eq 5 (.int .i64 i), .w (Below w42.heap.size w42)] 126 [[4], [0], [1]] [[], [], [4]] [2, 3, 5, 6] hM hN hD (by kernel_rfl) ⟨s0, s1, s5, ⟨Below.refl _ _, below_drew (Below.refl _ _)⟩, trivial⟩ ⟨fun _ _ hb h => below_step h hb, trivial⟩ (fun hgrow => ⟨fun _ _ h => rv rfl (x_move rfl h.1) rfl,
                          fun _ _ h => rv rfl (x_add' rfl h.1 rfl (by omega)) rfl,
                          fun _ _ h => rv rfl (x_assign rfl h.1) rfl, trivial⟩) ?_
                        clear s0 s1 s5 s102
                        clear hN hD
                        rintro a45 w45 hN hD ⟨s1, s0, s5, hGR, -⟩
                        replace HB := below_step HB hGR
                        clear hGR
                        show Code.wp _ _ _ _ _
                        refine wp_seq ?_
                        refine wp_seq ?_
                        refine deedL [.eq 105 (.slice A xs.length c), .eq 106 (.int .i64 i), .eq 107 (.pointer (some ((adr A).add (i.toNat * 12)))), .eq 108 (.pointer (some (((adr A).add (i.toNat * 12)).add 10))), .eq 109 (.string ((gd xs i).o.key)), .eq 110 (.int .i64 (l + 1 + 1 + 1 + ((gd xs i).o.deps.length : Int) + 1 + 1 + 1 + 1 + 1 + 1)), .eq 111 (.string (mtext (l + 1 + 1 + 1 + ((gd xs i).o.deps.length : Int) + 1 + 1 + 1 + 1 + 1 + 1))), .eq 112 (.bool (!(((gd xs i).o.key).toList == (mtext (l + 1 + 1 + 1 + ((gd xs i).o.deps.length : Int) + 1 + 1 + 1 + 1 + 1 + 1)).toList))), .eq 0 (.slice A xs.length c), .eq 1 (.int .i64 (l + 1 + 1 + 1 + ((gd xs i).o.deps.length : Int) + 1 + 1 + 1 + 1 + 1 + 1)), .eq 5 (.int .i64 i), .w (Below w45.heap.size w45)] 126 [[8], [10], [0, 1], [2], [3, 11], [9], [5], [4, 6]] [] [7, 8, 9, 10, 11] hM hN hD (by kernel_rfl) ⟨s0, s1, s5, ⟨Below.refl _ _, below_drew (Below.refl _ _)⟩, trivial⟩ ⟨fun _ _ hb h => below_step h hb, trivial⟩ (fun hgrow => ⟨fun _ _ h => rv rfl (x_move rfl h.1) rfl,
                          fun _ _ h => rv rfl (x_move rfl h.1) rfl,
                          fun _ _ h => rv rfl (x_index_at rfl h.1 h.2.1 Try.underlying27 sz67 (by omega) (by omega) (RV.ad HR1 i (by omega) (by omega))) rfl,
                          fun _ _ h => rv rfl (x_field rfl h.1 Try.underlying67 rfl sz9 (by decide) rfl) rfl,
                          fun _ _ h => rv rfl (x_load1 rfl h.1 Try.underlying9 rfl (RV.cell HR1 (below_step HB h.2.1) (by omega) (by omega) (j := 10) rfl)) rfl,
                          fun _ _ h => rv rfl (x_move rfl h.1) rfl,
                          fun _ _ h => rc hgrow rfl Try.func52 (by kernel_rfl) rfl rfl (args1 h.1) (mtext_calls (l + 1 + 1 + 1 + ((gd xs i).o.deps.length : Int) + 1 + 1 + 1 + 1 + 1 + 1) _ (by omega)) (fun _ _ h => ⟨_, h.1, h.2, rfl⟩),
                          fun _ _ h => rv rfl (x_sneq rfl h.1 h.2.1) rfl, trivial⟩) ?_
                        clear s0 s5 s1
                        clear hN hD
                        rintro a46 w46 hN hD ⟨s112, s0, s1, s5, hGR, -⟩
                        replace HB := below_step HB hGR
                        clear hGR
                        show Code.wp _ _ _ _ _
                        refine wp_cond (t := !(((gd xs i).o.key).toList == (mtext (l + 1 + 1 + 1 + ((gd xs i).o.deps.length : Int) + 1 + 1 + 1 + 1 + 1 + 1)).toList)) s112 ?_
                        rcases Bool.eq_false_or_eq_true (!(((gd xs i).o.key).toList == (mtext (l + 1 + 1 + 1 + ((gd xs i).o.deps.length : Int) + 1 + 1 + 1 + 1 + 1 + 1)).toList)) with cd47 | cd47
                        · rw [cd47]
                          show Code.wp _ _ _ _ _
                          have pd47 := cd47
                          simp at pd47
                          have hs : (gd xs i).o.key ≠ mtext (l + 1 + 1 + 1 + ((gd xs i).o.deps.length : Int) + 1 + 1 + 1 + 1 + 1 + 1) := by have := cd47; simpa [beq_toList, eqB] using this
                          refine wp_seq ?_
                          refine deedL [.eq 4 (.int .i64 (-1)), .w (Below w46.heap.size w46)] 126 [[]] [] [0, 1] hM hN hD (by kernel_rfl) ⟨⟨Below.refl _ _, below_drew (Below.refl _ _)⟩, trivial⟩ ⟨fun _ _ hb h => below_step h hb, trivial⟩ (fun hgrow => ⟨fun _ _ _ => rv rfl (x_assign rfl rfl) rfl, trivial⟩) ?_
                          clear s0 s1 s5 s112
                          clear hN hD
                          rintro a48 w48 hN hD ⟨s4, hGR, -⟩
                          replace HB := below_step HB hGR
                          clear hGR
                          show Code.wp _ _ _ _ _
                          refine wp_ret (then_ret (blk_ret (then_ret (then_ret (blk_ret (then_ret ?_))))))
                          refine bodyPost_ret (results_single rfl (vtmp s4 .nil)) hD ?_
                          exact ⟨by rw [hh, held_no hi0 hi2 (fun h => hs (congrArg (fun x => x.o.key) h))], HB⟩
                        · rw [cd47]
                          show Code.wp _ _ _ _ _
                          have pd47 := cd47
                          simp at pd47
                          have e10q : (gd xs i).o.key = mtext (l + 1 + 1 + 1 + ((gd xs i).o.deps.length : Int) + 1 + 1 + 1 + 1 + 1 + 1) := by have := cd47; simpa [beq_toList, eqB] using this
                          refine wp_skip ?_
                          show Code.wp _ _ _ _ _
                          refine wp_seq ?_
                          refine deedL [.eq 113 (.int .i64 (l + 1 + 1 + 1 + ((gd xs i).o.deps.length : Int) + 1 + 1 + 1 + 1 + 1 + 1)), .eq 114 (.int .i64 (l + 1 + 1 + 1 + ((gd xs i).o.deps.length : Int) + 1 + 1 + 1 + 1 + 1 + 1 + 1)), .eq 1 (.int .i64 (l + 1 + 1 + 1 + ((gd xs i).o.deps.length : Int) + 1 + 1 + 1 + 1 + 1 + 1 + 1)), .eq 0 (.slice A xs.length c), .eq 1 (.int .i64 (l + 1 + 1 + 1 + ((gd xs i).o.deps.length : Int) + 1 + 1 + 1 + 1 + 1 + 1)), .eq 5 (.int .i64 i), .w (Below w46.heap.size w46)] 126 [[4], [0], [1]] [[], [], [4]] [2, 3, 5, 6] hM hN hD (by kernel_rfl) ⟨s0, s1, s5, ⟨Below.refl _ _, below_drew (Below.refl _ _)⟩, trivial⟩ ⟨fun _ _ hb h => below_step h hb, trivial⟩ (fun hgrow => ⟨fun _ _ h => rv rfl (x_move rfl h.1) rfl,
                            fun _ _ h => rv rfl (x_add' rfl h.1 rfl (by omega)) rfl,
                            fun _ _ h => rv rfl (x_assign rfl h.1) rfl, trivial⟩) ?_
                          clear s0 s1 s5 s112
                          clear hN hD
                          rintro a49 w49 hN hD ⟨s1, s0, s5, hGR, -⟩
                          replace HB := below_step HB hGR
                          clear hGR
                          show Code.wp _ _ _ _ _
                          refine wp_seq ?_
                          refine wp_seq ?_
                          refine deedL [.eq 115 (.slice A xs.length c), .eq 116 (.int .i64 i), .eq 117 (.pointer (some ((adr A).add (i.toNat * 12)))), .eq 118 (.pointer (some (((adr A).add (i.toNat * 12)).add 11))), .eq 119 (.string ((gd xs i).o.text)), .eq 120 (.int .i64 (l + 1 + 1 + 1 + ((gd xs i).o.deps.length : Int) + 1 + 1 + 1 + 1 + 1 + 1 + 1)), .eq 121 (.string (mtext (l + 1 + 1 + 1 + ((gd xs i).o.deps.length : Int) + 1 + 1 + 1 + 1 + 1 + 1 + 1))), .eq 122 (.bool (!(((gd xs i).o.text).toList == (mtext (l + 1 + 1 + 1 + ((gd xs i).o.deps.length : Int) + 1 + 1 + 1 + 1 + 1 + 1 + 1)).toList))), .eq 0 (.slice A xs.length c), .eq 1 (.int .i64 (l + 1 + 1 + 1 + ((gd xs i).o.deps.length : Int) + 1 + 1 + 1 + 1 + 1 + 1 + 1)), .eq 5 (.int .i64 i), .w (Below w49.heap.size w49)] 126 [[8], [10], [0, 1], [2], [3, 11], [9], [5], [4, 6]] [] [7, 8, 9, 10, 11] hM hN hD (by kernel_rfl) ⟨s0, s1, s5, ⟨Below.refl _ _, below_drew (Below.refl _ _)⟩, trivial⟩ ⟨fun _ _ hb h => below_step h hb, trivial⟩ (fun hgrow => ⟨fun _ _ h => rv rfl (x_move rfl h.1) rfl,
                            fun _ _ h => rv rfl (x_move rfl h.1) rfl,
                            fun _ _ h => rv rfl (x_index_at rfl h.1 h.2.1 Try.underlying27 sz67 (by omega) (by omega) (RV.ad HR1 i (by omega) (by omega))) rfl,
                            fun _ _ h => rv rfl (x_field rfl h.1 Try.underlying67 rfl sz9 (by decide) rfl) rfl,
                            fun _ _ h => rv rfl (x_load1 rfl h.1 Try.underlying9 rfl (RV.cell HR1 (below_step HB h.2.1) (by omega) (by omega) (j := 11) rfl)) rfl,
                            fun _ _ h => rv rfl (x_move rfl h.1) rfl,
                            fun _ _ h => rc hgrow rfl Try.func52 (by kernel_rfl) rfl rfl (args1 h.1) (mtext_calls (l + 1 + 1 + 1 + ((gd xs i).o.deps.length : Int) + 1 + 1 + 1 + 1 + 1 + 1 + 1) _ (by omega)) (fun _ _ h => ⟨_, h.1, h.2, rfl⟩),
                            fun _ _ h => rv rfl (x_sneq rfl h.1 h.2.1) rfl, trivial⟩) ?_
                          clear s0 s5 s1
                          clear hN hD
                          rintro a50 w50 hN hD ⟨s122, s0, s1, s5, hGR, -⟩
                          replace HB := below_step HB hGR
                          clear hGR
                          show Code.wp _ _ _ _ _
                          refine wp_cond (t := !(((gd xs i).o.text).toList == (mtext (l + 1 + 1 + 1 + ((gd xs i).o.deps.length : Int) + 1 + 1 + 1 + 1 + 1 + 1 + 1)).toList)) s122 ?_
                          rcases Bool.eq_false_or_eq_true (!(((gd xs i).o.text).toList == (mtext (l + 1 + 1 + 1 + ((gd xs i).o.deps.length : Int) + 1 + 1 + 1 + 1 + 1 + 1 + 1)).toList)) with cd51 | cd51
                          · rw [cd51]
                            show Code.wp _ _ _ _ _
                            have pd51 := cd51
                            simp at pd51
                            have hs : (gd xs i).o.text ≠ mtext (l + 1 + 1 + 1 + ((gd xs i).o.deps.length : Int) + 1 + 1 + 1 + 1 + 1 + 1 + 1) := by have := cd51; simpa [beq_toList, eqB] using this
                            refine wp_seq ?_
                            refine deedL [.eq 4 (.int .i64 (-1)), .w (Below w50.heap.size w50)] 126 [[]] [] [0, 1] hM hN hD (by kernel_rfl) ⟨⟨Below.refl _ _, below_drew (Below.refl _ _)⟩, trivial⟩ ⟨fun _ _ hb h => below_step h hb, trivial⟩ (fun hgrow => ⟨fun _ _ _ => rv rfl (x_assign rfl rfl) rfl, trivial⟩) ?_
                            clear s0 s1 s5 s122
                            clear hN hD
                            rintro a52 w52 hN hD ⟨s4, hGR, -⟩
                            replace HB := below_step HB hGR
                            clear hGR
                            show Code.wp _ _ _ _ _
                            refine wp_ret (then_ret (blk_ret (then_ret (then_ret (blk_ret (then_ret ?_))))))
                            refine bodyPost_ret (results_single rfl (vtmp s4 .nil)) hD ?_
                            exact ⟨by rw [hh, held_no hi0 hi2 (fun h => hs (congrArg (fun x => x.o.text) h))], HB⟩
                          · rw [cd51]
                            show Code.wp _ _ _ _ _
                            have pd51 := cd51
                            simp at pd51
                            have e11q : (gd xs i).o.text = mtext (l + 1 + 1 + 1 + ((gd xs i).o.deps.length : Int) + 1 + 1 + 1 + 1 + 1 + 1 + 1) := by have := cd51; simpa [beq_toList, eqB] using this
                            refine wp_skip ?_
                            show Code.wp _ _ _ _ _
                            refine deedL [.eq 123 (.int .i64 (l + 1 + 1 + 1 + ((gd xs i).o.deps.length : Int) + 1 + 1 + 1 + 1 + 1 + 1 + 1)), .eq 124 (.int .i64 (l + 1 + 1 + 1 + ((gd xs i).o.deps.length : Int) + 1 + 1 + 1 + 1 + 1 + 1 + 1 + 1)), .eq 1 (.int .i64 (l + 1 + 1 + 1 + ((gd xs i).o.deps.length : Int) + 1 + 1 + 1 + 1 + 1 + 1 + 1 + 1)), .eq 0 (.slice A xs.length c), .eq 1 (.int .i64 (l + 1 + 1 + 1 + ((gd xs i).o.deps.length : Int) + 1 + 1 + 1 + 1 + 1 + 1 + 1)), .eq 5 (.int .i64 i), .w (Below w50.heap.size w50)] 126 [[4], [0], [1]] [[], [], [4]] [2, 3, 5, 6] hM hN hD (by kernel_rfl) ⟨s0, s1, s5, ⟨Below.refl _ _, below_drew (Below.refl _ _)⟩, trivial⟩ ⟨fun _ _ hb h => below_step h hb, trivial⟩ (fun hgrow => ⟨fun _ _ h => rv rfl (x_move rfl h.1) rfl,
                              fun _ _ h => rv rfl (x_add' rfl h.1 rfl (by omega)) rfl,
                              fun _ _ h => rv rfl (x_assign rfl h.1) rfl, trivial⟩) ?_
                            clear s0 s1 s5 s122
                            clear hN hD
                            rintro a53 w53 hN hD ⟨s1, s0, s5, hGR, -⟩
                            replace HB := below_step HB hGR
                            clear hGR
                            show Code.wp _ _ _ _ _
                            refine deedL [.eq 10 (.int .i64 i), .eq 11 (.int .i64 (i + 1)), .eq 5 (.int .i64 (i + 1)), .eq 0 (.slice A xs.length c), .eq 1 (.int .i64 (l + 1 + 1 + 1 + ((gd xs i).o.deps.length : Int) + 1 + 1 + 1 + 1 + 1 + 1 + 1 + 1)), .eq 5 (.int .i64 i), .w (Below w53.heap.size w53)] 126 [[5], [0], [1]] [[], [], [5]] [2, 3, 4, 6] hM hN hD (by kernel_rfl) ⟨s0, s1, s5, ⟨Below.refl _ _, below_drew (Below.refl _ _)⟩, trivial⟩ ⟨fun _ _ hb h => below_step h hb, trivial⟩ (fun hgrow => ⟨fun _ _ h => rv rfl (x_move rfl h.1) rfl,
                              fun _ _ h => rv rfl (x_add' rfl h.1 rfl (by omega)) rfl,
                              fun _ _ h => rv rfl (x_assign rfl h.1) rfl, trivial⟩) ?_
                            clear s0 s5 s1
                            clear hN hD
                            rintro a54 w54 hN hD ⟨s5, s0, s1, hGR, -⟩
                            replace HB := below_step HB hGR
                            clear hGR
                            show ∃ m, m < n_3 ∧ _
                            have hx : gd xs i = mLO.tok (gd xs i) l := by show (⟨⟨(gd xs i).o.actor, (gd xs i).o.seq, (gd xs i).o.time, (gd xs i).o.deps, (gd xs i).o.kind, (gd xs i).o.obj, (gd xs i).o.num, (gd xs i).o.undo, (gd xs i).o.att, (gd xs i).o.ata, (gd xs i).o.key, (gd xs i).o.text⟩, (gd xs i).A, (gd xs i).c⟩ : LO) = (⟨⟨l, l + 1, l + 1 + 1, mk (l + 1 + 1 + 1) (gd xs i).o.deps.length, l + 1 + 1 + 1 + ((gd xs i).o.deps.length : Int), l + 1 + 1 + 1 + ((gd xs i).o.deps.length : Int) + 1, l + 1 + 1 + 1 + ((gd xs i).o.deps.length : Int) + 1 + 1, l + 1 + 1 + 1 + ((gd xs i).o.deps.length : Int) + 1 + 1 + 1, l + 1 + 1 + 1 + ((gd xs i).o.deps.length : Int) + 1 + 1 + 1 + 1, l + 1 + 1 + 1 + ((gd xs i).o.deps.length : Int) + 1 + 1 + 1 + 1 + 1, mtext (l + 1 + 1 + 1 + ((gd xs i).o.deps.length : Int) + 1 + 1 + 1 + 1 + 1 + 1), mtext (l + 1 + 1 + 1 + ((gd xs i).o.deps.length : Int) + 1 + 1 + 1 + 1 + 1 + 1 + 1)⟩, (gd xs i).A, (gd xs i).c⟩ : LO); rw [LO.mk.injEq, Op.mk.injEq]; exact ⟨⟨e0q, e1q, e2q, e3q, e4q, e5q, e6q, e7q, e8q, e9q, e10q, e11q⟩, rfl, rfl⟩
                            exact ⟨_, (by omega), ⟨(i + 1), (l + 1 + 1 + 1 + ((gd xs i).o.deps.length : Int) + 1 + 1 + 1 + 1 + 1 + 1 + 1 + 1), hN, hD, s0, s1, s5, HB, (by omega), (by omega), (by rw [cntL_step hi0 hi2, show mLO.cnt (gd xs i) = 11 + ((gd xs i).o.deps.length : Int) from rfl]; omega), (by rw [hh, held_yes hi0 hi2 hx, show l + mLO.cnt (gd xs i) = l + 1 + 1 + 1 + ((gd xs i).o.deps.length : Int) + 1 + 1 + 1 + 1 + 1 + 1 + 1 + 1 from by (show l + (11 + ((gd xs i).o.deps.length : Int)) = _; omega)]), rfl⟩⟩
  · rw [cd5]
    show Code.wp _ _ _ _ _
    have pd5 := of_decide_eq_false cd5
    refine wp_exit (then_exit (then_exit (at_exit ?_)))
    show Code.wp _ _ _ _ _
    refine wp_seq ?_
    refine deedL [.eq 125 (.int .i64 l), .eq 4 (.int .i64 l), .eq 1 (.int .i64 l), .w (Below w4.heap.size w4)] 126 [[2], [0]] [] [1, 2, 3] hM hN hD (by kernel_rfl) ⟨s1, ⟨Below.refl _ _, below_drew (Below.refl _ _)⟩, trivial⟩ ⟨fun _ _ hb h => below_step h hb, trivial⟩ (fun hgrow => ⟨fun _ _ h => rv rfl (x_move rfl h.1) rfl,
      fun _ _ h => rv rfl (x_assign rfl h.1) rfl, trivial⟩) ?_
    clear s0 s1 s5 s9
    clear hN hD
    rintro a55 w55 hN hD ⟨s4, s1, hGR, -⟩
    replace HB := below_step HB hGR
    clear hGR
    show Code.wp _ _ _ _ _
    refine wp_ret ?_
    refine bodyPost_ret (results_single rfl (vtmp s4 .nil)) hD ?_
    exact ⟨by rw [hh, held_end (by omega)], HB⟩
set_option maxHeartbeats 2000000 in
theorem markeLO_calls (A : Option Addr) (xs : List LO) (c : Nat) (k : Int) (lo hi : Nat) (w : World) (HOW : OwnAt eLO w A xs lo hi) (hk0 : 0 ≤ k) (hk1 : k + cntL mLO xs ≤ 4503599627370496) (hxn : xs.length ≤ 1099511627776) : Calls Try.prog 18 #[.slice A xs.length c, .int .i64 k] w fun e w' => e = .returned (.int .i64 (k + cntL mLO xs)) ∧ OwnAt eLO w' A (mkL mLO xs k) lo hi ∧ Kx (Mine lo hi) w w' := by
  refine calls_of_wp Try.func18 rfl ?_
  refine enter_ (N := 102) rfl ?_
  rintro a0 hN hD ⟨s0, s1, -⟩
  have HKX : Kx (Mine lo hi) w w := Kx.refl _ _
  refine wp_seq ?_
  refine deedL [.eq 4 (.int .i64 0), .eq 0 (.slice A xs.length c), .eq 1 (.int .i64 k), .w (Below w.heap.size w)] 102 [[]] [] [1, 2, 3] hM hN hD (by kernel_rfl) ⟨s0, s1, ⟨Below.refl _ _, below_drew (Below.refl _ _)⟩, trivial⟩ ⟨fun _ _ hb h => below_step h hb, trivial⟩ (fun hgrow => ⟨fun _ _ _ => rv rfl (x_assign rfl rfl) rfl, trivial⟩) ?_
  clear s0 s1
  clear hN hD
  rintro a1 w1 hN hD ⟨s0, s1, hGR, -⟩
  replace HOW := HOW.below hGR
  replace HKX := HKX.step hGR
  clear hGR
  show Code.wp _ _ _ _ _
  refine wp_seq ?_
  refine wp_seq ?_
  refine deedL [.eq 5 (.int .i64 0), .eq 0 (.slice A xs.length c), .eq 1 (.int .i64 k), .w (Below w1.heap.size w1)] 102 [[]] [] [0, 1, 2, 3] hM hN hD (by kernel_rfl) ⟨s0, s1, ⟨Below.refl _ _, below_drew (Below.refl _ _)⟩, trivial⟩ ⟨fun _ _ hb h => below_step h hb, trivial⟩ (fun hgrow => ⟨fun _ _ _ => rv rfl (x_assign rfl rfl) rfl, trivial⟩) ?_
  clear s0 s1
  clear hN hD
  rintro a2 w2 hN hD ⟨s5, s0, s1, hGR, -⟩
  replace HOW := HOW.below hGR
  replace HKX := HKX.step hGR
  clear hGR
  show Code.wp _ _ _ _ _
  refine wp_block ?_
  refine wp_loopN (fun n_ q_ w_ => ∃ (i : Int) (l : Int), (q_.tmps.size = 102) ∧ (q_.defers = []) ∧ (sl q_ 0 = .slice A xs.length c) ∧ (sl q_ 1 = .int .i64 l) ∧ (sl q_ 5 = .int .i64 i) ∧ (OwnAt eLO w_ A (mkU mLO xs k i.toNat) lo hi) ∧ (Kx (Mine lo hi) w w_) ∧ (0 ≤ i) ∧ (i ≤ xs.length) ∧ (l = k + cntL mLO (xs.take i.toNat)) ∧ (n_ = (xs.length - i).toNat)) ((fun (i : Int) (l : Int) => (xs.length - i).toNat) 0 k) ?_ ?_
  · exact ⟨0, k, hN, hD, s0, s1, s5, (by rw [mkU_zero]; exact HOW), HKX, (by omega), (by omega), (by simp [cntL]), rfl⟩
  clear s0 s1 s5 HOW HKX hN hD
  rintro n_3 a3 w3 ⟨i, l, hN, hD, s0, s1, s5, HOW, HKX, hi0, hi1, hl, hmeas⟩
  have hlp := cntL_pos (M := mLO) (xs.take i.toNat)
  refine wp_seq ?_
  refine wp_seq ?_
  refine deedL [.eq 6 (.int .i64 i), .eq 7 (.slice A xs.length c), .eq 8 (.int .i64 (xs.length : Int)), .eq 9 (.bool (decide (i < (xs.length : Int)))), .eq 0 (.slice A xs.length c), .eq 1 (.int .i64 l), .eq 5 (.int .i64 i), .w (Below w3.heap.size w3)] 102 [[6], [4], [1], [0, 2]] [] [3, 4, 5, 6, 7] hM hN hD (by kernel_rfl) ⟨s0, s1, s5, ⟨Below.refl _ _, below_drew (Below.refl _ _)⟩, trivial⟩ ⟨fun _ _ hb h => below_step h hb, trivial⟩ (fun hgrow => ⟨fun _ _ h => rv rfl (x_move rfl h.1) rfl,
    fun _ _ h => rv rfl (x_move rfl h.1) rfl,
    fun _ _ h => rv rfl (x_len_slice rfl Try.underlying27 h.1) rfl,
    fun _ _ h => rv rfl (x_lss rfl h.1 h.2.1) rfl, trivial⟩) ?_
  clear s0 s1 s5
  clear hN hD
  rintro a4 w4 hN hD ⟨s9, s0, s1, s5, hGR, -⟩
  replace HOW := HOW.below hGR
  replace HKX := HKX.step hGR
  clear hGR
  show Code.wp _ _ _ _ _
  refine wp_cond (t := decide (i < (xs.length : Int))) s9 ?_
  rcases Bool.eq_false_or_eq_true (decide (i < (xs.length : Int))) with cd5 | cd5
  · rw [cd5]
    show Code.wp _ _ _ _ _
    have pd5 := of_decide_eq_true cd5
    have hi2 := pd5
    have hc := cntL_part (M := mLO) hi0 hi2
    rw [show mLO.cnt (gd xs i) = 11 + ((gd xs i).o.deps.length : Int) from rfl] at hc
    replace HOW : OwnAt eLO w4 A ((mkU mLO xs k i.toNat).set i.toNat (gd xs i)) lo hi := by rw [set_back (mkU_at hi0 hi2)]; exact HOW
    refine wp_skip ?_
    show Code.wp _ _ _ _ _
    refine wp_seq ?_
    refine wp_block ?_
    refine wp_seq ?_
    refine deedL [.eq 12 (.slice A xs.length c), .eq 13 (.int .i64 i), .eq 14 (.int .i64 l), .eq 15 (.pointer (some ((adr A).add (i.toNat * 12)))), .eq 16 (.pointer (some ((adr A).add (i.toNat * 12)))), .w fun W => OwnAt eLO W A ((mkU mLO xs k i.toNat).set i.toNat (⟨⟨l, (gd xs i).o.seq, (gd xs i).o.time, (gd xs i).o.deps, (gd xs i).o.kind, (gd xs i).o.obj, (gd xs i).o.num, (gd xs i).o.undo, (gd xs i).o.att, (gd xs i).o.ata, (gd xs i).o.key, (gd xs i).o.text⟩, (gd xs i).A, (gd xs i).c⟩ : LO)) lo hi ∧ Kx (Mine lo hi) w4 W, .eq 0 (.slice A xs.length c), .eq 1 (.int .i64 l), .eq 5 (.int .i64 i), .w (Below w4.heap.size w4)] 102 [[6], [8], [7], [0, 1], [3], [4, 2, 9]] [[], [], [], [], [], [9]] [5, 6, 7, 8] hM hN hD (by kernel_rfl) ⟨s0, s1, s5, ⟨Below.refl _ _, below_drew (Below.refl _ _)⟩, trivial⟩ ⟨fun _ _ hb h => ⟨h.1.below hb, h.2.step hb⟩, fun _ _ hb h => below_step h hb, trivial⟩ (fun hgrow => ⟨fun _ _ h => rv rfl (x_move rfl h.1) rfl,
      fun _ _ h => rv rfl (x_move rfl h.1) rfl,
      fun _ _ h => rv rfl (x_move rfl h.1) rfl,
      fun _ _ h => rv rfl (x_index_at rfl h.1 h.2.1 Try.underlying27 sz67 hi0 hi2 (HOW.ad hi0 (by rw [List.length_set, mkU_length]; exact hi2))) rfl,
      fun _ _ h => rv rfl (x_field rfl h.1 Try.underlying67 rfl sz3 (by decide) rfl) rfl,
      ?_, trivial⟩) ?_
    · rintro a_ W ⟨h4, h2, h9, -⟩
      exact rstoreE (E := eLO) (j := 0) (x1 := (⟨⟨l, (gd xs i).o.seq, (gd xs i).o.time, (gd xs i).o.deps, (gd xs i).o.kind, (gd xs i).o.obj, (gd xs i).o.num, (gd xs i).o.undo, (gd xs i).o.att, (gd xs i).o.ata, (gd xs i).o.key, (gd xs i).o.text⟩, (gd xs i).A, (gd xs i).c⟩ : LO)) rfl rfl h4 rfl h2 rfl sz3 HOW h9 (by rw [mkU_length]; omega) rfl rfl (by decide) (fun W2 u1 u2 => ⟨u1, u2⟩) trivial
    clear s0 s1 s5 s9
    clear hN hD
    clear HOW
    rintro a6 w6 hN hD ⟨⟨HOWN, hkx⟩, s0, s1, s5, -⟩
    replace HKX := (kx_tr HKX hkx)
    have HOW := HOWN
    clear HOWN
    show Code.wp _ _ _ _ _
    refine wp_seq ?_
    refine deedL [.eq 17 (.int .i64 l), .eq 18 (.int .i64 (l + 1)), .eq 1 (.int .i64 (l + 1)), .eq 0 (.slice A xs.length c), .eq 1 (.int .i64 l), .eq 5 (.int .i64 i), .w (Below w6.heap.size w6)] 102 [[4], [0], [1]] [[], [], [4]] [2, 3, 5, 6] hM hN hD (by kernel_rfl) ⟨s0, s1, s5, ⟨Below.refl _ _, below_drew (Below.refl _ _)⟩, trivial⟩ ⟨fun _ _ hb h => below_step h hb, trivial⟩ (fun hgrow => ⟨fun _ _ h => rv rfl (x_move rfl h.1) rfl,
      fun _ _ h => rv rfl (x_add' rfl h.1 rfl (by omega)) rfl,
      fun _ _ h => rv rfl (x_assign rfl h.1) rfl, trivial⟩) ?_
    clear s0 s1 s5
    clear hN hD
    rintro a7 w7 hN hD ⟨s1, s0, s5, hGR, -⟩
    replace HKX := HKX.step hGR
    replace HOW := HOW.below hGR
    clear hGR
    show Code.wp _ _ _ _ _
    refine wp_seq ?_
    refine deedL [.eq 19 (.slice A xs.length c), .eq 20 (.int .i64 i), .eq 21 (.int .i64 (l + 1)), .eq 22 (.pointer (some ((adr A).add (i.toNat * 12)))), .eq 23 (.pointer (some (((adr A).add (i.toNat * 12)).add 1))), .w fun W => OwnAt eLO W A ((mkU mLO xs k i.toNat).set i.toNat (⟨⟨l, l + 1, (gd xs i).o.time, (gd xs i).o.deps, (gd xs i).o.kind, (gd xs i).o.obj, (gd xs i).o.num, (gd xs i).o.undo, (gd xs i).o.att, (gd xs i).o.ata, (gd xs i).o.key, (gd xs i).o.text⟩, (gd xs i).A, (gd xs i).c⟩ : LO)) lo hi ∧ Kx (Mine lo hi) w7 W, .eq 0 (.slice A xs.length c), .eq 1 (.int .i64 (l + 1)), .eq 5 (.int .i64 i), .w (Below w7.heap.size w7)] 102 [[6], [8], [7], [0, 1], [3], [4, 2, 9]] [[], [], [], [], [], [9]] [5, 6, 7, 8] hM hN hD (by kernel_rfl) ⟨s0, s1, s5, ⟨Below.refl _ _, below_drew (Below.refl _ _)⟩, trivial⟩ ⟨fun _ _ hb h => ⟨h.1.below hb, h.2.step hb⟩, fun _ _ hb h => below_step h hb, trivial⟩ (fun hgrow => ⟨fun _ _ h => rv rfl (x_move rfl h.1) rfl,
      fun _ _ h => rv rfl (x_move rfl h.1) rfl,
      fun _ _ h => rv rfl (x_move rfl h.1) rfl,
      fun _ _ h => rv rfl (x_index_at rfl h.1 h.2.1 Try.underlying27 sz67 hi0 hi2 (HOW.ad hi0 (by rw [List.length_set, mkU_length]; exact hi2))) rfl,
      fun _ _ h => rv rfl (x_field rfl h.1 Try.underlying67 rfl sz3 (by decide) rfl) rfl,
      ?_, trivial⟩) ?_
    · rintro a_ W ⟨h4, h2, h9, -⟩
      exact rstoreE (E := eLO) (j := 1) (x1 := (⟨⟨l, l + 1, (gd xs i).o.time, (gd xs i).o.deps, (gd xs i).o.kind, (gd xs i).o.obj, (gd xs i).o.num, (gd xs i).o.undo, (gd xs i).o.att, (gd xs i).o.ata, (gd xs i).o.key, (gd xs i).o.text⟩, (gd xs i).A, (gd xs i).c⟩ : LO)) rfl rfl h4 (add_add _ _ _) h2 rfl sz3 HOW h9 (by rw [mkU_length]; omega) rfl rfl (by decide) (fun W2 u1 u2 => ⟨u1, u2⟩) trivial
    clear s0 s5 s1
    clear hN hD
    clear HOW
    rintro a8 w8 hN hD ⟨⟨HOWN, hkx⟩, s0, s1, s5, -⟩
    replace HKX := (kx_tr HKX hkx)
    have HOW := HOWN
    clear HOWN
    show Code.wp _ _ _ _ _
    refine wp_seq ?_
    refine deedL [.eq 24 (.int .i64 (l + 1)), .eq 25 (.int .i64 (l + 1 + 1)), .eq 1 (.int .i64 (l + 1 + 1)), .eq 0 (.slice A xs.length c), .eq 1 (.int .i64 (l + 1)), .eq 5 (.int .i64 i), .w (Below w8.heap.size w8)] 102 [[4], [0], [1]] [[], [], [4]] [2, 3, 5, 6] hM hN hD (by kernel_rfl) ⟨s0, s1, s5, ⟨Below.refl _ _, below_drew (Below.refl _ _)⟩, trivial⟩ ⟨fun _ _ hb h => below_step h hb, trivial⟩ (fun hgrow => ⟨fun _ _ h => rv rfl (x_move rfl h.1) rfl,
      fun _ _ h => rv rfl (x_add' rfl h.1 rfl (by omega)) rfl,
      fun _ _ h => rv rfl (x_assign rfl h.1) rfl, trivial⟩) ?_
    clear s0 s1 s5
    clear hN hD
    rintro a9 w9 hN hD ⟨s1, s0, s5, hGR, -⟩
    replace HKX := HKX.step hGR
    replace HOW := HOW.below hGR
    clear hGR
    show Code.wp _ _ _ _ _
    refine wp_seq ?_
    refine deedL [.eq 26 (.slice A xs.length c), .eq 27 (.int .i64 i), .eq 28 (.int .i64 (l + 1 + 1)), .eq 29 (.pointer (some ((adr A).add (i.toNat * 12)))), .eq 30 (.pointer (some (((adr A).add (i.toNat * 12)).add 2))), .w fun W => OwnAt eLO W A ((mkU mLO xs k i.toNat).set i.toNat (⟨⟨l, l + 1, l + 1 + 1, (gd xs i).o.deps, (gd xs i).o.kind, (gd xs i).o.obj, (gd xs i).o.num, (gd xs i).o.undo, (gd xs i).o.att, (gd xs i).o.ata, (gd xs i).o.key, (gd xs i).o.text⟩, (gd xs i).A, (gd xs i).c⟩ : LO)) lo hi ∧ Kx (Mine lo hi) w9 W, .eq 0 (.slice A xs.length c), .eq 1 (.int .i64 (l + 1 + 1)), .eq 5 (.int .i64 i), .w (Below w9.heap.size w9)] 102 [[6], [8], [7], [0, 1], [3], [4, 2, 9]] [[], [], [], [], [], [9]] [5, 6, 7, 8] hM hN hD (by kernel_rfl) ⟨s0, s1, s5, ⟨Below.refl _ _, below_drew (Below.refl _ _)⟩, trivial⟩ ⟨fun _ _ hb h => ⟨h.1.below hb, h.2.step hb⟩, fun _ _ hb h => below_step h hb, trivial⟩ (fun hgrow => ⟨fun _ _ h => rv rfl (x_move rfl h.1) rfl,
      fun _ _ h => rv rfl (x_move rfl h.1) rfl,
      fun _ _ h => rv rfl (x_move rfl h.1) rfl,
      fun _ _ h => rv rfl (x_index_at rfl h.1 h.2.1 Try.underlying27 sz67 hi0 hi2 (HOW.ad hi0 (by rw [List.length_set, mkU_length]; exact hi2))) rfl,
      fun _ _ h => rv rfl (x_field rfl h.1 Try.underlying67 rfl sz3 (by decide) rfl) rfl,
      ?_, trivial⟩) ?_
    · rintro a_ W ⟨h4, h2, h9, -⟩
      exact rstoreE (E := eLO) (j := 2) (x1 := (⟨⟨l, l + 1, l + 1 + 1, (gd xs i).o.deps, (gd xs i).o.kind, (gd xs i).o.obj, (gd xs i).o.num, (gd xs i).o.undo, (gd xs i).o.att, (gd xs i).o.ata, (gd xs i).o.key, (gd xs i).o.text⟩, (gd xs i).A, (gd xs i).c⟩ : LO)) rfl rfl h4 (add_add _ _ _) h2 rfl sz3 HOW h9 (by rw [mkU_length]; omega) rfl rfl (by decide) (fun W2 u1 u2 => ⟨u1, u2⟩) trivial
    clear s0 s5 s1
    clear hN hD
    clear HOW
    rintro a10 w10 hN hD ⟨⟨HOWN, hkx⟩, s0, s1, s5, -⟩
    replace HKX := (kx_tr HKX hkx)
    have HOW := HOWN
    clear HOWN
    show Code.wp _ _ _ _ _
    refine wp_seq ?_
    refine deedL [.eq 31 (.int .i64 (l + 1 + 1)), .eq 32 (.int .i64 (l + 1 + 1 + 1)), .eq 1 (.int .i64 (l + 1 + 1 + 1)), .eq 0 (.slice A xs.length c), .eq 1 (.int .i64 (l + 1 + 1)), .eq 5 (.int .i64 i), .w (Below w10.heap.size w10)] 102 [[4], [0], [1]] [[], [], [4]] [2, 3, 5, 6] hM hN hD (by kernel_rfl) ⟨s0, s1, s5, ⟨Below.refl _ _, below_drew (Below.refl _ _)⟩, trivial⟩ ⟨fun _ _ hb h => below_step h hb, trivial⟩ (fun hgrow => ⟨fun _ _ h => rv rfl (x_move rfl h.1) rfl,
      fun _ _ h => rv rfl (x_add' rfl h.1 rfl (by omega)) rfl,
      fun _ _ h => rv rfl (x_assign rfl h.1) rfl, trivial⟩) ?_
    clear s0 s1 s5
    clear hN hD
    rintro a11 w11 hN hD ⟨s1, s0, s5, hGR, -⟩
    replace HKX := HKX.step hGR
    replace HOW := HOW.below hGR
    clear hGR
    show Code.wp _ _ _ _ _
    refine wp_seq ?_
    have hoi := HOW.inn i.toNat _ _ _ (by rw [List.getElem?_set_self (by rw [mkU_length]; omega)]) rfl
    have hrv := (HOW.RV i.toNat _ (by rw [List.getElem?_set_self (by rw [mkU_length]; omega)])).2.1
    refine deedL [.eq 33 (.slice A xs.length c), .eq 34 (.int .i64 i), .eq 35 (.pointer (some ((adr A).add (i.toNat * 12)))), .eq 36 (.pointer (some (((adr A).add (i.toNat * 12)).add 3))), .eq 37 (.pointer (some (((adr A).add (i.toNat * 12)).add 3))), .eq 38 (.slice ((gd xs i).A) ((gd xs i).o.deps.length) ((gd xs i).c)), .eq 39 (.int .i64 (l + 1 + 1 + 1)), .s1 40 fun x_ W => x_ = .int .i64 (l + 1 + 1 + 1 + ((gd xs i).o.deps.length : Int)) ∧ OwnAt eLO W A ((mkU mLO xs k i.toNat).set i.toNat (⟨⟨l, l + 1, l + 1 + 1, mk (l + 1 + 1 + 1) (gd xs i).o.deps.length, (gd xs i).o.kind, (gd xs i).o.obj, (gd xs i).o.num, (gd xs i).o.undo, (gd xs i).o.att, (gd xs i).o.ata, (gd xs i).o.key, (gd xs i).o.text⟩, (gd xs i).A, (gd xs i).c⟩ : LO)) lo hi ∧ Kx (Mine lo hi) w11 W, .eq 1 (.int .i64 (l + 1 + 1 + 1 + ((gd xs i).o.deps.length : Int))), .eq 0 (.slice A xs.length c), .eq 1 (.int .i64 (l + 1 + 1 + 1)), .eq 5 (.int .i64 i), .w (Below w11.heap.size w11)] 102 [[9], [11], [0, 1], [2], [3], [4, 12], [10], [5, 6, 12], [7]] [[], [], [], [], [], [], [], [12], [10]] [8, 7, 9, 11] hM hN hD (by kernel_rfl) ⟨s0, s1, s5, ⟨Below.refl _ _, below_drew (Below.refl _ _)⟩, trivial⟩ ⟨fun _ _ _ hb h => ⟨h.1, h.2.1.below hb, h.2.2.step hb⟩, fun _ _ hb h => below_step h hb, trivial⟩ (fun hgrow => ⟨fun _ _ h => rv rfl (x_move rfl h.1) rfl,
      fun _ _ h => rv rfl (x_move rfl h.1) rfl,
      fun _ _ h => rv rfl (x_index_at rfl h.1 h.2.1 Try.underlying27 sz67 hi0 hi2 (HOW.ad hi0 (by rw [List.length_set, mkU_length]; exact hi2))) rfl,
      fun _ _ h => rv rfl (x_field rfl h.1 Try.underlying67 rfl sz41 (by decide) rfl) rfl,
      fun _ _ h => rv rfl (x_field rfl h.1 Try.underlying41 rfl sz24 (by decide) rfl) rfl,
      fun _ _ h => rv rfl (x_load1 rfl h.1 Try.underlying24 rfl (by rw [add_add]; exact cell_below (hrv 3 _ rfl) h.2.1)) rfl,
      fun _ _ h => rv rfl (x_move rfl h.1) rfl,
      ?_,
      ?_, trivial⟩) ?_
    · rintro a_ W ⟨h5, h6, h12, -⟩
      exact rmarkI (i := i.toNat) (base := (mkU mLO xs k i.toNat)) (x0 := (⟨⟨l, l + 1, l + 1 + 1, (gd xs i).o.deps, (gd xs i).o.kind, (gd xs i).o.obj, (gd xs i).o.num, (gd xs i).o.undo, (gd xs i).o.att, (gd xs i).o.ata, (gd xs i).o.key, (gd xs i).o.text⟩, (gd xs i).A, (gd xs i).c⟩ : LO)) (x1 := (⟨⟨l, l + 1, l + 1 + 1, mk (l + 1 + 1 + 1) (gd xs i).o.deps.length, (gd xs i).o.kind, (gd xs i).o.obj, (gd xs i).o.num, (gd xs i).o.undo, (gd xs i).o.att, (gd xs i).o.ata, (gd xs i).o.key, (gd xs i).o.text⟩, (gd xs i).A, (gd xs i).c⟩ : LO)) (ys := (gd xs i).o.deps) (kk := l + 1 + 1 + 1) Try.func19 (by kernel_rfl) rfl rfl rfl (args2 h5 h6) markI_calls (List.getElem?_set_self (by rw [mkU_length]; omega)) rfl (by simp [eLO, mk_length]) rfl HOW h12 (by omega) (by omega) (fun W2 u1 u2 => ⟨rfl, by rw [List.set_set] at u1; exact u1, u2⟩) (fun _ => trivial)
    · rintro a_ W ⟨h7, -⟩
      obtain ⟨e7, how_, hkx_⟩ := h7
      exact rv rfl (x_assign rfl e7) rfl
    clear s0 s5 s1
    clear hN hD
    clear HOW
    rintro a12 w12 hN hD ⟨s1, ⟨s40, HOWN, hkx⟩, s0, s5, -⟩
    replace HKX := (kx_tr HKX hkx)
    have HOW := HOWN
    clear HOWN
    show Code.wp _ _ _ _ _
    refine wp_seq ?_
    refine deedL [.eq 41 (.slice A xs.length c), .eq 42 (.int .i64 i), .eq 43 (.int .i64 (l + 1 + 1 + 1 + ((gd xs i).o.deps.length : Int))), .eq 44 (.pointer (some ((adr A).add (i.toNat * 12)))), .eq 45 (.pointer (some (((adr A).add (i.toNat * 12)).add 4))), .w fun W => OwnAt eLO W A ((mkU mLO xs k i.toNat).set i.toNat (⟨⟨l, l + 1, l + 1 + 1, mk (l + 1 + 1 + 1) (gd xs i).o.deps.length, l + 1 + 1 + 1 + ((gd xs i).o.deps.length : Int), (gd xs i).o.obj, (gd xs i).o.num, (gd xs i).o.undo, (gd xs i).o.att, (gd xs i).o.ata, (gd xs i).o.key, (gd xs i).o.text⟩, (gd xs i).A, (gd xs i).c⟩ : LO)) lo hi ∧ Kx (Mine lo hi) w12 W, .eq 0 (.slice A xs.length c), .eq 1 (.int .i64 (l + 1 + 1 + 1 + ((gd xs i).o.deps.length : Int))), .eq 5 (.int .i64 i), .w (Below w12.heap.size w12)] 102 [[6], [8], [7], [0, 1], [3], [4, 2, 9]] [[], [], [], [], [], [9]] [5, 6, 7, 8] hM hN hD (by kernel_rfl) ⟨s0, s1, s5, ⟨Below.refl _ _, below_drew (Below.refl _ _)⟩, trivial⟩ ⟨fun _ _ hb h => ⟨h.1.below hb, h.2.step hb⟩, fun _ _ hb h => below_step h hb, trivial⟩ (fun hgrow => ⟨fun _ _ h => rv rfl (x_move rfl h.1) rfl,
      fun _ _ h => rv rfl (x_move rfl h.1) rfl,
      fun _ _ h => rv rfl (x_move rfl h.1) rfl,
      fun _ _ h => rv rfl (x_index_at rfl h.1 h.2.1 Try.underlying27 sz67 hi0 hi2 (HOW.ad hi0 (by rw [List.length_set, mkU_length]; exact hi2))) rfl,
      fun _ _ h => rv rfl (x_field rfl h.1 Try.underlying67 rfl sz3 (by decide) rfl) rfl,
      ?_, trivial⟩) ?_
    · rintro a_ W ⟨h4, h2, h9, -⟩
      exact rstoreE (E := eLO) (j := 4) (x1 := (⟨⟨l, l + 1, l + 1 + 1, mk (l + 1 + 1 + 1) (gd xs i).o.deps.length, l + 1 + 1 + 1 + ((gd xs i).o.deps.length : Int), (gd xs i).o.obj, (gd xs i).o.num, (gd xs i).o.undo, (gd xs i).o.att, (gd xs i).o.ata, (gd xs i).o.key, (gd xs i).o.text⟩, (gd xs i).A, (gd xs i).c⟩ : LO)) rfl rfl h4 (add_add _ _ _) h2 rfl sz3 HOW h9 (by rw [mkU_length]; omega) rfl rfl (by decide) (fun W2 u1 u2 => ⟨u1, u2⟩) trivial
    clear s0 s5 s1
    clear hN hD
    clear HOW
    rintro a13 w13 hN hD ⟨⟨HOWN, hkx⟩, s0, s1, s5, -⟩
    replace HKX := (kx_tr HKX hkx)
    have HOW := HOWN
    clear HOWN
    show Code.wp _ _ _ _ _
    refine wp_seq ?_
    refine deedL [.eq 46 (.int .i64 (l + 1 + 1 + 1 + ((gd xs i).o.deps.length : Int))), .eq 47 (.int .i64 (l + 1 + 1 + 1 + ((gd xs i).o.deps.length : Int) + 1)), .eq 1 (.int .i64 (l + 1 + 1 + 1 + ((gd xs i).o.deps.length : Int) + 1)), .eq 0 (.slice A xs.length c), .eq 1 (.int .i64 (l + 1 + 1 + 1 + ((gd xs i).o.deps.length : Int))), .eq 5 (.int .i64 i), .w (Below w13.heap.size w13)] 102 [[4], [0], [1]] [[], [], [4]] [2, 3, 5, 6] hM hN hD (by kernel_rfl) ⟨s0, s1, s5, ⟨Below.refl _ _, below_drew (Below.refl _ _)⟩, trivial⟩ ⟨fun _ _ hb h => below_step h hb, trivial⟩ (fun hgrow => ⟨fun _ _ h => rv rfl (x_move rfl h.1) rfl,
      fun _ _ h => rv rfl (x_add' rfl h.1 rfl (by omega)) rfl,
      fun _ _ h => rv rfl (x_assign rfl h.1) rfl, trivial⟩) ?_
    clear s0 s1 s5
    clear hN hD
    rintro a14 w14 hN hD ⟨s1, s0, s5, hGR, -⟩
    replace HKX := HKX.step hGR
    replace HOW := HOW.below hGR
    clear hGR
    show Code.wp _ _ _ _ _
    refine wp_seq ?_
    refine deedL [.eq 48 (.slice A xs.length c), .eq 49 (.int .i64 i), .eq 50 (.int .i64 (l + 1 + 1 + 1 + ((gd xs i).o.deps.length : Int) + 1)), .eq 51 (.pointer (some ((adr A).add (i.toNat * 12)))), .eq 52 (.pointer (some (((adr A).add (i.toNat * 12)).add 5))), .w fun W => OwnAt eLO W A ((mkU mLO xs k i.toNat).set i.toNat (⟨⟨l, l + 1, l + 1 + 1, mk (l + 1 + 1 + 1) (gd xs i).o.deps.length, l + 1 + 1 + 1 + ((gd xs i).o.deps.length : Int), l + 1 + 1 + 1 + ((gd xs i).o.deps.length : Int) + 1, (gd xs i).o.num, (gd xs i).o.undo, (gd xs i).o.att, (gd xs i).o.ata, (gd xs i).o.key, (gd xs i).o.text⟩, (gd xs i).A, (gd xs i).c⟩ : LO)) lo hi ∧ Kx (Mine lo hi) w14 W, .eq 0 (.slice A xs.length c), .eq 1 (.int .i64 (l + 1 + 1 + 1 + ((gd xs i).o.deps.length : Int) + 1)), .eq 5 (.int .i64 i), .w (Below w14.heap.size w14)] 102 [[6], [8], [7], [0, 1], [3], [4, 2, 9]] [[], [], [], [], [], [9]] [5, 6, 7, 8] hM hN hD (by kernel_rfl) ⟨s0, s1, s5, ⟨Below.refl _ _, below_drew (Below.refl _ _)⟩, trivial⟩ ⟨fun _ _ hb h => ⟨h.1.below hb, h.2.step hb⟩, fun _ _ hb h => below_step h hb, trivial⟩ (fun hgrow => ⟨fun _ _ h => rv rfl (x_move rfl h.1) rfl,
      fun _ _ h => rv rfl (x_move rfl h.1) rfl,
      fun _ _ h => rv rfl (x_move rfl h.1) rfl,
      fun _ _ h => rv rfl (x_index_at rfl h.1 h.2.1 Try.underlying27 sz67 hi0 hi2 (HOW.ad hi0 (by rw [List.length_set, mkU_length]; exact hi2))) rfl,
      fun _ _ h => rv rfl (x_field rfl h.1 Try.underlying67 rfl sz3 (by decide) rfl) rfl,
      ?_, trivial⟩) ?_
    · rintro a_ W ⟨h4, h2, h9, -⟩
      exact rstoreE (E := eLO) (j := 5) (x1 := (⟨⟨l, l + 1, l + 1 + 1, mk (l + 1 + 1 + 1) (gd xs i).o.deps.length, l + 1 + 1 + 1 + ((gd xs i).o.deps.length : Int), l + 1 + 1 + 1 + ((gd xs i).o.deps.length : Int) + 1, (gd xs i).o.num, (gd xs i).o.undo, (gd xs i).o.att, (gd xs i).o.ata, (gd xs i).o.key, (gd xs i).o.text⟩, (gd xs i).A, (gd xs i).c⟩ : LO)) rfl rfl h4 (add_add _ _ _) h2 rfl sz3 HOW h9 (by rw [mkU_length]; omega) rfl rfl (by decide) (fun W2 u1 u2 => ⟨u1, u2⟩) trivial
    clear s0 s5 s1
    clear hN hD
    clear HOW
    rintro a15 w15 hN hD ⟨⟨HOWN, hkx⟩, s0, s1, s5, -⟩
    replace HKX := (kx_tr HKX hkx)
    have HOW := HOWN
    clear HOWN
    show Code.wp _ _ _ _ _
    refine wp_seq ?_
    refine deedL [.eq 53 (.int .i64 (l + 1 + 1 + 1 + ((gd xs i).o.deps.length : Int) + 1)), .eq 54 (.int .i64 (l + 1 + 1 + 1 + ((gd xs i).o.deps.length : Int) + 1 + 1)), .eq 1 (.int .i64 (l + 1 + 1 + 1 + ((gd xs i).o.deps.length : Int) + 1 + 1)), .eq 0 (.slice A xs.length c), .eq 1 (.int .i64 (l + 1 + 1 + 1 + ((gd xs i).o.deps.length : Int) + 1)), .eq 5 (.int .i64 i), .w (Below w15.heap.size w15)] 102 [[4], [0], [1]] [[], [], [4]] [2, 3, 5, 6] hM hN hD (by kernel_rfl) ⟨s0, s1, s5, ⟨Below.refl _ _, below_drew (Below.refl _ _)⟩, trivial⟩ ⟨fun _ _ hb h => below_step h hb, trivial⟩ (fun hgrow => ⟨fun _ _ h => rv rfl (x_move rfl h.1) rfl,
      fun _ _ h => rv rfl (x_add' rfl h.1 rfl (by omega)) rfl,
      fun _ _ h => rv rfl (x_assign rfl h.1) rfl, trivial⟩) ?_
    clear s0 s1 s5
    clear hN hD
    rintro a16 w16 hN hD ⟨s1, s0, s5, hGR, -⟩
    replace HKX := HKX.step hGR
    replace HOW := HOW.below hGR
    clear hGR
    show Code.wp _ _ _ _ _
    refine wp_seq ?_
    refine deedL [.eq 55 (.slice A xs.length c), .eq 56 (.int .i64 i), .eq 57 (.int .i64 (l + 1 + 1 + 1 + ((gd xs i).o.deps.length : Int) + 1 + 1)), .eq 58 (.pointer (some ((adr A).add (i.toNat * 12)))), .eq 59 (.pointer (some (((adr A).add (i.toNat * 12)).add 6))), .w fun W => OwnAt eLO W A ((mkU mLO xs k i.toNat).set i.toNat (⟨⟨l, l + 1, l + 1 + 1, mk (l + 1 + 1 + 1) (gd xs i).o.deps.length, l + 1 + 1 + 1 + ((gd xs i).o.deps.length : Int), l + 1 + 1 + 1 + ((gd xs i).o.deps.length : Int) + 1, l + 1 + 1 + 1 + ((gd xs i).o.deps.length : Int) + 1 + 1, (gd xs i).o.undo, (gd xs i).o.att, (gd xs i).o.ata, (gd xs i).o.key, (gd xs i).o.text⟩, (gd xs i).A, (gd xs i).c⟩ : LO)) lo hi ∧ Kx (Mine lo hi) w16 W, .eq 0 (.slice A xs.length c), .eq 1 (.int .i64 (l + 1 + 1 + 1 + ((gd xs i).o.deps.length : Int) + 1 + 1)), .eq 5 (.int .i64 i), .w (Below w16.heap.size w16)] 102 [[6], [8], [7], [0, 1], [3], [4, 2, 9]] [[], [], [], [], [], [9]] [5, 6, 7, 8] hM hN hD (by kernel_rfl) ⟨s0, s1, s5, ⟨Below.refl _ _, below_drew (Below.refl _ _)⟩, trivial⟩ ⟨fun _ _ hb h => ⟨h.1.below hb, h.2.step hb⟩, fun _ _ hb h => below_step h hb, trivial⟩ (fun hgrow => ⟨fun _ _ h => rv rfl (x_move rfl h.1) rfl,
      fun _ _ h => rv rfl (x_move rfl h.1) rfl,
      fun _ _ h => rv rfl (x_move rfl h.1) rfl,
      fun _ _ h => rv rfl (x_index_at rfl h.1 h.2.1 Try.underlying27 sz67 hi0 hi2 (HOW.ad hi0 (by rw [List.length_set, mkU_length]; exact hi2))) rfl,
      fun _ _ h => rv rfl (x_field rfl h.1 Try.underlying67 rfl sz3 (by decide) rfl) rfl,
      ?_, trivial⟩) ?_
    · rintro a_ W ⟨h4, h2, h9, -⟩
      exact rstoreE (E := eLO) (j := 6) (x1 := (⟨⟨l, l + 1, l + 1 + 1, mk (l + 1 + 1 + 1) (gd xs i).o.deps.length, l + 1 + 1 + 1 + ((gd xs i).o.deps.length : Int), l + 1 + 1 + 1 + ((gd xs i).o.deps.length : Int) + 1, l + 1 + 1 + 1 + ((gd xs i).o.deps.length : Int) + 1 + 1, (gd xs i).o.undo, (gd xs i).o.att, (gd xs i).o.ata, (gd xs i).o.key, (gd xs i).o.text⟩, (gd xs i).A, (gd xs i).c⟩ : LO)) rfl rfl h4 (add_add _ _ _) h2 rfl sz3 HOW h9 (by rw [mkU_length]; omega) rfl rfl (by decide) (fun W2 u1 u2 => ⟨u1, u2⟩) trivial
    clear s0 s5 s1
    clear hN hD
    clear HOW
    rintro a17 w17 hN hD ⟨⟨HOWN, hkx⟩, s0, s1, s5, -⟩
    replace HKX := (kx_tr HKX hkx)
    have HOW := HOWN
    clear HOWN
    show Code.wp _ _ _ _ _
    refine wp_seq ?_
    refine deedL [.eq 60 (.int .i64 (l + 1 + 1 + 1 + ((gd xs i).o.deps.length : Int) + 1 + 1)), .eq 61 (.int .i64 (l + 1 + 1 + 1 + ((gd xs i).o.deps.length : Int) + 1 + 1 + 1)), .eq 1 (.int .i64 (l + 1 + 1 + 1 + ((gd xs i).o.deps.length : Int) + 1 + 1 + 1)), .eq 0 (.slice A xs.length c), .eq 1 (.int .i64 (l + 1 + 1 + 1 + ((gd xs i).o.deps.length : Int) + 1 + 1)), .eq 5 (.int .i64 i), .w (Below w17.heap.size w17)] 102 [[4], [0], [1]] [[], [], [4]] [2, 3, 5, 6] hM hN hD (by kernel_rfl) ⟨s0, s1, s5, ⟨Below.refl _ _, below_drew (Below.refl _ _)⟩, trivial⟩ ⟨fun _ _ hb h => below_step h hb, trivial⟩ (fun hgrow => ⟨fun _ _ h => rv rfl (x_move rfl h.1) rfl,
      fun _ _ h => rv rfl (x_add' rfl h.1 rfl (by omega)) rfl,
      fun _ _ h => rv rfl (x_assign rfl h.1) rfl, trivial⟩) ?_
    clear s0 s1 s5
    clear hN hD
    rintro a18 w18 hN hD ⟨s1, s0, s5, hGR, -⟩
    replace HKX := HKX.step hGR
    replace HOW := HOW.below hGR
    clear hGR
    show Code.wp _ _ _ _ _
    refine wp_seq ?_
    refine deedL [.eq 62 (.slice A xs.length c), .eq 63 (.int .i64 i), .eq 64 (.int .i64 (l + 1 + 1 + 1 + ((gd xs i).o.deps.length : Int) + 1 + 1 + 1)), .eq 65 (.pointer (some ((adr A).add (i.toNat * 12)))), .eq 66 (.pointer (some (((adr A).add (i.toNat * 12)).add 7))), .w fun W => OwnAt eLO W A ((mkU mLO xs k i.toNat).set i.toNat (⟨⟨l, l + 1, l + 1 + 1, mk (l + 1 + 1 + 1) (gd xs i).o.deps.length, l + 1 + 1 + 1 + ((gd xs i).o.deps.length : Int), l + 1 + 1 + 1 + ((gd xs i).o.deps.length : Int) + 1, l + 1 + 1 + 1 + ((gd xs i).o.deps.length : Int) + 1 + 1, l + 1 + 1 + 1 + ((gd xs i).o.deps.length : Int) + 1 + 1 + 1, (gd xs i).o.att, (gd xs i).o.ata, (gd xs i).o.key, (gd xs i).o.text⟩, (gd xs i).A, (gd xs i).c⟩ : LO)) lo hi ∧ Kx (Mine lo hi) w18 W, .eq 0 (.slice A xs.length c), .eq 1 (.int .i64 (l + 1 + 1 + 1 + ((gd xs i).o.deps.length : Int) + 1 + 1 + 1)), .eq 5 (.int .i64 i), .w (Below w18.heap.size w18)] 102 [[6], [8], [7], [0, 1], [3], [4, 2, 9]] [[], [], [], [], [], [9]] [5, 6, 7, 8] hM hN hD (by kernel_rfl) ⟨s0, s1, s5, ⟨Below.refl _ _, below_drew (Below.refl _ _)⟩, trivial⟩ ⟨fun _ _ hb h => ⟨h.1.below hb, h.2.step hb⟩, fun _ _ hb h => below_step h hb, trivial⟩ (fun hgrow => ⟨fun _ _ h => rv rfl (x_move rfl h.1) rfl,
      fun _ _ h => rv rfl (x_move rfl h.1) rfl,
      fun _ _ h => rv rfl (x_move rfl h.1) rfl,
      fun _ _ h => rv rfl (x_index_at rfl h.1 h.2.1 Try.underlying27 sz67 hi0 hi2 (HOW.ad hi0 (by rw [List.length_set, mkU_length]; exact hi2))) rfl,
      fun _ _ h => rv rfl (x_field rfl h.1 Try.underlying67 rfl sz3 (by decide) rfl) rfl,
      ?_, trivial⟩) ?_
    · rintro a_ W ⟨h4, h2, h9, -⟩
      exact rstoreE (E := eLO) (j := 7) (x1 := (⟨⟨l, l + 1, l + 1 + 1, mk (l + 1 + 1 + 1) (gd xs i).o.deps.length, l + 1 + 1 + 1 + ((gd xs i).o.deps.length : Int), l + 1 + 1 + 1 + ((gd xs i).o.deps.length : Int) + 1, l + 1 + 1 + 1 + ((gd xs i).o.deps.length : Int) + 1 + 1, l + 1 + 1 + 1 + ((gd xs i).o.deps.length : Int) + 1 + 1 + 1, (gd xs i).o.att, (gd xs i).o.ata, (gd xs i).o.key, (gd xs i).o.text⟩, (gd xs i).A, (gd xs i).c⟩ : LO)) rfl rfl h4 (add_add _ _ _) h2 rfl sz3 HOW h9 (by rw [mkU_length]; omega) rfl rfl (by decide) (fun W2 u1 u2 => ⟨u1, u2⟩) trivial
    clear s0 s5 s1
    clear hN hD
    clear HOW
    rintro a19 w19 hN hD ⟨⟨HOWN, hkx⟩, s0, s1, s5, -⟩
    replace HKX := (kx_tr HKX hkx)
    have HOW := HOWN
    clear HOWN
    show Code.wp _ _ _ _ _
    refine wp_seq ?_
    refine deedL [.eq 67 (.int .i64 (l + 1 + 1 + 1 + ((gd xs i).o.deps.length : Int) + 1 + 1 + 1)), .eq 68 (.int .i64 (l + 1 + 1 + 1 + ((gd xs i).o.deps.length : Int) + 1 + 1 + 1 + 1)), .eq 1 (.int .i64 (l + 1 + 1 + 1 + ((gd xs i).o.deps.length : Int) + 1 + 1 + 1 + 1)), .eq 0 (.slice A xs.length c), .eq 1 (.int .i64 (l + 1 + 1 + 1 + ((gd xs i).o.deps.length : Int) + 1 + 1 + 1)), .eq 5 (.int .i64 i), .w (Below w19.heap.size w19)] 102 [[4], [0], [1]] [[], [], [4]] [2, 3, 5, 6] hM hN hD (by kernel_rfl) ⟨s0, s1, s5, ⟨Below.refl _ _, below_drew (Below.refl _ _)⟩, trivial⟩ ⟨fun _ _ hb h => below_step h hb, trivial⟩ (fun hgrow => ⟨fun _ _ h => rv rfl (x_move rfl h.1) rfl,
      fun _ _ h => rv rfl (x_add' rfl h.1 rfl (by omega)) rfl,
      fun _ _ h => rv rfl (x_assign rfl h.1) rfl, trivial⟩) ?_
    clear s0 s1 s5
    clear hN hD
    rintro a20 w20 hN hD ⟨s1, s0, s5, hGR, -⟩
    replace HKX := HKX.step hGR
    replace HOW := HOW.below hGR
    clear hGR
    show Code.wp _ _ _ _ _
    refine wp_seq ?_
    refine deedL [.eq 69 (.slice A xs.length c), .eq 70 (.int .i64 i), .eq 71 (.int .i64 (l + 1 + 1 + 1 + ((gd xs i).o.deps.length : Int) + 1 + 1 + 1 + 1)), .eq 72 (.pointer (some ((adr A).add (i.toNat * 12)))), .eq 73 (.pointer (some (((adr A).add (i.toNat * 12)).add 8))), .eq 74 (.pointer (some (((adr A).add (i.toNat * 12)).add 8))), .w fun W => OwnAt eLO W A ((mkU mLO xs k i.toNat).set i.toNat (⟨⟨l, l + 1, l + 1 + 1, mk (l + 1 + 1 + 1) (gd xs i).o.deps.length, l + 1 + 1 + 1 + ((gd xs i).o.deps.length : Int), l + 1 + 1 + 1 + ((gd xs i).o.deps.length : Int) + 1, l + 1 + 1 + 1 + ((gd xs i).o.deps.length : Int) + 1 + 1, l + 1 + 1 + 1 + ((gd xs i).o.deps.length : Int) + 1 + 1 + 1, l + 1 + 1 + 1 + ((gd xs i).o.deps.length : Int) + 1 + 1 + 1 + 1, (gd xs i).o.ata, (gd xs i).o.key, (gd xs i).o.text⟩, (gd xs i).A, (gd xs i).c⟩ : LO)) lo hi ∧ Kx (Mine lo hi) w20 W, .eq 0 (.slice A xs.length c), .eq 1 (.int .i64 (l + 1 + 1 + 1 + ((gd xs i).o.deps.length : Int) + 1 + 1 + 1 + 1)), .eq 5 (.int .i64 i), .w (Below w20.heap.size w20)] 102 [[7], [9], [8], [0, 1], [3], [4], [5, 2, 10]] [[], [], [], [], [], [], [10]] [6, 7, 8, 9] hM hN hD (by kernel_rfl) ⟨s0, s1, s5, ⟨Below.refl _ _, below_drew (Below.refl _ _)⟩, trivial⟩ ⟨fun _ _ hb h => ⟨h.1.below hb, h.2.step hb⟩, fun _ _ hb h => below_step h hb, trivial⟩ (fun hgrow => ⟨fun _ _ h => rv rfl (x_move rfl h.1) rfl,
      fun _ _ h => rv rfl (x_move rfl h.1) rfl,
      fun _ _ h => rv rfl (x_move rfl h.1) rfl,
      fun _ _ h => rv rfl (x_index_at rfl h.1 h.2.1 Try.underlying27 sz67 hi0 hi2 (HOW.ad hi0 (by rw [List.length_set, mkU_length]; exact hi2))) rfl,
      fun _ _ h => rv rfl (x_field rfl h.1 Try.underlying67 rfl sz65 (by decide) rfl) rfl,
      fun _ _ h => rv rfl (x_field rfl h.1 Try.underlying65 rfl sz3 (by decide) rfl) rfl,
      ?_, trivial⟩) ?_
    · rintro a_ W ⟨h5, h2, h10, -⟩
      exact rstoreE (E := eLO) (j := 8) (x1 := (⟨⟨l, l + 1, l + 1 + 1, mk (l + 1 + 1 + 1) (gd xs i).o.deps.length, l + 1 + 1 + 1 + ((gd xs i).o.deps.length : Int), l + 1 + 1 + 1 + ((gd xs i).o.deps.length : Int) + 1, l + 1 + 1 + 1 + ((gd xs i).o.deps.length : Int) + 1 + 1, l + 1 + 1 + 1 + ((gd xs i).o.deps.length : Int) + 1 + 1 + 1, l + 1 + 1 + 1 + ((gd xs i).o.deps.length : Int) + 1 + 1 + 1 + 1, (gd xs i).o.ata, (gd xs i).o.key, (gd xs i).o.text⟩, (gd xs i).A, (gd xs i).c⟩ : LO)) rfl rfl h5 (add_add _ _ _) h2 rfl sz3 HOW h10 (by rw [mkU_length]; omega) rfl rfl (by decide) (fun W2 u1 u2 => ⟨u1, u2⟩) trivial
    clear s0 s5 s1
    clear hN hD
    clear HOW
    rintro a21 w21 hN hD ⟨⟨HOWN, hkx⟩, s0, s1, s5, -⟩
    replace HKX := (kx_tr HKX hkx)
    have HOW := HOWN
    clear HOWN
    show Code.wp _ _ _ _ _
    refine wp_seq ?_
    refine deedL [.eq 75 (.int .i64 (l + 1 + 1 + 1 + ((gd xs i).o.deps.length : Int) + 1 + 1 + 1 + 1)), .eq 76 (.int .i64 (l + 1 + 1 + 1 + ((gd xs i).o.deps.length : Int) + 1 + 1 + 1 + 1 + 1)), .eq 1 (.int .i64 (l + 1 + 1 + 1 + ((gd xs i).o.deps.length : Int) + 1 + 1 + 1 + 1 + 1)), .eq 0 (.slice A xs.length c), .eq 1 (.int .i64 (l + 1 + 1 + 1 + ((gd xs i).o.deps.length : Int) + 1 + 1 + 1 + 1)), .eq 5 (.int .i64 i), .w (Below w21.heap.size w21)] 102 [[4], [0], [1]] [[], [], [4]] [2, 3, 5, 6] hM hN hD (by kernel_rfl) ⟨s0, s1, s5, ⟨Below.refl _ _, below_drew (Below.refl _ _)⟩, trivial⟩ ⟨fun _ _ hb h => below_step h hb, trivial⟩ (fun hgrow => ⟨fun _ _ h => rv rfl (x_move rfl h.1) rfl,
      fun _ _ h => rv rfl (x_add' rfl h.1 rfl (by omega)) rfl,
      fun _ _ h => rv rfl (x_assign rfl h.1) rfl, trivial⟩) ?_
    clear s0 s1 s5
    clear hN hD
    rintro a22 w22 hN hD ⟨s1, s0, s5, hGR, -⟩
    replace HKX := HKX.step hGR
    replace HOW := HOW.below hGR
    clear hGR
    show Code.wp _ _ _ _ _
    refine wp_seq ?_
    refine deedL [.eq 77 (.slice A xs.length c), .eq 78 (.int .i64 i), .eq 79 (.int .i64 (l + 1 + 1 + 1 + ((gd xs i).o.deps.length : Int) + 1 + 1 + 1 + 1 + 1)), .eq 80 (.pointer (some ((adr A).add (i.toNat * 12)))), .eq 81 (.pointer (some (((adr A).add (i.toNat * 12)).add 8))), .eq 82 (.pointer (some ((((adr A).add (i.toNat * 12)).add 8).add 1))), .w fun W => OwnAt eLO W A ((mkU mLO xs k i.toNat).set i.toNat (⟨⟨l, l + 1, l + 1 + 1, mk (l + 1 + 1 + 1) (gd xs i).o.deps.length, l + 1 + 1 + 1 + ((gd xs i).o.deps.length : Int), l + 1 + 1 + 1 + ((gd xs i).o.deps.length : Int) + 1, l + 1 + 1 + 1 + ((gd xs i).o.deps.length : Int) + 1 + 1, l + 1 + 1 + 1 + ((gd xs i).o.deps.length : Int) + 1 + 1 + 1, l + 1 + 1 + 1 + ((gd xs i).o.deps.length : Int) + 1 + 1 + 1 + 1, l + 1 + 1 + 1 + ((gd xs i).o.deps.length : Int) + 1 + 1 + 1 + 1 + 1, (gd xs i).o.key, (gd xs i).o.text⟩, (gd xs i).A, (gd xs i).c⟩ : LO)) lo hi ∧ Kx (Mine lo hi) w22 W, .eq 0 (.slice A xs.length c), .eq 1 (.int .i64 (l + 1 + 1 + 1 + ((gd xs i).o.deps.length : Int) + 1 + 1 + 1 + 1 + 1)), .eq 5 (.int .i64 i), .w (Below w22.heap.size w22)] 102 [[7], [9], [8], [0, 1], [3], [4], [5, 2, 10]] [[], [], [], [], [], [], [10]] [6, 7, 8, 9] hM hN hD (by kernel_rfl) ⟨s0, s1, s5, ⟨Below.refl _ _, below_drew (Below.refl _ _)⟩, trivial⟩ ⟨fun _ _ hb h => ⟨h.1.below hb, h.2.step hb⟩, fun _ _ hb h => below_step h hb, trivial⟩ (fun hgrow => ⟨fun _ _ h => rv rfl (x_move rfl h.1) rfl,
      fun _ _ h => rv rfl (x_move rfl h.1) rfl,
      fun _ _ h => rv rfl (x_move rfl h.1) rfl,
      fun _ _ h => rv rfl (x_index_at rfl h.1 h.2.1 Try.underlying27 sz67 hi0 hi2 (HOW.ad hi0 (by rw [List.length_set, mkU_length]; exact hi2))) rfl,
      fun _ _ h => rv rfl (x_field rfl h.1 Try.underlying67 rfl sz65 (by decide) rfl) rfl,
      fun _ _ h => rv rfl (x_field rfl h.1 Try.underlying65 rfl sz3 (by decide) rfl) rfl,
      ?_, trivial⟩) ?_
    · rintro a_ W ⟨h5, h2, h10, -⟩
      exact rstoreE (E := eLO) (j := 9) (x1 := (⟨⟨l, l + 1, l + 1 + 1, mk (l + 1 + 1 + 1) (gd xs i).o.deps.length, l + 1 + 1 + 1 + ((gd xs i).o.deps.length : Int), l + 1 + 1 + 1 + ((gd xs i).o.deps.length : Int) + 1, l + 1 + 1 + 1 + ((gd xs i).o.deps.length : Int) + 1 + 1, l + 1 + 1 + 1 + ((gd xs i).o.deps.length : Int) + 1 + 1 + 1, l + 1 + 1 + 1 + ((gd xs i).o.deps.length : Int) + 1 + 1 + 1 + 1, l + 1 + 1 + 1 + ((gd xs i).o.deps.length : Int) + 1 + 1 + 1 + 1 + 1, (gd xs i).o.key, (gd xs i).o.text⟩, (gd xs i).A, (gd xs i).c⟩ : LO)) rfl rfl h5 ((add_add _ _ _).trans (add_add _ _ _)) h2 rfl sz3 HOW h10 (by rw [mkU_length]; omega) rfl rfl (by decide) (fun W2 u1 u2 => ⟨u1, u2⟩) trivial
    clear s0 s5 s1
    clear hN hD
    clear HOW
    rintro a23 w23 hN hD ⟨⟨HOWN, hkx⟩, s0, s1, s5, -⟩
    replace HKX := (kx_tr HKX hkx)
    have HOW := HOWN
    clear HOWN
    show Code.wp _ _ _ _ _
    refine wp_seq ?_
    refine deedL [.eq 83 (.int .i64 (l + 1 + 1 + 1 + ((gd xs i).o.deps.length : Int) + 1 + 1 + 1 + 1 + 1)), .eq 84 (.int .i64 (l + 1 + 1 + 1 + ((gd xs i).o.deps.length : Int) + 1 + 1 + 1 + 1 + 1 + 1)), .eq 1 (.int .i64 (l + 1 + 1 + 1 + ((gd xs i).o.deps.length : Int) + 1 + 1 + 1 + 1 + 1 + 1)), .eq 0 (.slice A xs.length c), .eq 1 (.int .i64 (l + 1 + 1 + 1 + ((gd xs i).o.deps.length : Int) + 1 + 1 + 1 + 1 + 1)), .eq 5 (.int .i64 i), .w (Below w23.heap.size w23)] 102 [[4], [0], [1]] [[], [], [4]] [2, 3, 5, 6] hM hN hD (by kernel_rfl) ⟨s0, s1, s5, ⟨Below.refl _ _, below_drew (Below.refl _ _)⟩, trivial⟩ ⟨fun _ _ hb h => below_step h hb, trivial⟩ (fun hgrow => ⟨fun _ _ h => rv rfl (x_move rfl h.1) rfl,
      fun _ _ h => rv rfl (x_add' rfl h.1 rfl (by omega)) rfl,
      fun _ _ h => rv rfl (x_assign rfl h.1) rfl, trivial⟩) ?_
    clear s0 s1 s5
    clear hN hD
    rintro a24 w24 hN hD ⟨s1, s0, s5, hGR, -⟩
    replace HKX := HKX.step hGR
    replace HOW := HOW.below hGR
    clear hGR
    show Code.wp _ _ _ _ _
    refine wp_seq ?_
    refine deedL [.eq 85 (.slice A xs.length c), .eq 86 (.int .i64 i), .eq 87 (.int .i64 (l + 1 + 1 + 1 + ((gd xs i).o.deps.length : Int) + 1 + 1 + 1 + 1 + 1 + 1)), .eq 88 (.string (mtext (l + 1 + 1 + 1 + ((gd xs i).o.deps.length : Int) + 1 + 1 + 1 + 1 + 1 + 1))), .eq 89 (.pointer (some ((adr A).add (i.toNat * 12)))), .eq 90 (.pointer (some (((adr A).add (i.toNat * 12)).add 10))), .w fun W => OwnAt eLO W A ((mkU mLO xs k i.toNat).set i.toNat (⟨⟨l, l + 1, l + 1 + 1, mk (l + 1 + 1 + 1) (gd xs i).o.deps.length, l + 1 + 1 + 1 + ((gd xs i).o.deps.length : Int), l + 1 + 1 + 1 + ((gd xs i).o.deps.length : Int) + 1, l + 1 + 1 + 1 + ((gd xs i).o.deps.length : Int) + 1 + 1, l + 1 + 1 + 1 + ((gd xs i).o.deps.length : Int) + 1 + 1 + 1, l + 1 + 1 + 1 + ((gd xs i).o.deps.length : Int) + 1 + 1 + 1 + 1, l + 1 + 1 + 1 + ((gd xs i).o.deps.length : Int) + 1 + 1 + 1 + 1 + 1, mtext (l + 1 + 1 + 1 + ((gd xs i).o.deps.length : Int) + 1 + 1 + 1 + 1 + 1 + 1), (gd xs i).o.text⟩, (gd xs i).A, (gd xs i).c⟩ : LO)) lo hi ∧ Kx (Mine lo hi) w24 W, .eq 0 (.slice A xs.length c), .eq 1 (.int .i64 (l + 1 + 1 + 1 + ((gd xs i).o.deps.length : Int) + 1 + 1 + 1 + 1 + 1 + 1)), .eq 5 (.int .i64 i), .w (Below w24.heap.size w24)] 102 [[7], [9], [8], [2], [0, 1], [4], [5, 3, 10]] [[], [], [], [], [], [], [10]] [6, 7, 8, 9] hM hN hD (by kernel_rfl) ⟨s0, s1, s5, ⟨Below.refl _ _, below_drew (Below.refl _ _)⟩, trivial⟩ ⟨fun _ _ hb h => ⟨h.1.below hb, h.2.step hb⟩, fun _ _ hb h => below_step h hb, trivial⟩ (fun hgrow => ⟨fun _ _ h => rv rfl (x_move rfl h.1) rfl,
      fun _ _ h => rv rfl (x_move rfl h.1) rfl,
      fun _ _ h => rv rfl (x_move rfl h.1) rfl,
      fun _ _ h => rc hgrow rfl Try.func52 (by kernel_rfl) rfl rfl (args1 h.1) (mtext_calls (l + 1 + 1 + 1 + ((gd xs i).o.deps.length : Int) + 1 + 1 + 1 + 1 + 1 + 1) _ (by omega)) (fun _ _ h => ⟨_, h.1, h.2, rfl⟩),
      fun _ _ h => rv rfl (x_index_at rfl h.1 h.2.1 Try.underlying27 sz67 hi0 hi2 (HOW.ad hi0 (by rw [List.length_set, mkU_length]; exact hi2))) rfl,
      fun _ _ h => rv rfl (x_field rfl h.1 Try.underlying67 rfl sz9 (by decide) rfl) rfl,
      ?_, trivial⟩) ?_
    · rintro a_ W ⟨h5, h3, h10, -⟩
      exact rstoreE (E := eLO) (j := 10) (x1 := (⟨⟨l, l + 1, l + 1 + 1, mk (l + 1 + 1 + 1) (gd xs i).o.deps.length, l + 1 + 1 + 1 + ((gd xs i).o.deps.length : Int), l + 1 + 1 + 1 + ((gd xs i).o.deps.length : Int) + 1, l + 1 + 1 + 1 + ((gd xs i).o.deps.length : Int) + 1 + 1, l + 1 + 1 + 1 + ((gd xs i).o.deps.length : Int) + 1 + 1 + 1, l + 1 + 1 + 1 + ((gd xs i).o.deps.length : Int) + 1 + 1 + 1 + 1, l + 1 + 1 + 1 + ((gd xs i).o.deps.length : Int) + 1 + 1 + 1 + 1 + 1, mtext (l + 1 + 1 + 1 + ((gd xs i).o.deps.length : Int) + 1 + 1 + 1 + 1 + 1 + 1), (gd xs i).o.text⟩, (gd xs i).A, (gd xs i).c⟩ : LO)) rfl rfl h5 (add_add _ _ _) h3 rfl sz9 HOW h10 (by rw [mkU_length]; omega) rfl rfl (by decide) (fun W2 u1 u2 => ⟨u1, u2⟩) trivial
    clear s0 s5 s1
    clear hN hD
    clear HOW
    rintro a25 w25 hN hD ⟨⟨HOWN, hkx⟩, s0, s1, s5, -⟩
    replace HKX := (kx_tr HKX hkx)
    have HOW := HOWN
    clear HOWN
    show Code.wp _ _ _ _ _
    refine wp_seq ?_
    refine deedL [.eq 91 (.int .i64 (l + 1 + 1 + 1 + ((gd xs i).o.deps.length : Int) + 1 + 1 + 1 + 1 + 1 + 1)), .eq 92 (.int .i64 (l + 1 + 1 + 1 + ((gd xs i).o.deps.length : Int) + 1 + 1 + 1 + 1 + 1 + 1 + 1)), .eq 1 (.int .i64 (l + 1 + 1 + 1 + ((gd xs i).o.deps.length : Int) + 1 + 1 + 1 + 1 + 1 + 1 + 1)), .eq 0 (.slice A xs.length c), .eq 1 (.int .i64 (l + 1 + 1 + 1 + ((gd xs i).o.deps.length : Int) + 1 + 1 + 1 + 1 + 1 + 1)), .eq 5 (.int .i64 i), .w (Below w25.heap.size w25)] 102 [[4], [0], [1]] [[], [], [4]] [2, 3, 5, 6] hM hN hD (by kernel_rfl) ⟨s0, s1, s5, ⟨Below.refl _ _, below_drew (Below.refl _ _)⟩, trivial⟩ ⟨fun _ _ hb h => below_step h hb, trivial⟩ (fun hgrow => ⟨fun _ _ h => rv rfl (x_move rfl h.1) rfl,
      fun _ _ h => rv rfl (x_add' rfl h.1 rfl (by omega)) rfl,
      fun _ _ h => rv rfl (x_assign rfl h.1) rfl, trivial⟩) ?_
    clear s0 s1 s5
    clear hN hD
    rintro a26 w26 hN hD ⟨s1, s0, s5, hGR, -⟩
    replace HKX := HKX.step hGR
    replace HOW := HOW.below hGR
    clear hGR
    show Code.wp _ _ _ _ _
    refine wp_seq ?_
    refine deedL [.eq 93 (.slice A xs.length c), .eq 94 (.int .i64 i), .eq 95 (.int .i64 (l + 1 + 1 + 1 + ((gd xs i).o.deps.length : Int) + 1 + 1 + 1 + 1 + 1 + 1 + 1)), .eq 96 (.string (mtext (l + 1 + 1 + 1 + ((gd xs i).o.deps.length : Int) + 1 + 1 + 1 + 1 + 1 + 1 + 1))), .eq 97 (.pointer (some ((adr A).add (i.toNat * 12)))), .eq 98 (.pointer (some (((adr A).add (i.toNat * 12)).add 11))), .w fun W => OwnAt eLO W A ((mkU mLO xs k i.toNat).set i.toNat (⟨⟨l, l + 1, l + 1 + 1, mk (l + 1 + 1 + 1) (gd xs i).o.deps.length, l + 1 + 1 + 1 + ((gd xs i).o.deps.length : Int), l + 1 + 1 + 1 + ((gd xs i).o.deps.length : Int) + 1, l + 1 + 1 + 1 + ((gd xs i).o.deps.length : Int) + 1 + 1, l + 1 + 1 + 1 + ((gd xs i).o.deps.length : Int) + 1 + 1 + 1, l + 1 + 1 + 1 + ((gd xs i).o.deps.length : Int) + 1 + 1 + 1 + 1, l + 1 + 1 + 1 + ((gd xs i).o.deps.length : Int) + 1 + 1 + 1 + 1 + 1, mtext (l + 1 + 1 + 1 + ((gd xs i).o.deps.length : Int) + 1 + 1 + 1 + 1 + 1 + 1), mtext (l + 1 + 1 + 1 + ((gd xs i).o.deps.length : Int) + 1 + 1 + 1 + 1 + 1 + 1 + 1)⟩, (gd xs i).A, (gd xs i).c⟩ : LO)) lo hi ∧ Kx (Mine lo hi) w26 W, .eq 0 (.slice A xs.length c), .eq 1 (.int .i64 (l + 1 + 1 + 1 + ((gd xs i).o.deps.length : Int) + 1 + 1 + 1 + 1 + 1 + 1 + 1)), .eq 5 (.int .i64 i), .w (Below w26.heap.size w26)] 102 [[7], [9], [8], [2], [0, 1], [4], [5, 3, 10]] [[], [], [], [], [], [], [10]] [6, 7, 8, 9] hM hN hD (by kernel_rfl) ⟨s0, s1, s5, ⟨Below.refl _ _, below_drew (Below.refl _ _)⟩, trivial⟩ ⟨fun _ _ hb h => ⟨h.1.below hb, h.2.step hb⟩, fun _ _ hb h => below_step h hb, trivial⟩ (fun hgrow => ⟨fun _ _ h => rv rfl (x_move rfl h.1) rfl,
      fun _ _ h => rv rfl (x_move rfl h.1) rfl,
      fun _ _ h => rv rfl (x_move rfl h.1) rfl,
      fun _ _ h => rc hgrow rfl Try.func52 (by kernel_rfl) rfl rfl (args1 h.1) (mtext_calls (l + 1 + 1 + 1 + ((gd xs i).o.deps.length : Int) + 1 + 1 + 1 + 1 + 1 + 1 + 1) _ (by omega)) (fun _ _ h => ⟨_, h.1, h.2, rfl⟩),
      fun _ _ h => rv rfl (x_index_at rfl h.1 h.2.1 Try.underlying27 sz67 hi0 hi2 (HOW.ad hi0 (by rw [List.length_set, mkU_length]; exact hi2))) rfl,
      fun _ _ h => rv rfl (x_field rfl h.1 Try.underlying67 rfl sz9 (by decide) rfl) rfl,
      ?_, trivial⟩) ?_
    · rintro a_ W ⟨h5, h3, h10, -⟩
      exact rstoreE (E := eLO) (j := 11) (x1 := (⟨⟨l, l + 1, l + 1 + 1, mk (l + 1 + 1 + 1) (gd xs i).o.deps.length, l + 1 + 1 + 1 + ((gd xs i).o.deps.length : Int), l + 1 + 1 + 1 + ((gd xs i).o.deps.length : Int) + 1, l + 1 + 1 + 1 + ((gd xs i).o.deps.length : Int) + 1 + 1, l + 1 + 1 + 1 + ((gd xs i).o.deps.length : Int) + 1 + 1 + 1, l + 1 + 1 + 1 + ((gd xs i).o.deps.length : Int) + 1 + 1 + 1 + 1, l + 1 + 1 + 1 + ((gd xs i).o.deps.length : Int) + 1 + 1 + 1 + 1 + 1, mtext (l + 1 + 1 + 1 + ((gd xs i).o.deps.length : Int) + 1 + 1 + 1 + 1 + 1 + 1), mtext (l + 1 + 1 + 1 + ((gd xs i).o.deps.length : Int) + 1 + 1 + 1 + 1 + 1 + 1 + 1)⟩, (gd xs i).A, (gd xs i).c⟩ : LO)) rfl rfl h5 (add_add _ _ _) h3 rfl sz9 HOW h10 (by rw [mkU_length]; omega) rfl rfl (by decide) (fun W2 u1 u2 => ⟨u1, u2⟩) trivial
    clear s0 s5 s1
    clear hN hD
    clear HOW
    rintro a27 w27 hN hD ⟨⟨HOWN, hkx⟩, s0, s1, s5, -⟩
    replace HKX := (kx_tr HKX hkx)
    have HOW := HOWN
    clear HOWN
    show Code.wp _ _ _ _ _
    refine deedL [.eq 99 (.int .i64 (l + 1 + 1 + 1 + ((gd xs i).o.deps.length : Int) + 1 + 1 + 1 + 1 + 1 + 1 + 1)), .eq 100 (.int .i64 (l + 1 + 1 + 1 + ((gd xs i).o.deps.length : Int) + 1 + 1 + 1 + 1 + 1 + 1 + 1 + 1)), .eq 1 (.int .i64 (l + 1 + 1 + 1 + ((gd xs i).o.deps.length : Int) + 1 + 1 + 1 + 1 + 1 + 1 + 1 + 1)), .eq 0 (.slice A xs.length c), .eq 1 (.int .i64 (l + 1 + 1 + 1 + ((gd xs i).o.deps.length : Int) + 1 + 1 + 1 + 1 + 1 + 1 + 1)), .eq 5 (.int .i64 i), .w (Below w27.heap.size w27)] 102 [[4], [0], [1]] [[], [], [4]] [2, 3, 5, 6] hM hN hD (by kernel_rfl) ⟨s0, s1, s5, ⟨Below.refl _ _, below_drew (Below.refl _ _)⟩, trivial⟩ ⟨fun _ _ hb h => below_step h hb, trivial⟩ (fun hgrow => ⟨fun _ _ h => rv rfl (x_move rfl h.1) rfl,
      fun _ _ h => rv rfl (x_add' rfl h.1 rfl (by omega)) rfl,
      fun _ _ h => rv rfl (x_assign rfl h.1) rfl, trivial⟩) ?_
    clear s0 s1 s5
    clear hN hD
    rintro a28 w28 hN hD ⟨s1, s0, s5, hGR, -⟩
    replace HKX := HKX.step hGR
    replace HOW := HOW.below hGR
    clear hGR
    show Code.wp _ _ _ _ _
    refine deedL [.eq 10 (.int .i64 i), .eq 11 (.int .i64 (i + 1)), .eq 5 (.int .i64 (i + 1)), .eq 0 (.slice A xs.length c), .eq 1 (.int .i64 (l + 1 + 1 + 1 + ((gd xs i).o.deps.length : Int) + 1 + 1 + 1 + 1 + 1 + 1 + 1 + 1)), .eq 5 (.int .i64 i), .w (Below w28.heap.size w28)] 102 [[5], [0], [1]] [[], [], [5]] [2, 3, 4, 6] hM hN hD (by kernel_rfl) ⟨s0, s1, s5, ⟨Below.refl _ _, below_drew (Below.refl _ _)⟩, trivial⟩ ⟨fun _ _ hb h => below_step h hb, trivial⟩ (fun hgrow => ⟨fun _ _ h => rv rfl (x_move rfl h.1) rfl,
      fun _ _ h => rv rfl (x_add' rfl h.1 rfl (by omega)) rfl,
      fun _ _ h => rv rfl (x_assign rfl h.1) rfl, trivial⟩) ?_
    clear s0 s5 s1
    clear hN hD
    rintro a29 w29 hN hD ⟨s5, s0, s1, hGR, -⟩
    replace HKX := HKX.step hGR
    replace HOW := HOW.below hGR
    clear hGR
    show ∃ m, m < n_3 ∧ _
    exact ⟨_, (by omega), ⟨(i + 1), (l + 1 + 1 + 1 + ((gd xs i).o.deps.length : Int) + 1 + 1 + 1 + 1 + 1 + 1 + 1 + 1), hN, hD, s0, s1, s5, (by have hu := mkU_set (M := mLO) (k := k) hi0 hi2; rw [← hl] at hu; rw [← hu]; exact HOW), HKX, (by omega), (by omega), (by rw [cntL_step hi0 hi2, show mLO.cnt (gd xs i) = 11 + ((gd xs i).o.deps.length : Int) from rfl]; omega), rfl⟩⟩
  · rw [cd5]
    show Code.wp _ _ _ _ _
    have pd5 := of_decide_eq_false cd5
    refine wp_exit (then_exit (then_exit (at_exit ?_)))
    show Code.wp _ _ _ _ _
    refine wp_seq ?_
    refine deedL [.eq 101 (.int .i64 l), .eq 4 (.int .i64 l), .eq 1 (.int .i64 l), .w (Below w4.heap.size w4)] 102 [[2], [0]] [] [1, 2, 3] hM hN hD (by kernel_rfl) ⟨s1, ⟨Below.refl _ _, below_drew (Below.refl _ _)⟩, trivial⟩ ⟨fun _ _ hb h => below_step h hb, trivial⟩ (fun hgrow => ⟨fun _ _ h => rv rfl (x_move rfl h.1) rfl,
      fun _ _ h => rv rfl (x_assign rfl h.1) rfl, trivial⟩) ?_
    clear s0 s1 s5 s9
    clear hN hD
    rintro a30 w30 hN hD ⟨s4, s1, hGR, -⟩
    replace HOW := HOW.below hGR
    replace HKX := HKX.step hGR
    clear hGR
    show Code.wp _ _ _ _ _
    refine wp_ret ?_
    refine bodyPost_ret (results_single rfl (vtmp s4 .nil)) hD ?_
    exact ⟨by rw [hl, List.take_of_length_le (by omega)], by rw [mkU_end (by omega)] at HOW; exact HOW, HKX⟩
set_option maxHeartbeats 2000000 in
theorem toseLO_calls (A : Option Addr) (xs : List LO) (c : Nat) (w : World) (HR : RV eLO w A xs) (hxn : xs.length ≤ 1048576) (hdl : ∀ x ∈ xs, x.o.deps.length ≤ 1048576) : Calls Try.prog 14 #[.slice A xs.length c] w fun e w' => ∃ A c ys, e = .returned (.slice A ys.length c) ∧ ys.length ≤ c ∧ OwnAt eLO w' A ys w.heap.size w'.heap.size ∧ ys.map LO.o = xs.map LO.o ∧ (∀ y ∈ ys, y.o.deps.length ≤ y.c) ∧ Below w.heap.size w w' := by
  refine calls_of_wp Try.func14 rfl ?_
  refine enter_ (N := 23) rfl ?_
  rintro a0 hN hD ⟨s0, -⟩
  have HB : Below w.heap.size w w := Below.refl _ _
  refine wp_seq ?_
  refine deedL [.eq 2 (.slice none 0 0), .eq 0 (.slice A xs.length c), .w (Below w.heap.size w)] 23 [[]] [] [1, 2] hM hN hD (by kernel_rfl) ⟨s0, ⟨Below.refl _ _, below_drew (Below.refl _ _)⟩, trivial⟩ ⟨fun _ _ hb h => below_step h hb, trivial⟩ (fun hgrow => ⟨fun _ _ _ => rv rfl (x_assign rfl rfl) rfl, trivial⟩) ?_
  clear s0
  clear hN hD
  rintro a1 w1 hN hD ⟨s0, hGR, -⟩
  replace HB := below_step HB hGR
  clear hGR
  show Code.wp _ _ _ _ _
  refine wp_seq ?_
  refine deedL [.eq 5 (.slice A xs.length c), .eq 6 (.int .i64 (xs.length : Int)), .s1 7 fun x_ W => ∃ (g7 : Nat), x_ = .slice (some ⟨g7, 0, none⟩) xs.length xs.length ∧ Cpy eLO W g7 w.heap.size xs.length [], .s2 7 3 fun x_ y_ _ => ∃ (g7 : Nat), x_ = .slice (some ⟨g7, 0, none⟩) xs.length xs.length ∧ y_ = .slice (some ⟨g7, 0, none⟩) xs.length xs.length, .eq 0 (.slice A xs.length c), .w (Below w1.heap.size w1)] 23 [[4], [0], [1, 5], [2]] [] [2, 3, 4, 5] hM hN hD (by kernel_rfl) ⟨s0, ⟨Below.refl _ _, below_drew (Below.refl _ _)⟩, trivial⟩ ⟨fun _ _ _ hb h => by obtain ⟨g7, e_, h1_⟩ := h; exact ⟨g7, e_, h1_.below hb⟩, fun _ _ _ _ hb h => h, fun _ _ hb h => below_step h hb, trivial⟩ (fun hgrow => ⟨fun _ _ h => rv rfl (x_move rfl h.1) rfl,
    fun _ _ h => rv rfl (x_len_slice rfl Try.underlying22 h.1) rfl,
    ?_,
    ?_, trivial⟩) ?_
  · rintro a_ W ⟨h1, h5, -⟩
    exact rmakeC (E := eLO) hgrow rfl rfl h1 h1 Try.underlying27 inf67 rfl rfl (by omega : xs.length ≤ 1048576) (by decide) (by decide) (Nat.le_trans HB.size h5.size) (fun g W2 u => ⟨g, rfl, u⟩)
  · rintro a_ W ⟨h2, -⟩
    obtain ⟨g7, e2, c2⟩ := h2
    exact rv rfl (x_assign rfl e2) ⟨_, e2, rfl⟩
  clear s0
  clear hN hD
  rintro a2 w2 hN hD ⟨⟨g7, s7, HCP⟩, q3, s0, hGR, -⟩
  obtain ⟨g7_, e_, s3⟩ := q3
  cases s7.symm.trans e_
  replace HB := below_step HB hGR
  clear hGR
  show Code.wp _ _ _ _ _
  refine wp_seq ?_
  refine wp_seq ?_
  refine deedL [.eq 4 (.int .i64 0), .eq 0 (.slice A xs.length c), .eq 3 (.slice (some ⟨g7, 0, none⟩) xs.length xs.length), .w (Below w2.heap.size w2)] 23 [[]] [] [0, 1, 2, 3] hM hN hD (by kernel_rfl) ⟨s0, s3, ⟨Below.refl _ _, below_drew (Below.refl _ _)⟩, trivial⟩ ⟨fun _ _ hb h => below_step h hb, trivial⟩ (fun hgrow => ⟨fun _ _ _ => rv rfl (x_assign rfl rfl) rfl, trivial⟩) ?_
  clear s0 s3
  clear hN hD
  rintro a3 w3 hN hD ⟨s4, s0, s3, hGR, -⟩
  replace HB := below_step HB hGR
  replace HCP := HCP.below hGR
  clear hGR
  show Code.wp _ _ _ _ _
  refine wp_block ?_
  have hlg : w.heap.size ≤ g7 := by obtain ⟨_, _, _, hq, _⟩ := HCP; exact hq
  refine wp_loopN (fun n_ q_ w_ => ∃ (i : Int) (ys : List LO), (q_.tmps.size = 23) ∧ (q_.defers = []) ∧ (sl q_ 0 = .slice A xs.length c) ∧ (sl q_ 3 = .slice (some ⟨g7, 0, none⟩) xs.length xs.length) ∧ (sl q_ 4 = .int .i64 i) ∧ (Below w.heap.size w w_) ∧ (Cpy eLO w_ g7 w.heap.size xs.length ys) ∧ (0 ≤ i) ∧ (i ≤ xs.length) ∧ (ys.length = i.toNat) ∧ (ys.map LO.o = (xs.take i.toNat).map LO.o) ∧ (∀ y ∈ ys, y.o.deps.length ≤ y.c) ∧ (n_ = (xs.length - i).toNat)) ((fun (i : Int) (ys : List LO) => (xs.length - i).toNat) 0 []) ?_ ?_
  · exact ⟨0, [], hN, hD, s0, s3, s4, HB, HCP, (by omega), (by omega), rfl, (by simp), (by simp), rfl⟩
  clear s0 s3 s4 HB HCP hN hD
  rintro n_4 a4 w4 ⟨i, ys, hN, hD, s0, s3, s4, HB, HCP, hi0, hi1, hyl, hym, hyc, hmeas⟩
  refine wp_seq ?_
  refine wp_seq ?_
  refine deedL [.eq 8 (.int .i64 i), .eq 9 (.slice A xs.length c), .eq 10 (.int .i64 (xs.length : Int)), .eq 11 (.bool (decide (i < (xs.length : Int)))), .eq 0 (.slice A xs.length c), .eq 3 (.slice (some ⟨g7, 0, none⟩) xs.length xs.length), .eq 4 (.int .i64 i), .w (Below w4.heap.size w4)] 23 [[6], [4], [1], [0, 2]] [] [3, 4, 5, 6, 7] hM hN hD (by kernel_rfl) ⟨s0, s3, s4, ⟨Below.refl _ _, below_drew (Below.refl _ _)⟩, trivial⟩ ⟨fun _ _ hb h => below_step h hb, trivial⟩ (fun hgrow => ⟨fun _ _ h => rv rfl (x_move rfl h.1) rfl,
    fun _ _ h => rv rfl (x_move rfl h.1) rfl,
    fun _ _ h => rv rfl (x_len_slice rfl Try.underlying22 h.1) rfl,
    fun _ _ h => rv rfl (x_lss rfl h.1 h.2.1) rfl, trivial⟩) ?_
  clear s0 s3 s4
  clear hN hD
  rintro a5 w5 hN hD ⟨s11, s0, s3, s4, hGR, -⟩
  replace HB := below_step HB hGR
  replace HCP := HCP.below hGR
  clear hGR
  show Code.wp _ _ _ _ _
  refine wp_cond (t := decide (i < (xs.length : Int))) s11 ?_
  rcases Bool.eq_false_or_eq_true (decide (i < (xs.length : Int))) with cd6 | cd6
  · rw [cd6]
    show Code.wp _ _ _ _ _
    have pd6 := of_decide_eq_true cd6
    have hi2 := pd6
    refine wp_skip ?_
    show Code.wp _ _ _ _ _
    refine wp_seq ?_
    refine wp_block ?_
    have hd := hdl _ (List.mem_of_getElem? (gd_of hi0 hi2))
    refine deedL [.eq 14 (.slice (some ⟨g7, 0, none⟩) xs.length xs.length), .eq 15 (.int .i64 i), .eq 16 (.slice A xs.length c), .eq 17 (.int .i64 i), .eq 18 (.pointer (some ((adr A).add (i.toNat * 12)))), .eq 19 (.agg (ecLO (gd xs i)).toArray), .s1 20 fun x_ W => ∃ (gt : Nat), x_ = .agg (opc (gd xs i).o (some ⟨gt, 0, none⟩) (gd xs i).o.deps.length).toArray ∧ w5.heap.size ≤ gt ∧ IB W gt ((gd xs i).o.deps) 3, .eq 21 (.pointer (some ⟨g7, i.toNat * 12, none⟩)), .w fun W => ∃ gt : Nat, Cpy eLO W g7 w.heap.size xs.length (ys ++ [⟨(gd xs i).o, some ⟨gt, 0, none⟩, (gd xs i).o.deps.length⟩]) ∧ Kx (fun k => k = g7) w5 W, .eq 0 (.slice A xs.length c), .eq 3 (.slice (some ⟨g7, 0, none⟩) xs.length xs.length), .eq 4 (.int .i64 i), .w (Below w5.heap.size w5)] 23 [[10], [11], [9], [11], [2, 3], [4, 12], [5, 12], [0, 1], [7, 6, 12]] [[], [], [], [], [], [], [], [], [6, 12]] [8, 9, 10, 11] hM hN hD (by kernel_rfl) ⟨s0, s3, s4, ⟨Below.refl _ _, below_drew (Below.refl _ _)⟩, trivial⟩ ⟨fun _ _ _ hb h => by obtain ⟨gt, e_, z0, z1⟩ := h; exact ⟨_, e_, z0, z1.below hb⟩, fun _ _ hb h => by obtain ⟨gt, u1, u2⟩ := h; exact ⟨gt, u1.below hb, u2.step hb⟩, fun _ _ hb h => below_step h hb, trivial⟩ (fun hgrow => ⟨fun _ _ h => rv rfl (x_move rfl h.1) rfl,
      fun _ _ h => rv rfl (x_move rfl h.1) rfl,
      fun _ _ h => rv rfl (x_move rfl h.1) rfl,
      fun _ _ h => rv rfl (x_move rfl h.1) rfl,
      fun _ _ h => rv rfl (x_index_at rfl h.1 h.2.1 Try.underlying22 sz63 (by omega) (by omega) (RV.ad HR i (by omega) (by omega))) rfl,
      fun _ _ h => rv rfl (x_loadS rfl h.1 Try.underlying63 (ecLO (gd xs i)) sz63 (RV.cells HR (below_step HB h.2.1) (by omega) (by omega))) rfl,
      fun _ _ h => rc hgrow rfl Try.func49 (by kernel_rfl) rfl rfl (args1 h.1) (toO_calls (gd xs i).o (gd xs i).A (gd xs i).c _ (RI.below (RV.inn HR (by omega) (by omega) rfl) (below_step HB h.2.1)) hd) (fun _ _ hR => by obtain ⟨gt, e_, z0, z1, hb⟩ := hR; exact ⟨_, e_, hb, gt, rfl, (Nat.le_trans h.2.1.size z0), z1⟩),
      fun _ _ h => rv rfl (x_index_slice rfl h.1 h.2.1 Try.underlying27 sz67 hi0 (by omega) (by rw [add_mk]; simp)) rfl,
      ?_, trivial⟩) ?_
    · rintro a_ W ⟨h7, h6, h12, -⟩
      obtain ⟨gt, ev_, hlo_, hgt_⟩ := h6
      exact rstoreC (E := eLO) (x1 := ⟨(gd xs i).o, some ⟨gt, 0, none⟩, (gd xs i).o.deps.length⟩) (i := i.toNat) rfl rfl h7 ev_ (by simp [eLO, Value.oneCell']) sz67 HCP hyl (by omega) h12 HB.size (fun _ _ h => by cases h; exact ⟨gt, rfl, hlo_, hgt_⟩) (fun W2 u1 u2 => ⟨gt, u1, u2⟩) (fun _ => trivial)
    clear s0 s3 s4 s11
    clear hN hD
    clear HCP
    rintro a7 w7 hN hD ⟨⟨gt, HCPN, hkx⟩, s0, s3, s4, -⟩
    replace HB := Kx.below HB hkx HB.size (fun k e => by subst e; exact hlg)
    have HCP := HCPN
    clear HCPN
    show Code.wp _ _ _ _ _
    refine deedL [.eq 12 (.int .i64 i), .eq 13 (.int .i64 (i + 1)), .eq 4 (.int .i64 (i + 1)), .eq 0 (.slice A xs.length c), .eq 3 (.slice (some ⟨g7, 0, none⟩) xs.length xs.length), .eq 4 (.int .i64 i), .w (Below w7.heap.size w7)] 23 [[5], [0], [1]] [[], [], [5]] [2, 3, 4, 6] hM hN hD (by kernel_rfl) ⟨s0, s3, s4, ⟨Below.refl _ _, below_drew (Below.refl _ _)⟩, trivial⟩ ⟨fun _ _ hb h => below_step h hb, trivial⟩ (fun hgrow => ⟨fun _ _ h => rv rfl (x_move rfl h.1) rfl,
      fun _ _ h => rv rfl (x_add' rfl h.1 rfl (by omega)) rfl,
      fun _ _ h => rv rfl (x_assign rfl h.1) rfl, trivial⟩) ?_
    clear s0 s3 s4
    clear hN hD
    rintro a8 w8 hN hD ⟨s4, s0, s3, hGR, -⟩
    replace HB := below_step HB hGR
    replace HCP := HCP.below hGR
    clear hGR
    show ∃ m, m < n_4 ∧ _
    exact ⟨_, (by omega), ⟨(i + 1), (ys ++ [⟨(gd xs i).o, some ⟨gt, 0, none⟩, (gd xs i).o.deps.length⟩]), hN, hD, s0, s3, s4, HB, HCP, (by omega), (by omega), (by simp; omega), (by rw [gd_take hi0 hi2, List.map_append, List.map_append, hym]; rfl), (by intro y hy; rcases List.mem_append.1 hy with u | u; exact hyc y u; simp at u; subst u; exact Nat.le_refl _), rfl⟩⟩
  · rw [cd6]
    show Code.wp _ _ _ _ _
    have pd6 := of_decide_eq_false cd6
    refine wp_exit (then_exit (then_exit (at_exit ?_)))
    show Code.wp _ _ _ _ _
    refine wp_seq ?_
    refine deedL [.eq 22 (.slice (some ⟨g7, 0, none⟩) xs.length xs.length), .eq 2 (.slice (some ⟨g7, 0, none⟩) xs.length xs.length), .eq 3 (.slice (some ⟨g7, 0, none⟩) xs.length xs.length), .w (Below w5.heap.size w5)] 23 [[2], [0]] [] [1, 2, 3] hM hN hD (by kernel_rfl) ⟨s3, ⟨Below.refl _ _, below_drew (Below.refl _ _)⟩, trivial⟩ ⟨fun _ _ hb h => below_step h hb, trivial⟩ (fun hgrow => ⟨fun _ _ h => rv rfl (x_move rfl h.1) rfl,
      fun _ _ h => rv rfl (x_assign rfl h.1) rfl, trivial⟩) ?_
    clear s0 s3 s4 s11
    clear hN hD
    rintro a9 w9 hN hD ⟨s2, s3, hGR, -⟩
    replace HB := below_step HB hGR
    replace HCP := HCP.below hGR
    clear hGR
    show Code.wp _ _ _ _ _
    refine wp_ret ?_
    refine bodyPost_ret (results_single rfl (vtmp s2 .nil)) hD ?_
    obtain ⟨L9, _, _, _, ho⟩ := HCP
    rw [List.take_of_length_le (by omega)] at hym
    have hy9 : ys.length = xs.length := by have := congrArg List.length hym; simpa using this
    exact ⟨some ⟨g7, 0, none⟩, ys.length, ys, by rw [hy9], Nat.le_refl _, ho, hym, hyc, HB⟩
end Go.Proofs.Ytideafkiaipnoaa.Q

/- From one way of telling a row to the other. -/
namespace Go.Proofs.Ytideafkiaipnoaa.Q
set_option linter.unusedVariables false
set_option linter.unusedSimpArgs false
open Go Go.RowKit Go.Proofs.YtideafkiaipnoaaW.PrintWords Go.Proofs.Ytideafkiaipnoaa.Deed
def dA (ys : List LO) (i : Nat) : Option Addr := (ys.getD i default).A
def dC (ys : List LO) (i : Nat) : Nat := (ys.getD i default).c
def Caps (ys : List LO) : Prop := ∀ y ∈ ys, y.o.deps.length ≤ y.c
section
variable {w : World} {A : Option Addr} {ys : List LO}
theorem RO_of (h : RV eLO w A ys) (hc : Caps ys) : RO w A (ys.map LO.o) (dA ys) (dC ys) := by
  intro i o ho
  rw [List.getElem?_map] at ho
  cases hy : ys[i]? with
  | none => rw [hy] at ho; cases ho
  | some y =>
    rw [hy] at ho
    cases ho
    obtain ⟨h1, h2, h3⟩ := h i y hy
    have hd : ys.getD i default = y := by simp [List.getD_eq_getElem?_getD, hy]
    refine ⟨h1, fun j u hu => ?_, ?_, ?_⟩
    · unfold dA dC at hu
      rw [hd] at hu
      exact h2 j u hu
    · unfold dA
      rw [hd]
      exact h3 _ _ rfl
    · unfold dC
      rw [hd]
      exact hc y (List.mem_of_getElem? hy)
theorem own_I {v : Value} {xs : List Int} {N : Nat} (h : OwnRow R1 3 1 w 0 v xs) (ha : Above N v) : ∃ A c, v = .slice A xs.length c ∧ xs.length ≤ c ∧ OwnI w A xs N w.heap.size := by
  obtain ⟨inner, ⟨hl, ho⟩, h1, h2⟩ := h
  rcases ho with ⟨rfl, hn⟩ | ⟨g, cap, cur, rfl, _, hb, hc, _, _, ht⟩
  · have : xs = [] := List.eq_nil_of_length_eq_zero hn
    subst this
    exact ⟨none, 0, rfl, Nat.le_refl _, .inl rfl⟩
  · refine ⟨_, cap, rfl, hc, .inr ⟨g, cur.toList, rfl, ha g rfl, blk_lt hb, by simpa using hb, fun i x hx => ?_⟩⟩
    have h3 := h2 i x hx
    have hi : i < xs.length := (List.getElem?_eq_some_iff.1 hx).1
    unfold R1 at h3
    rw [← ht] at h3
    have h4 := congrArg (·[0]?) h3
    simp only [Nat.mul_one] at h4
    rw [List.getElem?_take_of_lt (by omega), List.getElem?_drop, List.getElem?_take_of_lt (by omega)] at h4
    simpa using h4
/-- The elements of a row of one's own that grew: cells alone. -/
theorem own_E {α : Type} {E : Enc α} {v : Value} {xs : List α} {N : Nat} (h : OwnRow (fun x cs => cs = E.enc x) E.T E.n w 0 v xs) (ha : Above N v) (hn0 : 0 < E.n)
    (hin : ∀ (i : Nat) (x : α) (B : Option Addr) (zs : List Int), xs[i]? = some x → E.inn x = some (B, zs) → OwnI w B zs N w.heap.size)
    (hfar : ∀ (i : Nat) (x : α) (g : Nat) (zs : List Int), xs[i]? = some x → E.inn x = some (some ⟨g, 0, none⟩, zs) → zs ≠ [] → v.ownBlock ≠ some g)
    (hdis : ∀ (i i' : Nat) (x x' : α) (g : Nat) (zs zs' : List Int), xs[i]? = some x → xs[i']? = some x' → E.inn x = some (some ⟨g, 0, none⟩, zs) → E.inn x' = some (some ⟨g, 0, none⟩, zs') → zs ≠ [] → zs' ≠ [] → i = i') :
    ∃ A c, v = .slice A xs.length c ∧ xs.length ≤ c ∧ OwnAt E w A xs N w.heap.size := by
  obtain ⟨inner, ⟨hl, ho⟩, h1, h2⟩ := h
  rcases ho with ⟨rfl, hn⟩ | ⟨g, cap, cur, rfl, _, hb, hc, _, _, ht⟩
  · have : xs = [] := List.eq_nil_of_length_eq_zero hn
    subst this
    exact ⟨none, 0, rfl, Nat.le_refl _, .inl rfl, hin, fun i x g zs hx => by simp at hx, hdis⟩
  · refine ⟨_, cap, rfl, hc, .inr ⟨g, cur.toList, rfl, ha g rfl, blk_lt hb, by simpa using hb, fun i x hx j u hu => ?_⟩, hin, fun i x g' zs hx hi hne e => ?_, hdis⟩
    · have h3 := h2 i x hx
      have hi : i < xs.length := (List.getElem?_eq_some_iff.1 hx).1
      have hj := enc_lt hu
      have h5 : i * E.n + j < xs.length * E.n := Nat.lt_of_lt_of_le (Nat.add_lt_add_left hj _) (by rw [← Nat.succ_mul]; exact Nat.mul_le_mul_right _ hi)
      simp only at h3
      rw [← ht] at h3
      rw [← h3, List.getElem?_take_of_lt hj, List.getElem?_drop, List.getElem?_take_of_lt h5] at hu
      exact hu
    · refine hfar i x g' zs hx hi hne ?_
      injection e with e
      injection e with e _ _
      simp [Value.ownBlock, e]
end
end Go.Proofs.Ytideafkiaipnoaa.Q

/- A row of integers copied by one append; rows of operations that grow, their vectors new. -/
namespace Go.Proofs.Ytideafkiaipnoaa.Q
set_option linter.unusedVariables false
set_option linter.unusedSimpArgs false
open Go Go.RowKit Go.Proofs.YtideafkiaipnoaaW.PrintWords Go.Proofs.Ytideafkiaipnoaa.Deed
section
variable {P : Program} {ops : Array Oper} {l : List FS} {dead : List (List Nat)} {k : Nat} {o : Oper} {a : Act} {W : World} {x y : Operand} {t : TypeId} {v : Value}
/-- append(v, xs...), v empty. -/
theorem rappAll {z : Value} {bytes N c : Nat} {A : Option Addr} {xs : List Int} {w : World} (hw : Region.wanted o (yielded ops a.tmps) = true) (ho : o.op = .call { callee := .builtin .append, args := #[x, y], argTypes := #[t, t] }) (ht : P.underlying t = some (.slice 3)) (hinfo : (P.info? 3).map (fun i => (i.zero, i.size, i.bytes)) = some (some z, 1, bytes)) (hz : z.cells.size = 1) (hb0 : bytes ≤ 64)
    (hx : a.eval x = v) (hy : a.eval y = .slice A xs.length c) (hne : 0 < xs.length) (hl : xs.length ≤ 1048576) (HR : RI W A xs) (HO : OwnRow R1 3 1 W 0 v []) (hv : Above N v) (hN : N ≤ W.heap.size) {S : Nat → Prop} (hB : Kx S w W) (hNw : w.heap.size ≤ N)
    (h : ∀ A' c' W', OwnI W' A' xs N W'.heap.size → xs.length ≤ c' → Kx S w W' → (∀ j, j < N → W'.heap[j]? = W.heap[j]?) → OweL l dead k o (sl a) W (.slice A' xs.length c') W') : Runs P ops o a W (OweL l dead k o (sl a) W) := by
  obtain ⟨i0, hi, hzz⟩ := Option.map_eq_some_iff.1 hinfo
  simp only [Prod.mk.injEq] at hzz
  obtain ⟨hz0, hz1, hz2⟩ := hzz
  obtain ⟨inner, hown, _⟩ := HO
  have hA : A = some (adr A) := HR.ad 0 (by omega) (by omega)
  have hin : inner = [] := List.eq_nil_of_length_eq_zero (by have := hown.1; simpa using this)
  subst hin
  have hnews : ∀ j u, (xs.map (Value.int .i64))[j]? = some u → W.cell? ((adr A).add j) = some u := by
    intro j u hu
    rw [List.getElem?_map] at hu
    cases hx : xs[j]? with
    | none => rw [hx] at hu; cases hu
    | some y => rw [hx] at hu; cases hu; exact (HR j y hx).2
  have hbb : xs.length * bytes ≤ 1048576 * 64 := Nat.mul_le_mul hl hb0
  obtain ⟨v1, w1, hrun, h2, hg, _, hat⟩ := run_append_own_at (P := P) W 0 t o.type 3 i0 z 1 bytes ht hi hz0 hz1 hz2 hz (by omega) v 0 [] hown (adr A) xs.length c (xs.map (Value.int .i64)) (by simp) hnews (by simp [Value.oneCell']) (by simp only [maxLen]; omega) (by rw [Nat.zero_add]; omega) (by omega)
  have hr : (execOp a.eval o).run P W = .ok (.value v1) w1 := by
    unfold execOp
    rw [hA] at hy
    simp [ho, resolve, invoke, builtin, hx, hy, hrun]
  have hab : Above N v1 := by
    intro k hk
    rcases hat with e | e
    · exact hv k (e ▸ hk)
    · rw [e] at hk; injection hk with hk; omega
  have hrow : OwnRow R1 3 1 w1 0 v1 xs := by
    refine ⟨_, (by rw [Nat.zero_add] at h2; exact h2), ?_, fun j p hp => ?_⟩
    · simp
    · unfold R1
      have hj : j < xs.length := (List.getElem?_eq_some_iff.1 hp).1
      rw [List.nil_append, Nat.mul_one]
      apply List.ext_getElem?
      intro q
      rcases q with _ | q
      · rw [List.getElem?_take_of_lt (by omega), List.getElem?_drop, Nat.add_zero, List.getElem?_map, hp]; rfl
      · rw [List.getElem?_eq_none (by simp; omega), List.getElem?_eq_none (by simp)]
  obtain ⟨A', c', rfl, hc, hoi⟩ := own_I hrow hab
  refine runs_val hw hr (h A' c' w1 hoi hc ?_ (fun j hj => hg.block j (by omega) (fun e => by have := hv j e.symm; omega)))
  exact ⟨hg.os.trans hB.os, hg.tape.trans hB.tape, hg.output.trans hB.output, Nat.le_trans hB.size hg.size, fun i hi hs => (hg.block i (Nat.lt_of_lt_of_le hi hB.size) (fun e => by have := hv i e.symm; omega)).trans (hB.block i hi hs)⟩
end
/-- The vectors of a row's operations: blocks of one's own from lo on, each another. -/
def Inn (w : World) (xs : List LO) (lo : Nat) : Prop := (∀ (i : Nat) (x : LO), xs[i]? = some x → OwnI w x.A x.o.deps lo w.heap.size ∧ x.o.deps.length ≤ x.c) ∧
  ∀ (i i' : Nat) (x x' : LO) (g : Nat), xs[i]? = some x → xs[i']? = some x' → x.A = some ⟨g, 0, none⟩ → x'.A = some ⟨g, 0, none⟩ → x.o.deps ≠ [] → x'.o.deps ≠ [] → i = i'
section
variable {w w0 W : World} {xs : List LO} {lo : Nat}
theorem Inn.nil (w : World) (lo : Nat) : Inn w [] lo := ⟨fun i x h => by simp at h, fun i i' x x' g h => by simp at h⟩
theorem Inn.kx {S : Nat → Prop} (h : Inn w xs lo) (k : Kx S w W) (hS : ∀ (i : Nat) (x : LO) (g : Nat), xs[i]? = some x → x.A = some ⟨g, 0, none⟩ → x.o.deps ≠ [] → ¬ S g) : Inn W xs lo := by
  refine ⟨fun i x hx => ⟨?_, (h.1 i x hx).2⟩, h.2⟩
  rcases (h.1 i x hx).1 with e | ⟨g, L, h1, h2, h3, h4, h5⟩
  · exact .inl e
  · by_cases hne : x.o.deps = []
    · exact .inl hne
    · exact .inr ⟨g, L, h1, h2, Nat.lt_of_lt_of_le h3 k.size, blk_kx h4 k (hS i x g hx h1 hne), h5⟩
theorem Inn.below (h : Inn w xs lo) (hb : Below w.heap.size w W) : Inn W xs lo := h.kx (kx_of_below hb (fun _ => False)) (fun _ _ _ _ _ _ h => h)
theorem Inn.blk (h : Inn w xs lo) {i : Nat} {x : LO} {g : Nat} (hx : xs[i]? = some x) (hA : x.A = some ⟨g, 0, none⟩) (hne : x.o.deps ≠ []) : lo ≤ g ∧ g < w.heap.size ∧ ∃ L : List Value, w.heap[g]? = some (.cells L.toArray 3 (0, 0)) := by
  rcases (h.1 i x hx).1 with e | ⟨g', L, h1, h2, h3, h4, h5⟩
  · exact absurd e hne
  · rw [hA] at h1
    injection h1 with h1
    injection h1 with h1 _ _
    subst h1
    exact ⟨h2, h3, L, h4⟩
/-- What turns the row itself alone leaves the vectors. -/
theorem Inn.row {R : LO → List Value → Prop} {v : Value} {ps : List LO} {n : Nat} (h : Inn w xs lo) (HO : OwnRow R 67 n w 0 v ps) (k : Kx (fun k => some k = v.ownBlock) w W) : Inn W xs lo := by
  refine h.kx k fun i x g hx hA hne e => ?_
  obtain ⟨_, _, L, hL⟩ := h.blk hx hA hne
  exact own_blk HO hL rfl e
theorem Inn.snoc (h : Inn w0 xs lo) (hW : Inn W xs lo) {x1 : LO} (hx : OwnI W x1.A x1.o.deps w0.heap.size W.heap.size) (hc : x1.o.deps.length ≤ x1.c) (hlo : lo ≤ w0.heap.size) : Inn W (xs ++ [x1]) lo := by
  have get : ∀ (i : Nat) (y : LO), (xs ++ [x1])[i]? = some y → xs[i]? = some y ∨ i = xs.length ∧ y = x1 := by
    intro i y hy
    rcases Nat.lt_or_ge i xs.length with hi | hi
    · rw [List.getElem?_append_left hi] at hy; exact .inl hy
    · rw [List.getElem?_append_right hi] at hy
      have hz : i - xs.length = 0 := by
        rcases Nat.eq_zero_or_pos (i - xs.length) with e | e
        · exact e
        · rw [List.getElem?_eq_none (by simp; omega)] at hy; cases hy
      rw [hz] at hy
      simp at hy
      exact .inr ⟨by omega, hy.symm⟩
  have new : ∀ g, x1.A = some ⟨g, 0, none⟩ → x1.o.deps ≠ [] → w0.heap.size ≤ g := by
    intro g hA hne
    rcases hx with e | ⟨g', L, h1, h2, _⟩
    · exact absurd e hne
    · rw [hA] at h1
      injection h1 with h1
      injection h1 with h1 _ _
      omega
  refine ⟨fun i y hy => ?_, fun i i' y y' g hy hy' hA hA' hn hn' => ?_⟩
  · rcases get i y hy with u | ⟨_, rfl⟩
    · exact hW.1 i y u
    · exact ⟨hx.wide hlo (Nat.le_refl _), hc⟩
  · rcases get i y hy with u | ⟨u, rfl⟩
    · rcases get i' y' hy' with u' | ⟨u', rfl⟩
      · exact h.2 i i' y y' g u u' hA hA' hn hn'
      · have h1 := (h.blk u hA hn).2.1
        have h2 := new g hA' hn'
        omega
    · rcases get i' y' hy' with u' | ⟨u', rfl⟩
      · have h1 := (h.blk u' hA' hn').2.1
        have h2 := new g hA hn
        omega
      · omega
def RL (x : LO) (cs : List Value) : Prop := cs = eLO.enc x
/-- A row that grew, its vectors new: one's own. -/
theorem own_L {v : Value} {N : Nat} (h : OwnRow RL 67 12 w 0 v xs) (ha : Above N v) (hi : Inn w xs N) : ∃ A c, v = .slice A xs.length c ∧ xs.length ≤ c ∧ OwnAt eLO w A xs N w.heap.size := by
  refine own_E (E := eLO) h ha (by decide) (fun i x B zs hx hB => ?_) (fun i x g zs hx hB hne e => ?_) (fun i i' x x' g zs zs' hx hx' hB hB' hn hn' => ?_)
  · cases hB
    exact (hi.1 i x hx).1
  · have hB' : x.A = some ⟨g, 0, none⟩ ∧ x.o.deps = zs := by
      have : (some (x.A, x.o.deps)) = some (some ⟨g, 0, none⟩, zs) := hB
      injection this with this
      injection this with h1 h2
      exact ⟨h1, h2⟩
    obtain ⟨_, _, L, hL⟩ := hi.blk hx hB'.1 (hB'.2 ▸ hne)
    exact own_blk h hL rfl e.symm
  · have h1 : x.A = some ⟨g, 0, none⟩ ∧ x.o.deps = zs := by
      have : (some (x.A, x.o.deps)) = some (some ⟨g, 0, none⟩, zs) := hB
      injection this with this
      injection this with h1 h2
      exact ⟨h1, h2⟩
    have h2 : x'.A = some ⟨g, 0, none⟩ ∧ x'.o.deps = zs' := by
      have : (some (x'.A, x'.o.deps)) = some (some ⟨g, 0, none⟩, zs') := hB'
      injection this with this
      injection this with h1 h2
      exact ⟨h1, h2⟩
    exact hi.2 i i' x x' g hx hx' h1.1 h2.1 (h1.2 ▸ hn) (h2.2 ▸ hn')
end
end Go.Proofs.Ytideafkiaipnoaa.Q

/- Functions walked. -/
namespace Go.Proofs.Ytideafkiaipnoaa.Q
open Go Go.RowKit Go.Proofs.YtideafkiaipnoaaW.PrintWords Go.Proofs.YtideafkiaipnoaaW.PrintLast Go.Proofs.Ytideafkiaipnoaa.Deed
set_option maxRecDepth 100000
set_option linter.unusedVariables false
set_option linter.unusedSimpArgs false
set_option maxHeartbeats 2000000 in
theorem iVec_calls (A : Option Addr) (xs : List Int) (c : Nat) (w : World) (HR : RI w A xs) (hne : 0 < xs.length) (hn : xs.length ≤ 1048576) : Calls Try.prog 98 #[.agg #[Value.slice A xs.length c]] w fun e w' => ∃ A' c', e = .returned (.agg #[.slice A' xs.length c']) ∧ OwnI w' A' xs w.heap.size w'.heap.size ∧ xs.length ≤ c' ∧ Below w.heap.size w w' := by
  refine calls_of_wp Try.func98 rfl ?_
  refine enter_ (N := 7) rfl ?_
  rintro a0 hN hD ⟨s0, -⟩
  have HB : Below w.heap.size w w := Below.refl _ _
  refine wp_seq ?_
  refine deedC [.s1 1 (NewB w.heap.size [.slice A xs.length c] 41), .s2 1 2 fun x_ y_ W => ∃ (g1 : Nat), x_ = .pointer (some ⟨g1, 0, none⟩) ∧ NewB (g1 + 1) [.slice none 0 0] 41 y_ W, .eq 0 (.agg #[Value.slice A xs.length c]), .w (Below w.heap.size w)] 7 [[3, 2], [3, 0]] [] [0, 1, 2, 3] hM hN hD (by kernel_rfl) ⟨s0, ⟨Below.refl _ _, below_drew (Below.refl _ _)⟩, trivial⟩ ⟨fun _ _ _ hb h => h.grow hb, fun _ _ _ _ hb h => by obtain ⟨g_, e_, h_⟩ := h; exact ⟨g_, e_, h_.grow hb⟩, fun _ _ hb h => below_step h hb, trivial⟩ (fun hgrow => ⟨fun _ _ h => rbox hgrow rfl (x_box rfl h.2.1) h.1.size (fun _ _ z => z),
    ?_, trivial⟩) ?_
  · rintro a_ W ⟨h3, h0, -⟩
    obtain ⟨g1, e0, l0, hb0⟩ := h0
    exact rbox hgrow rfl (x_alloc rfl zr41) (blk_lt hb0) (fun _ _ z => ⟨_, e0, z⟩)
  clear s0
  clear hN hD
  rintro a1 w1 hN hD ⟨⟨g1, s1, lg1, HBX1⟩, qs1, s0, hGR, -⟩
  obtain ⟨g1_, e_, g2, s2, lg2, HBX2⟩ := qs1
  cases s1.symm.trans e_
  have n_g1_g2 : g1 ≠ g2 := by omega
  replace lg2 : w.heap.size ≤ g2 := by omega
  replace HB := below_step HB hGR
  clear hGR
  show Code.wp _ _ _ _ _
  refine wp_seq ?_
  have HB0 := HB
  have q1_ := blk_lt HBX1
  have q2_ := blk_lt HBX2
  refine deedL [.eq 3 (.pointer (some ⟨g1, 0, none⟩)), .eq 4 (.slice A xs.length c), .s1 5 fun x_ W => ∃ (A5 : Option Addr) (c5 : Nat), x_ = .slice A5 xs.length c5 ∧ OwnI W A5 xs (w1.heap.size) W.heap.size ∧ xs.length ≤ c5, .s2 5 6 fun x_ y_ _ => ∃ (A5 : Option Addr) (c5 : Nat), x_ = .slice A5 xs.length c5 ∧ y_ = .agg #[Value.slice A5 xs.length c5], .s1 5 fun x_ W => ∃ (A5 : Option Addr) (c5 : Nat), x_ = .slice A5 xs.length c5 ∧ W.heap[g2]? = some (.cells ([.slice A5 xs.length c5]).toArray 41 (0, 0)), .eq 1 (.pointer (some ⟨g1, 0, none⟩)), .eq 2 (.pointer (some ⟨g2, 0, none⟩)), .w (Kx (fun k => k = g2) w1), .w fun W => W.heap[g2]? = some (.cells ([.slice none 0 0]).toArray 41 (0, 0))] 7 [[5], [0, 7], [1, 7], [2], [6, 3, 8]] [[], [], [3, 4], [], [8]] [2, 4, 5, 6, 7] hM hN hD (by kernel_rfl) ⟨s1, s2, ⟨Kx.refl _ _, Kx.drew _ _⟩, ⟨HBX2, blk_below HBX2 (below_drew (Below.refl _ _))⟩, trivial⟩ ⟨fun _ _ _ hb h => by obtain ⟨a_, b_, e_, z0, z1⟩ := h; exact ⟨a_, b_, e_, (z0.below hb).wide (Nat.le_refl _) hb.size, z1⟩, fun _ _ _ _ hb h => h, fun _ _ _ hb h => by obtain ⟨A5, c5, e_, h_⟩ := h; exact ⟨_, _, e_, blk_below h_ hb⟩, fun _ _ hb h => h.step hb, fun _ _ hb h => blk_below h hb, trivial⟩ (fun hgrow => ⟨fun _ _ h => rv rfl (x_field rfl h.1 Try.underlying41 rfl sz24 (by decide) rfl) rfl,
    fun _ _ h => rv rfl (x_load1 rfl h.1 Try.underlying24 rfl (blk_one (L := [.slice A xs.length c]) (blk_kx HBX1 h.2.1 (fun e => n_g1_g2 e)) 0 rfl)) rfl,
    ?_,
    ?_,
    ?_, trivial⟩) ?_
  · rintro a_ W ⟨h1, h7, -⟩
    exact rappAll (v := .slice none 0 0) (wanted_none rfl) rfl Try.underlying24 inf3 rfl (by decide) rfl h1 hne hn (RI.below HR (Kx.below HB h7 HB.size (fun k e => by subst e; exact lg2))) (OwnRow.none_ _ _ _ _ _) (Above.nil _) h7.size h7 (Nat.le_refl _) (fun A2 c2 W2 u1 u2 u3 u4 => owe_keep ⟨fun h => u3, fun h => (u4 g2 (blk_lt HBX2)).trans h, trivial⟩ ⟨A2, c2, rfl, u1, u2⟩)
  · rintro a_ W ⟨h2, -⟩
    obtain ⟨A5, c5, e2, HOI5, HCC5⟩ := h2
    exact rv rfl (x_build rfl Try.underlying41 zr41 bp41 (bcons e2 rfl) (by kernel_rfl) (ps := [(0, _)]) (vs := [(0, .slice A5 xs.length c5)]) (L := [.slice A5 xs.length c5])) ⟨_, _, e2, rfl⟩
  · rintro a_ W ⟨h6, h3, h8, -⟩
    obtain ⟨A5, c5, r3, e3⟩ := h3
    exact rstoreS rfl rfl h6 e3 (by simp [Value.oneCell']) sz41 h8 rfl ⟨_, _, r3, blk_stored (cs := [.slice A5 xs.length c5]) 0 _ [.slice none 0 0] h8 (of_decide_eq_true rfl)⟩ ⟨fun h => by obtain ⟨A5, c5, e_, z0, z1⟩ := h; exact ⟨_, _, e_, (z0.kx (kx_cells (fun k => k = g2) rfl) (fun i u _ e => by have := blk_lt HBX2; omega)).wide (Nat.le_refl _) (Nat.le_of_eq (by simp [World.setCell, (setCells_same _ _ _ _).2.2.2])), z1⟩, id, fun h => h.sets rfl _ _, trivial⟩
  clear s0 s1 s2
  clear hN hD
  rintro a2 w2 hN hD ⟨⟨A5, c5, s5, HOI5, HCC5⟩, qs4, s1, s2, hGR, -⟩
  obtain ⟨A5_, c5_, e_, MBX2⟩ := qs4
  cases s5.symm.trans e_
  have NB := Kx.below HB hGR HB.size (fun k e => by subst e; exact lg2)
  have NBX1 := blk_kx HBX1 hGR (fun e => n_g1_g2 e)
  replace HB := NB
  replace HBX1 := NBX1
  clear NB NBX1
  replace HBX2 := MBX2
  clear MBX2
  clear hGR
  show Code.wp _ _ _ _ _
  refine wp_ret ?_
  refine bodyPost_ret (results_single rfl (vcell s2 HBX2 Try.underlying41 rfl sz41 .nil)) hD ?_
  exact ⟨_, _, rfl, HOI5.wide (by first | exact HB0.size | exact Nat.le_refl _ | omega) (Nat.le_refl _), HCC5, HB⟩
set_option maxHeartbeats 2000000 in
theorem sVec_calls (A : Option Addr) (xs : List Int) (c : Nat) (w : World) (HR : RI w A xs) (hne : 0 < xs.length) (hn : xs.length ≤ 1048576) : Calls Try.prog 97 #[.agg #[Value.slice A xs.length c]] w fun e w' => ∃ A' c', e = .returned (.agg #[.slice A' xs.length c']) ∧ OwnI w' A' xs w.heap.size w'.heap.size ∧ xs.length ≤ c' ∧ Below w.heap.size w w' := by
  refine calls_of_wp Try.func97 rfl ?_
  refine enter_ (N := 8) rfl ?_
  rintro a0 hN hD ⟨s0, -⟩
  have HB : Below w.heap.size w w := Below.refl _ _
  refine wp_seq ?_
  refine deedC [.s1 1 (NewB w.heap.size [.slice A xs.length c] 41), .s2 1 2 fun x_ y_ W => ∃ (g1 : Nat), x_ = .pointer (some ⟨g1, 0, none⟩) ∧ NewB (g1 + 1) [.slice none 0 0] 41 y_ W, .eq 0 (.agg #[Value.slice A xs.length c]), .w (Below w.heap.size w)] 8 [[3, 2], [3, 0]] [] [0, 1, 2, 3] hM hN hD (by kernel_rfl) ⟨s0, ⟨Below.refl _ _, below_drew (Below.refl _ _)⟩, trivial⟩ ⟨fun _ _ _ hb h => h.grow hb, fun _ _ _ _ hb h => by obtain ⟨g_, e_, h_⟩ := h; exact ⟨g_, e_, h_.grow hb⟩, fun _ _ hb h => below_step h hb, trivial⟩ (fun hgrow => ⟨fun _ _ h => rbox hgrow rfl (x_box rfl h.2.1) h.1.size (fun _ _ z => z),
    ?_, trivial⟩) ?_
  · rintro a_ W ⟨h3, h0, -⟩
    obtain ⟨g1, e0, l0, hb0⟩ := h0
    exact rbox hgrow rfl (x_alloc rfl zr41) (blk_lt hb0) (fun _ _ z => ⟨_, e0, z⟩)
  clear s0
  clear hN hD
  rintro a1 w1 hN hD ⟨⟨g1, s1, lg1, HBX1⟩, qs1, s0, hGR, -⟩
  obtain ⟨g1_, e_, g2, s2, lg2, HBX2⟩ := qs1
  cases s1.symm.trans e_
  have n_g1_g2 : g1 ≠ g2 := by omega
  replace lg2 : w.heap.size ≤ g2 := by omega
  replace HB := below_step HB hGR
  clear hGR
  show Code.wp _ _ _ _ _
  refine wp_seq ?_
  have HB0 := HB
  have q1_ := blk_lt HBX1
  have q2_ := blk_lt HBX2
  refine deedL [.s1 3 fun x_ W => ∃ (v3 : Value), x_ = v3 ∧ OwnRow R1 3 1 W 0 v3 [] ∧ Above w1.heap.size v3, .eq 4 (.pointer (some ⟨g1, 0, none⟩)), .eq 5 (.slice A xs.length c), .s1 6 fun x_ W => ∃ (A6 : Option Addr) (c6 : Nat), x_ = .slice A6 xs.length c6 ∧ OwnI W A6 xs (w1.heap.size) W.heap.size ∧ xs.length ≤ c6, .s2 6 7 fun x_ y_ _ => ∃ (A6 : Option Addr) (c6 : Nat), x_ = .slice A6 xs.length c6 ∧ y_ = .agg #[Value.slice A6 xs.length c6], .s1 6 fun x_ W => ∃ (A6 : Option Addr) (c6 : Nat), x_ = .slice A6 xs.length c6 ∧ W.heap[g2]? = some (.cells ([.slice A6 xs.length c6]).toArray 41 (0, 0)), .eq 1 (.pointer (some ⟨g1, 0, none⟩)), .eq 2 (.pointer (some ⟨g2, 0, none⟩)), .w (Kx (fun k => k = g2) w1), .w fun W => W.heap[g2]? = some (.cells ([.slice none 0 0]).toArray 41 (0, 0))] 8 [[8], [6], [1, 8], [2, 0, 8], [3], [7, 4, 9]] [[], [], [], [0, 4, 5], [], [0, 9]] [3, 5, 6, 7, 8] hM hN hD (by kernel_rfl) ⟨s1, s2, ⟨Kx.refl _ _, Kx.drew _ _⟩, ⟨HBX2, blk_below HBX2 (below_drew (Below.refl _ _))⟩, trivial⟩ ⟨fun _ _ _ hb h => by obtain ⟨v3, e_, h1_, h2_⟩ := h; exact ⟨v3, e_, h1_.below hb, h2_⟩, fun _ _ _ hb h => by obtain ⟨a_, b_, e_, z0, z1⟩ := h; exact ⟨a_, b_, e_, (z0.below hb).wide (Nat.le_refl _) hb.size, z1⟩, fun _ _ _ _ hb h => h, fun _ _ _ hb h => by obtain ⟨A6, c6, e_, h_⟩ := h; exact ⟨_, _, e_, blk_below h_ hb⟩, fun _ _ hb h => h.step hb, fun _ _ hb h => blk_below h hb, trivial⟩ (fun hgrow => ⟨fun _ _ h => rbuild0 hgrow rfl rfl Try.underlying24 sz3 h.1.size (fun y_ _ u_ v_ => ⟨y_, rfl, u_, v_⟩),
    fun _ _ h => rv rfl (x_field rfl h.1 Try.underlying41 rfl sz24 (by decide) rfl) rfl,
    fun _ _ h => rv rfl (x_load1 rfl h.1 Try.underlying24 rfl (blk_one (L := [.slice A xs.length c]) (blk_kx HBX1 h.2.1 (fun e => n_g1_g2 e)) 0 rfl)) rfl,
    ?_,
    ?_,
    ?_, trivial⟩) ?_
  · rintro a_ W ⟨h2, h0, h8, -⟩
    obtain ⟨v3_, e3_, ho3_, hb3_⟩ := h0
    exact rappAll (wanted_none rfl) rfl Try.underlying24 inf3 rfl (by decide) e3_ h2 hne hn (RI.below HR (Kx.below HB h8 HB.size (fun k e => by subst e; exact lg2))) ho3_ hb3_ h8.size h8 (Nat.le_refl _) (fun A2 c2 W2 u1 u2 u3 u4 => owe_keep ⟨fun h => u3, fun h => (u4 g2 (blk_lt HBX2)).trans h, trivial⟩ ⟨A2, c2, rfl, u1, u2⟩)
  · rintro a_ W ⟨h3, -⟩
    obtain ⟨A6, c6, e3, HOI6, HCC6⟩ := h3
    exact rv rfl (x_build rfl Try.underlying41 zr41 bp41 (bcons e3 rfl) (by kernel_rfl) (ps := [(0, _)]) (vs := [(0, .slice A6 xs.length c6)]) (L := [.slice A6 xs.length c6])) ⟨_, _, e3, rfl⟩
  · rintro a_ W ⟨h7, h4, h9, -⟩
    obtain ⟨A6, c6, r4, e4⟩ := h4
    exact rstoreS rfl rfl h7 e4 (by simp [Value.oneCell']) sz41 h9 rfl ⟨_, _, r4, blk_stored (cs := [.slice A6 xs.length c6]) 0 _ [.slice none 0 0] h9 (of_decide_eq_true rfl)⟩ ⟨fun h => by obtain ⟨A6, c6, e_, z0, z1⟩ := h; exact ⟨_, _, e_, (z0.kx (kx_cells (fun k => k = g2) rfl) (fun i u _ e => by have := blk_lt HBX2; omega)).wide (Nat.le_refl _) (Nat.le_of_eq (by simp [World.setCell, (setCells_same _ _ _ _).2.2.2])), z1⟩, id, fun h => h.sets rfl _ _, trivial⟩
  clear s0 s1 s2
  clear hN hD
  rintro a2 w2 hN hD ⟨⟨A6, c6, s6, HOI6, HCC6⟩, qs5, s1, s2, hGR, -⟩
  obtain ⟨A6_, c6_, e_, MBX2⟩ := qs5
  cases s6.symm.trans e_
  have NB := Kx.below HB hGR HB.size (fun k e => by subst e; exact lg2)
  have NBX1 := blk_kx HBX1 hGR (fun e => n_g1_g2 e)
  replace HB := NB
  replace HBX1 := NBX1
  clear NB NBX1
  replace HBX2 := MBX2
  clear MBX2
  clear hGR
  show Code.wp _ _ _ _ _
  refine wp_ret ?_
  refine bodyPost_ret (results_single rfl (vcell s2 HBX2 Try.underlying41 rfl sz41 .nil)) hD ?_
  exact ⟨_, _, rfl, HOI6.wide (by first | exact HB0.size | exact Nat.le_refl _ | omega) (Nat.le_refl _), HCC6, HB⟩
set_option maxHeartbeats 2000000 in
theorem iCopy_calls (o : Op) (A : Option Addr) (c : Nat) (w : World) (HR : RI w A o.deps) (hne : 0 < o.deps.length) (hn : o.deps.length ≤ 1048576) : Calls Try.prog 61 #[.agg (opc o A c).toArray] w fun e w' => ∃ A' c', e = .returned (.agg (opc o A' c').toArray) ∧ OwnI w' A' o.deps w.heap.size w'.heap.size ∧ o.deps.length ≤ c' ∧ Below w.heap.size w w' := by
  refine calls_of_wp Try.func61 rfl ?_
  refine enter_ (N := 8) rfl ?_
  rintro a0 hN hD ⟨s0, -⟩
  have HB : Below w.heap.size w w := Below.refl _ _
  refine wp_seq ?_
  refine deedC [.s1 1 (NewB w.heap.size (opc o A c) 67), .s2 1 2 fun x_ y_ W => ∃ (g1 : Nat), x_ = .pointer (some ⟨g1, 0, none⟩) ∧ NewB (g1 + 1) [.int .i64 0, .int .i64 0, .int .i64 0, .slice none 0 0, .int .i64 0, .int .i64 0, .int .i64 0, .int .i64 0, .int .i64 0, .int .i64 0, .string ⟨#[]⟩, .string ⟨#[]⟩] 67 y_ W, .eq 0 (.agg (opc o A c).toArray), .w (Below w.heap.size w)] 8 [[3, 2], [3, 0]] [] [0, 1, 2, 3] hM hN hD (by kernel_rfl) ⟨s0, ⟨Below.refl _ _, below_drew (Below.refl _ _)⟩, trivial⟩ ⟨fun _ _ _ hb h => h.grow hb, fun _ _ _ _ hb h => by obtain ⟨g_, e_, h_⟩ := h; exact ⟨g_, e_, h_.grow hb⟩, fun _ _ hb h => below_step h hb, trivial⟩ (fun hgrow => ⟨fun _ _ h => rbox hgrow rfl (x_box rfl h.2.1) h.1.size (fun _ _ z => z),
    ?_, trivial⟩) ?_
  · rintro a_ W ⟨h3, h0, -⟩
    obtain ⟨g1, e0, l0, hb0⟩ := h0
    exact rbox hgrow rfl (x_alloc rfl zr67) (blk_lt hb0) (fun _ _ z => ⟨_, e0, z⟩)
  clear s0
  clear hN hD
  rintro a1 w1 hN hD ⟨⟨g1, s1, lg1, HBX1⟩, qs1, s0, hGR, -⟩
  obtain ⟨g1_, e_, g2, s2, lg2, HBX2⟩ := qs1
  cases s1.symm.trans e_
  have n_g1_g2 : g1 ≠ g2 := by omega
  replace lg2 : w.heap.size ≤ g2 := by omega
  replace HB := below_step HB hGR
  clear hGR
  show Code.wp _ _ _ _ _
  refine wp_seq ?_
  have HB0 := HB
  have q1_ := blk_lt HBX1
  have q2_ := blk_lt HBX2
  refine deedL [.eq 3 (.pointer (some ⟨g1, 3, none⟩)), .eq 4 (.agg #[Value.slice A o.deps.length c]), .s1 5 fun x_ W => ∃ (A5 : Option Addr) (c5 : Nat), x_ = .agg #[Value.slice A5 o.deps.length c5] ∧ OwnI W A5 o.deps (w1.heap.size) W.heap.size ∧ o.deps.length ≤ c5, .eq 6 (.pointer (some ⟨g1, 3, none⟩)), .s1 5 fun x_ W => ∃ (A5 : Option Addr) (c5 : Nat), x_ = .agg #[Value.slice A5 o.deps.length c5] ∧ W.heap[g1]? = some (.cells ([.int .i64 o.actor, .int .i64 o.seq, .int .i64 o.time, .slice A5 o.deps.length c5, .int .i64 o.kind, .int .i64 o.obj, .int .i64 o.num, .int .i64 o.undo, .int .i64 o.att, .int .i64 o.ata, .string o.key, .string o.text]).toArray 67 (0, 0)), .eq 1 (.pointer (some ⟨g1, 0, none⟩)), .eq 2 (.pointer (some ⟨g2, 0, none⟩)), .w (Kx (fun k => k = g1) w1), .w fun W => W.heap[g1]? = some (.cells (opc o A c).toArray 67 (0, 0))] 8 [[5], [0, 8], [1, 7], [5], [3, 2, 8]] [[], [], [], [], [8]] [2, 4, 5, 6, 7] hM hN hD (by kernel_rfl) ⟨s1, s2, ⟨Kx.refl _ _, Kx.drew _ _⟩, ⟨HBX1, blk_below HBX1 (below_drew (Below.refl _ _))⟩, trivial⟩ ⟨fun _ _ _ hb h => by obtain ⟨A5, c5, e_, z0, z1⟩ := h; exact ⟨_, _, e_, (z0.below hb).wide (Nat.le_refl _) hb.size, z1⟩, fun _ _ _ hb h => by obtain ⟨A5, c5, e_, h_⟩ := h; exact ⟨_, _, e_, blk_below h_ hb⟩, fun _ _ hb h => h.step hb, fun _ _ hb h => blk_below h hb, trivial⟩ (fun hgrow => ⟨fun _ _ h => rv rfl (x_field rfl h.1 Try.underlying67 rfl sz41 (by decide) rfl) rfl,
    fun _ _ h => rv rfl (x_loadS rfl h.1 Try.underlying41 [.slice A o.deps.length c] sz41 (blk_list (L := opc o A c) h.2.1 3 rfl)) rfl,
    fun _ _ h => rc hgrow rfl Try.func98 (by kernel_rfl) rfl rfl (args1 h.1) (iVec_calls A o.deps c _ (RI.below HR (Kx.below HB h.2.1 HB.size (fun k e => by subst e; exact lg1))) hne hn) (fun _ _ hR => by obtain ⟨A5, c5, e_, z0, z1, hb⟩ := hR; exact ⟨_, e_, hb, A5, c5, rfl, (z0.wide h.2.1.size (Nat.le_refl _)), z1⟩),
    fun _ _ h => rv rfl (x_field rfl h.1 Try.underlying67 rfl sz41 (by decide) rfl) rfl,
    ?_, trivial⟩) ?_
  · rintro a_ W ⟨h3, h2, h8, -⟩
    obtain ⟨A5, c5, e2, HOI5, HCC5⟩ := h2
    exact rstoreS rfl rfl h3 e2 (by simp [Value.oneCell']) sz41 h8 rfl ⟨_, _, e2, blk_stored (cs := [.slice A5 o.deps.length c5]) 3 _ (opc o A c) h8 (of_decide_eq_true rfl)⟩ ⟨fun h => by obtain ⟨A5, c5, e_, z0, z1⟩ := h; exact ⟨_, _, e_, (z0.kx (kx_cells (fun k => k = g1) rfl) (fun i u _ e => by have := blk_lt HBX1; omega)).wide (Nat.le_refl _) (Nat.le_of_eq (by simp [World.setCell, (setCells_same _ _ _ _).2.2.2])), z1⟩, fun h => h.sets rfl _ _, trivial⟩
  clear s0 s1 s2
  clear hN hD
  rintro a2 w2 hN hD ⟨⟨A5, c5, s5, HOI5, HCC5⟩, qs4, s1, s2, hGR, -⟩
  obtain ⟨A5_, c5_, e_, MBX1⟩ := qs4
  cases s5.symm.trans e_
  have NB := Kx.below HB hGR HB.size (fun k e => by subst e; exact lg1)
  have NBX2 := blk_kx HBX2 hGR (fun e => (Ne.symm n_g1_g2) e)
  replace HB := NB
  replace HBX2 := NBX2
  clear NB NBX2
  replace HBX1 := MBX1
  clear MBX1
  clear hGR
  show Code.wp _ _ _ _ _
  refine wp_seq ?_
  refine deedL [.eq 7 (.agg #[Value.int .i64 o.actor, Value.int .i64 o.seq, Value.int .i64 o.time, Value.slice A5 o.deps.length c5, Value.int .i64 o.kind, Value.int .i64 o.obj, Value.int .i64 o.num, Value.int .i64 o.undo, Value.int .i64 o.att, Value.int .i64 o.ata, Value.string o.key, Value.string o.text]), .w fun W => W.heap[g2]? = some (.cells ([.int .i64 o.actor, .int .i64 o.seq, .int .i64 o.time, .slice A5 o.deps.length c5, .int .i64 o.kind, .int .i64 o.obj, .int .i64 o.num, .int .i64 o.undo, .int .i64 o.att, .int .i64 o.ata, .string o.key, .string o.text]).toArray 67 (0, 0)), .eq 1 (.pointer (some ⟨g1, 0, none⟩)), .eq 2 (.pointer (some ⟨g2, 0, none⟩)), .w (Kx (fun k => k = g2) w2), .w fun W => W.heap[g2]? = some (.cells ([.int .i64 0, .int .i64 0, .int .i64 0, .slice none 0 0, .int .i64 0, .int .i64 0, .int .i64 0, .int .i64 0, .int .i64 0, .int .i64 0, .string ⟨#[]⟩, .string ⟨#[]⟩]).toArray 67 (0, 0))] 8 [[2, 4], [3, 0, 5]] [[], [5]] [1, 2, 3, 4] hM hN hD (by kernel_rfl) ⟨s1, s2, ⟨Kx.refl _ _, Kx.drew _ _⟩, ⟨HBX2, blk_below HBX2 (below_drew (Below.refl _ _))⟩, trivial⟩ ⟨fun _ _ hb h => blk_below h hb, fun _ _ hb h => h.step hb, fun _ _ hb h => blk_below h hb, trivial⟩ (fun hgrow => ⟨fun _ _ h => rv rfl (x_loadS rfl h.1 Try.underlying67 [.int .i64 o.actor, .int .i64 o.seq, .int .i64 o.time, .slice A5 o.deps.length c5, .int .i64 o.kind, .int .i64 o.obj, .int .i64 o.num, .int .i64 o.undo, .int .i64 o.att, .int .i64 o.ata, .string o.key, .string o.text] sz67 (blk_list (L := [.int .i64 o.actor, .int .i64 o.seq, .int .i64 o.time, .slice A5 o.deps.length c5, .int .i64 o.kind, .int .i64 o.obj, .int .i64 o.num, .int .i64 o.undo, .int .i64 o.att, .int .i64 o.ata, .string o.key, .string o.text]) (blk_kx HBX1 h.2.1 (fun e => n_g1_g2 e)) 0 rfl)) rfl,
    ?_, trivial⟩) ?_
  · rintro a_ W ⟨h3, h0, h5, -⟩
    exact rstoreS rfl rfl h3 h0 (by simp [Value.oneCell']) sz67 h5 rfl (blk_stored (cs := [.int .i64 o.actor, .int .i64 o.seq, .int .i64 o.time, .slice A5 o.deps.length c5, .int .i64 o.kind, .int .i64 o.obj, .int .i64 o.num, .int .i64 o.undo, .int .i64 o.att, .int .i64 o.ata, .string o.key, .string o.text]) 0 _ [.int .i64 0, .int .i64 0, .int .i64 0, .slice none 0 0, .int .i64 0, .int .i64 0, .int .i64 0, .int .i64 0, .int .i64 0, .int .i64 0, .string ⟨#[]⟩, .string ⟨#[]⟩] h5 (of_decide_eq_true rfl)) ⟨fun h => h.sets rfl _ _, trivial⟩
  clear s1 s2
  clear hN hD
  rintro a3 w3 hN hD ⟨MBX2, s1, s2, hGR, -⟩
  have NB := Kx.below HB hGR HB.size (fun k e => by subst e; exact lg2)
  have NOI5 := (HOI5.kx hGR (fun i u _ e => by first | (subst e; omega) | (rcases e with e | e <;> subst e <;> omega))).wide (Nat.le_refl _) hGR.size
  have NCC5 := HCC5
  have NBX1 := blk_kx HBX1 hGR (fun e => n_g1_g2 e)
  replace HB := NB
  replace HOI5 := NOI5
  replace HCC5 := NCC5
  replace HBX1 := NBX1
  clear NB NOI5 NCC5 NBX1
  replace HBX2 := MBX2
  clear MBX2
  clear hGR
  show Code.wp _ _ _ _ _
  refine wp_ret ?_
  refine bodyPost_ret (results_single rfl (vcell s2 HBX2 Try.underlying67 rfl sz67 .nil)) hD ?_
  exact ⟨_, _, rfl, HOI5.wide (by first | exact HB0.size | exact Nat.le_refl _ | omega) (Nat.le_refl _), HCC5, HB⟩
set_option maxHeartbeats 2000000 in
theorem sCopy_calls (o : Op) (A : Option Addr) (c : Nat) (w : World) (HR : RI w A o.deps) (hne : 0 < o.deps.length) (hn : o.deps.length ≤ 1048576) : Calls Try.prog 58 #[.agg (opc o A c).toArray] w fun e w' => ∃ A' c', e = .returned (.agg (opc o A' c').toArray) ∧ OwnI w' A' o.deps w.heap.size w'.heap.size ∧ o.deps.length ≤ c' ∧ Below w.heap.size w w' := by
  refine calls_of_wp Try.func58 rfl ?_
  refine enter_ (N := 8) rfl ?_
  rintro a0 hN hD ⟨s0, -⟩
  have HB : Below w.heap.size w w := Below.refl _ _
  refine wp_seq ?_
  refine deedC [.s1 1 (NewB w.heap.size (opc o A c) 67), .s2 1 2 fun x_ y_ W => ∃ (g1 : Nat), x_ = .pointer (some ⟨g1, 0, none⟩) ∧ NewB (g1 + 1) [.int .i64 0, .int .i64 0, .int .i64 0, .slice none 0 0, .int .i64 0, .int .i64 0, .int .i64 0, .int .i64 0, .int .i64 0, .int .i64 0, .string ⟨#[]⟩, .string ⟨#[]⟩] 67 y_ W, .eq 0 (.agg (opc o A c).toArray), .w (Below w.heap.size w)] 8 [[3, 2], [3, 0]] [] [0, 1, 2, 3] hM hN hD (by kernel_rfl) ⟨s0, ⟨Below.refl _ _, below_drew (Below.refl _ _)⟩, trivial⟩ ⟨fun _ _ _ hb h => h.grow hb, fun _ _ _ _ hb h => by obtain ⟨g_, e_, h_⟩ := h; exact ⟨g_, e_, h_.grow hb⟩, fun _ _ hb h => below_step h hb, trivial⟩ (fun hgrow => ⟨fun _ _ h => rbox hgrow rfl (x_box rfl h.2.1) h.1.size (fun _ _ z => z),
    ?_, trivial⟩) ?_
  · rintro a_ W ⟨h3, h0, -⟩
    obtain ⟨g1, e0, l0, hb0⟩ := h0
    exact rbox hgrow rfl (x_alloc rfl zr67) (blk_lt hb0) (fun _ _ z => ⟨_, e0, z⟩)
  clear s0
  clear hN hD
  rintro a1 w1 hN hD ⟨⟨g1, s1, lg1, HBX1⟩, qs1, s0, hGR, -⟩
  obtain ⟨g1_, e_, g2, s2, lg2, HBX2⟩ := qs1
  cases s1.symm.trans e_
  have n_g1_g2 : g1 ≠ g2 := by omega
  replace lg2 : w.heap.size ≤ g2 := by omega
  replace HB := below_step HB hGR
  clear hGR
  show Code.wp _ _ _ _ _
  refine wp_seq ?_
  have HB0 := HB
  have q1_ := blk_lt HBX1
  have q2_ := blk_lt HBX2
  refine deedL [.eq 3 (.pointer (some ⟨g1, 3, none⟩)), .eq 4 (.agg #[Value.slice A o.deps.length c]), .s1 5 fun x_ W => ∃ (A5 : Option Addr) (c5 : Nat), x_ = .agg #[Value.slice A5 o.deps.length c5] ∧ OwnI W A5 o.deps (w1.heap.size) W.heap.size ∧ o.deps.length ≤ c5, .eq 6 (.pointer (some ⟨g1, 3, none⟩)), .s1 5 fun x_ W => ∃ (A5 : Option Addr) (c5 : Nat), x_ = .agg #[Value.slice A5 o.deps.length c5] ∧ W.heap[g1]? = some (.cells ([.int .i64 o.actor, .int .i64 o.seq, .int .i64 o.time, .slice A5 o.deps.length c5, .int .i64 o.kind, .int .i64 o.obj, .int .i64 o.num, .int .i64 o.undo, .int .i64 o.att, .int .i64 o.ata, .string o.key, .string o.text]).toArray 67 (0, 0)), .eq 1 (.pointer (some ⟨g1, 0, none⟩)), .eq 2 (.pointer (some ⟨g2, 0, none⟩)), .w (Kx (fun k => k = g1) w1), .w fun W => W.heap[g1]? = some (.cells (opc o A c).toArray 67 (0, 0))] 8 [[5], [0, 8], [1, 7], [5], [3, 2, 8]] [[], [], [], [], [8]] [2, 4, 5, 6, 7] hM hN hD (by kernel_rfl) ⟨s1, s2, ⟨Kx.refl _ _, Kx.drew _ _⟩, ⟨HBX1, blk_below HBX1 (below_drew (Below.refl _ _))⟩, trivial⟩ ⟨fun _ _ _ hb h => by obtain ⟨A5, c5, e_, z0, z1⟩ := h; exact ⟨_, _, e_, (z0.below hb).wide (Nat.le_refl _) hb.size, z1⟩, fun _ _ _ hb h => by obtain ⟨A5, c5, e_, h_⟩ := h; exact ⟨_, _, e_, blk_below h_ hb⟩, fun _ _ hb h => h.step hb, fun _ _ hb h => blk_below h hb, trivial⟩ (fun hgrow => ⟨fun _ _ h => rv rfl (x_field rfl h.1 Try.underlying67 rfl sz41 (by decide) rfl) rfl,
    fun _ _ h => rv rfl (x_loadS rfl h.1 Try.underlying41 [.slice A o.deps.length c] sz41 (blk_list (L := opc o A c) h.2.1 3 rfl)) rfl,
    fun _ _ h => rc hgrow rfl Try.func97 (by kernel_rfl) rfl rfl (args1 h.1) (sVec_calls A o.deps c _ (RI.below HR (Kx.below HB h.2.1 HB.size (fun k e => by subst e; exact lg1))) hne hn) (fun _ _ hR => by obtain ⟨A5, c5, e_, z0, z1, hb⟩ := hR; exact ⟨_, e_, hb, A5, c5, rfl, (z0.wide h.2.1.size (Nat.le_refl _)), z1⟩),
    fun _ _ h => rv rfl (x_field rfl h.1 Try.underlying67 rfl sz41 (by decide) rfl) rfl,
    ?_, trivial⟩) ?_
  · rintro a_ W ⟨h3, h2, h8, -⟩
    obtain ⟨A5, c5, e2, HOI5, HCC5⟩ := h2
    exact rstoreS rfl rfl h3 e2 (by simp [Value.oneCell']) sz41 h8 rfl ⟨_, _, e2, blk_stored (cs := [.slice A5 o.deps.length c5]) 3 _ (opc o A c) h8 (of_decide_eq_true rfl)⟩ ⟨fun h => by obtain ⟨A5, c5, e_, z0, z1⟩ := h; exact ⟨_, _, e_, (z0.kx (kx_cells (fun k => k = g1) rfl) (fun i u _ e => by have := blk_lt HBX1; omega)).wide (Nat.le_refl _) (Nat.le_of_eq (by simp [World.setCell, (setCells_same _ _ _ _).2.2.2])), z1⟩, fun h => h.sets rfl _ _, trivial⟩
  clear s0 s1 s2
  clear hN hD
  rintro a2 w2 hN hD ⟨⟨A5, c5, s5, HOI5, HCC5⟩, qs4, s1, s2, hGR, -⟩
  obtain ⟨A5_, c5_, e_, MBX1⟩ := qs4
  cases s5.symm.trans e_
  have NB := Kx.below HB hGR HB.size (fun k e => by subst e; exact lg1)
  have NBX2 := blk_kx HBX2 hGR (fun e => (Ne.symm n_g1_g2) e)
  replace HB := NB
  replace HBX2 := NBX2
  clear NB NBX2
  replace HBX1 := MBX1
  clear MBX1
  clear hGR
  show Code.wp _ _ _ _ _
  refine wp_seq ?_
  refine deedL [.eq 7 (.agg #[Value.int .i64 o.actor, Value.int .i64 o.seq, Value.int .i64 o.time, Value.slice A5 o.deps.length c5, Value.int .i64 o.kind, Value.int .i64 o.obj, Value.int .i64 o.num, Value.int .i64 o.undo, Value.int .i64 o.att, Value.int .i64 o.ata, Value.string o.key, Value.string o.text]), .w fun W => W.heap[g2]? = some (.cells ([.int .i64 o.actor, .int .i64 o.seq, .int .i64 o.time, .slice A5 o.deps.length c5, .int .i64 o.kind, .int .i64 o.obj, .int .i64 o.num, .int .i64 o.undo, .int .i64 o.att, .int .i64 o.ata, .string o.key, .string o.text]).toArray 67 (0, 0)), .eq 1 (.pointer (some ⟨g1, 0, none⟩)), .eq 2 (.pointer (some ⟨g2, 0, none⟩)), .w (Kx (fun k => k = g2) w2), .w fun W => W.heap[g2]? = some (.cells ([.int .i64 0, .int .i64 0, .int .i64 0, .slice none 0 0, .int .i64 0, .int .i64 0, .int .i64 0, .int .i64 0, .int .i64 0, .int .i64 0, .string ⟨#[]⟩, .string ⟨#[]⟩]).toArray 67 (0, 0))] 8 [[2, 4], [3, 0, 5]] [[], [5]] [1, 2, 3, 4] hM hN hD (by kernel_rfl) ⟨s1, s2, ⟨Kx.refl _ _, Kx.drew _ _⟩, ⟨HBX2, blk_below HBX2 (below_drew (Below.refl _ _))⟩, trivial⟩ ⟨fun _ _ hb h => blk_below h hb, fun _ _ hb h => h.step hb, fun _ _ hb h => blk_below h hb, trivial⟩ (fun hgrow => ⟨fun _ _ h => rv rfl (x_loadS rfl h.1 Try.underlying67 [.int .i64 o.actor, .int .i64 o.seq, .int .i64 o.time, .slice A5 o.deps.length c5, .int .i64 o.kind, .int .i64 o.obj, .int .i64 o.num, .int .i64 o.undo, .int .i64 o.att, .int .i64 o.ata, .string o.key, .string o.text] sz67 (blk_list (L := [.int .i64 o.actor, .int .i64 o.seq, .int .i64 o.time, .slice A5 o.deps.length c5, .int .i64 o.kind, .int .i64 o.obj, .int .i64 o.num, .int .i64 o.undo, .int .i64 o.att, .int .i64 o.ata, .string o.key, .string o.text]) (blk_kx HBX1 h.2.1 (fun e => n_g1_g2 e)) 0 rfl)) rfl,
    ?_, trivial⟩) ?_
  · rintro a_ W ⟨h3, h0, h5, -⟩
    exact rstoreS rfl rfl h3 h0 (by simp [Value.oneCell']) sz67 h5 rfl (blk_stored (cs := [.int .i64 o.actor, .int .i64 o.seq, .int .i64 o.time, .slice A5 o.deps.length c5, .int .i64 o.kind, .int .i64 o.obj, .int .i64 o.num, .int .i64 o.undo, .int .i64 o.att, .int .i64 o.ata, .string o.key, .string o.text]) 0 _ [.int .i64 0, .int .i64 0, .int .i64 0, .slice none 0 0, .int .i64 0, .int .i64 0, .int .i64 0, .int .i64 0, .int .i64 0, .int .i64 0, .string ⟨#[]⟩, .string ⟨#[]⟩] h5 (of_decide_eq_true rfl)) ⟨fun h => h.sets rfl _ _, trivial⟩
  clear s1 s2
  clear hN hD
  rintro a3 w3 hN hD ⟨MBX2, s1, s2, hGR, -⟩
  have NB := Kx.below HB hGR HB.size (fun k e => by subst e; exact lg2)
  have NOI5 := (HOI5.kx hGR (fun i u _ e => by first | (subst e; omega) | (rcases e with e | e <;> subst e <;> omega))).wide (Nat.le_refl _) hGR.size
  have NCC5 := HCC5
  have NBX1 := blk_kx HBX1 hGR (fun e => n_g1_g2 e)
  replace HB := NB
  replace HOI5 := NOI5
  replace HCC5 := NCC5
  replace HBX1 := NBX1
  clear NB NOI5 NCC5 NBX1
  replace HBX2 := MBX2
  clear MBX2
  clear hGR
  show Code.wp _ _ _ _ _
  refine wp_ret ?_
  refine bodyPost_ret (results_single rfl (vcell s2 HBX2 Try.underlying67 rfl sz67 .nil)) hD ?_
  exact ⟨_, _, rfl, HOI5.wide (by first | exact HB0.size | exact Nat.le_refl _ | omega) (Nat.le_refl _), HCC5, HB⟩
end Go.Proofs.Ytideafkiaipnoaa.Q

/- The book's put. -/
namespace Go.Proofs.Ytideafkiaipnoaa.Q
open Go Go.RowKit Go.Proofs.YtideafkiaipnoaaW.PrintWords Go.Proofs.YtideafkiaipnoaaW.PrintLast Go.Proofs.Ytideafkiaipnoaa.Deed
set_option maxRecDepth 100000
def Bk.put (B : Bk) (x : LO) : Bk :=
  { of := B.of.set x.o.actor.toNat (B.of.getD x.o.actor.toNat [] ++ [x]), kind := B.kind.set x.o.obj.toNat (thing x.o), size := B.size + 1, top := if less B.top (stampOf x.o) then stampOf x.o else B.top }
set_option maxHeartbeats 4000000 in
theorem put_calls (w0 w : World) (ok : Nat → Prop) (g : Nat) (vs : List Value) (B : Bk) (x : LO) (HK : LoIn w0 x (opc x.o x.A x.c))
    (HBK : BookAt w0 ok w g vs B) (hok2 : ∀ k, ok k → k < w.heap.size)
    (ha0 : 0 ≤ x.o.actor) (ha1 : x.o.actor < 16) (hj0 : 0 ≤ x.o.obj) (hj1 : x.o.obj < 101) (hl : ∀ i, (B.of.getD i []).length ≤ 1024) (hs0 : 0 ≤ B.size) (hs1 : B.size ≤ 4096) :
    Calls Try.prog 90 #[.pointer (some ⟨g, 0, none⟩), .agg (opc x.o x.A x.c).toArray] w
      fun e w' => e = .returned (.tuple #[]) ∧ (∃ vs', BookAt w0 (fun k => ok k ∨ w.heap.size ≤ k) w' g vs' (B.put x)) ∧ Kx ok w w' := by
  have hokg := HBK.okg
  refine calls_of_wp Try.func90 rfl ?_
  refine enter_ (N := 47) rfl ?_
  rintro a0 hN hD ⟨s0, s1, -⟩
  have HB : Below w.heap.size w w := Below.refl _ _
  have HKP : Kx ok w w := Kx.refl _ _
  refine wp_seq ?_
  refine deedL [.s1 3 (NewB w.heap.size (opc x.o x.A x.c) 67), .eq 0 (.pointer (some ⟨g, 0, none⟩)), .eq 1 (.agg (opc x.o x.A x.c).toArray), .w (Below w.heap.size w)] 47 [[3, 2]] [] [0, 1, 2, 3] hM hN hD (by kernel_rfl) ⟨s0, s1, ⟨Below.refl _ _, below_drew (Below.refl _ _)⟩, trivial⟩ ⟨fun _ _ _ hb h => h.grow hb, fun _ _ hb h => below_step h hb, trivial⟩ (fun hgrow => ⟨fun _ _ h => rbox hgrow rfl (x_box rfl h.2.1) h.1.size (fun _ _ z => z), trivial⟩) ?_
  clear s0 s1
  clear hN hD
  rintro a1 w1 hN hD ⟨⟨g3, s3, lg3, HBX⟩, s0, s1, hGR, -⟩
  replace HB := below_step HB hGR
  replace HKP := HKP.step hGR
  replace HBK := HBK.below hGR
  clear hGR
  show Code.wp _ _ _ _ _
  refine wp_seq ?_
  refine deedL (.eq 4 (.pointer (some ⟨g, 0, none⟩)) :: .eq 5 (.pointer (some ⟨g3, 0, none⟩)) :: .eq 6 (.int .i64 x.o.actor) :: .eq 7 (.pointer (some ⟨g, 0, none⟩)) :: .eq 8 (.pointer (some ⟨g3, 0, none⟩)) :: .eq 9 (.int .i64 x.o.actor) :: .eq 10 (.pointer (some ⟨g, 0, none⟩)) :: .eq 11 (.pointer (some ⟨g, 0, none⟩)) :: .eq 12 (.pointer (some ⟨g, x.o.actor.toNat, none⟩)) :: .eq 13 (vs.getD x.o.actor.toNat undef) :: .eq 14 (.agg (opc x.o x.A x.c).toArray) :: (.s1 15 fun y_ W => ∃ gb, y_ = .slice (some ⟨gb, 0, none⟩) 1 1 ∧ W.heap[gb]? = some (.cells (opc x.o x.A x.c).toArray 67 (0, 0))) :: (.s1 16 fun y_ W => Mid w0 (fun k => ok k ∨ w.heap.size ≤ k) W g vs B x.o.actor.toNat y_ (B.of.getD x.o.actor.toNat [] ++ [x]) ∧ Kx ok w1 W) :: .eq 17 (.pointer (some ⟨g, 0, none⟩)) :: .eq 18 (.pointer (some ⟨g, 0, none⟩)) :: .eq 19 (.pointer (some ⟨g, x.o.actor.toNat, none⟩)) :: (.w fun W => (∃ vs', BookAt w0 (fun k => ok k ∨ w.heap.size ≤ k) W g vs' { B with of := B.of.set x.o.actor.toNat (B.of.getD x.o.actor.toNat [] ++ [x]) }) ∧ Kx ok w1 W) :: .eq 0 (.pointer (some ⟨g, 0, none⟩)) :: .eq 3 (.pointer (some ⟨g3, 0, none⟩)) :: .w (Below w1.heap.size w1) :: (.w fun W => W.heap[g3]? = some (.cells (opc x.o x.A x.c).toArray 67 (0, 0))) :: []) 47 ([17] :: [18] :: [1, 20] :: [17] :: [18] :: [4, 20] :: [3] :: [6] :: [7, 5] :: [8, 19] :: [18, 20] :: [10] :: [9, 11, 19] :: [0] :: [13] :: [14, 2] :: [15, 12] :: []) ([] :: [] :: [] :: [] :: [] :: [] :: [] :: [] :: [] :: [] :: [] :: [] :: [11, 16, 19] :: [] :: [] :: [] :: [11, 12, 19] :: []) [16, 17, 18, 20] hM hN hD (by kernel_rfl) ⟨s0, s3, ⟨Below.refl _ _, below_drew (Below.refl _ _)⟩, ⟨HBX, blk_below HBX (below_drew (Below.refl _ _))⟩, trivial⟩ ⟨fun _ _ _ hb h => by obtain ⟨g_, e_, h_⟩ := h; exact ⟨g_, e_, blk_below h_ hb⟩, fun _ _ _ hb h => ⟨h.1.below hb, h.2.step hb⟩, fun _ _ hb h => ⟨⟨_, h.1.choose_spec.below hb⟩, h.2.step hb⟩, fun _ _ hb h => below_step h hb, fun _ _ hb h => blk_below h hb, trivial⟩ (fun hgrow => ⟨fun _ _ h => rv rfl (x_move rfl h.1) rfl,
    fun _ _ h => rv rfl (x_field rfl h.1 Try.underlying67 rfl sz3 (by decide) rfl) rfl,
    fun _ _ h => rv rfl (x_load1 rfl h.1 Try.underlying3 rfl (blk_one (L := opc x.o x.A x.c) h.2.1 0 rfl)) rfl,
    fun _ _ h => rv rfl (x_move rfl h.1) rfl,
    fun _ _ h => rv rfl (x_field rfl h.1 Try.underlying67 rfl sz3 (by decide) rfl) rfl,
    fun _ _ h => rv rfl (x_load1 rfl h.1 Try.underlying3 rfl (blk_one (L := opc x.o x.A x.c) h.2.1 0 rfl)) rfl,
    fun _ _ h => rv rfl (x_nil rfl h.1) rfl,
    fun _ _ h => rv rfl (x_field rfl h.1 Try.underlying75 rfl sz72 (by decide) rfl) rfl,
    fun _ _ h => rv rfl (x_index_array rfl h.1 h.2.1 Try.underlying72 sz27 (by omega) (by omega) (by rw [add_mk]; first | rfl | simp)) rfl,
    fun _ _ h => rv rfl (x_load1 rfl h.1 Try.underlying27 rfl ((HBK.below h.2.1).cof (by omega))) rfl,
    fun _ _ h => rv rfl (x_loadS rfl h.1 Try.underlying67 (opc x.o x.A x.c) sz67 (blk_list (L := opc x.o x.A x.c) h.2.1 0 rfl)) rfl,
    ?_,
    ?_,
    fun _ _ h => rv rfl (x_nil rfl h.1) rfl,
    fun _ _ h => rv rfl (x_field rfl h.1 Try.underlying75 rfl sz72 (by decide) rfl) rfl,
    fun _ _ h => rv rfl (x_index_array rfl h.1 h.2.1 Try.underlying72 sz27 (by omega) (by omega) (by rw [add_mk]; first | rfl | simp)) rfl,
    ?_, trivial⟩) ?_
  · rintro a_ W ⟨h10, -⟩
    refine runs_val (wanted_none rfl) (x_build1 (n := 12) rfl Try.underlying27 zi67 (by decide) (by decide) h10 rfl) ?_
    exact owe_grow hgrow (below_alloc (Below.refl _ _) _) ⟨_, rfl, heap_alloc_new _ _⟩
  · rintro a_ W ⟨h9, h11, h19, -⟩
    obtain ⟨gb, e15, hgb⟩ := h11
    obtain ⟨hra, hoka⟩ := (HBK.below h19).row (i := x.o.actor.toNat) (by omega)
    refine runs_append (wanted_none rfl) rfl Try.underlying27 inf67 rfl (by decide) (by decide) h9 e15 (cs := opc x.o x.A x.c) hgb HK rfl (by simp [Value.oneCell']) hra (by have := hl x.o.actor.toNat; omega) fun v1 w3 hr1 hg1 hat => ?_
    have hmid := (HBK.below h19).mid (by omega) hr1 hg1 hat (N := w.heap.size) (Nat.le_trans HB.size h19.size)
    have hkp : Kx ok w1 w3 := kx_tr (kx_of_below h19 ok) (kx_grown hg1 fun k hk => hoka k hk.symm)
    exact owe_keep ⟨fun h => blk_kx h (kx_grown (S := ok) hg1 fun k hk => hoka k hk.symm) (fun h => by have := hok2 _ h; omega), trivial⟩ ⟨hmid, hkp⟩
  · rintro a_ W ⟨h15, h12, -⟩
    obtain ⟨hmid, hkp⟩ := h12
    obtain ⟨A_, n_, c_, es⟩ := hmid.slice
    refine runs_skip (wanted_none rfl) (x_store1 rfl h15 es rfl sz27 (hmid.cof (by omega)) (blk_frozen hmid.blk _)) ?_
    rw [← es]
    exact owe_keep ⟨fun h => blk_kx h (kx_set ok hokg _ _) (fun h => by have := hok2 _ h; omega), trivial⟩ ⟨⟨_, hmid.store (by omega)⟩, kx_tr hkp (kx_set ok hokg _ _)⟩
  clear s0 s1 s3
  clear hN hD
  clear HB
  clear HBK
  clear HBX
  rintro a2 w2 hN hD ⟨⟨⟨vs1, HBK⟩, hkp⟩, s0, s3, HBX, -⟩
  replace HKP := kx_tr HKP hkp
  show Code.wp _ _ _ _ _
  refine wp_seq ?_
  refine deedL [.eq 20 (.pointer (some ⟨g, 0, none⟩)), .eq 21 (.pointer (some ⟨g3, 5, none⟩)), .eq 22 (.int .i64 x.o.obj), .eq 23 (.agg (opc x.o x.A x.c).toArray), .eq 24 (.int .i64 (thing x.o)), .eq 25 (.pointer (some ⟨g, 0, none⟩)), .eq 26 (.pointer (some ⟨g, 16, none⟩)), .eq 27 (.pointer (some ⟨g, 16 + x.o.obj.toNat, none⟩)), .w fun W => BookAt w0 (fun k => ok k ∨ w.heap.size ≤ k) W g vs1 { B with of := B.of.set x.o.actor.toNat (B.of.getD x.o.actor.toNat [] ++ [x]), kind := B.kind.set x.o.obj.toNat (thing x.o) } ∧ Kx (fun k => k = g) w2 W, .eq 0 (.pointer (some ⟨g, 0, none⟩)), .eq 3 (.pointer (some ⟨g3, 0, none⟩)), .w (Below w2.heap.size w2)] 47 [[9], [10], [1, 11], [10, 11], [3], [0], [5], [6, 2], [7, 4, 11]] [[], [], [], [], [], [], [], [], [11]] [8, 9, 10] hM hN hD (by kernel_rfl) ⟨s0, s3, ⟨Below.refl _ _, below_drew (Below.refl _ _)⟩, trivial⟩ ⟨fun _ _ hb h => ⟨h.1.below hb, h.2.step hb⟩, fun _ _ hb h => below_step h hb, trivial⟩ (fun hgrow => ⟨fun _ _ h => rv rfl (x_move rfl h.1) rfl,
    fun _ _ h => rv rfl (x_field rfl h.1 Try.underlying67 rfl sz3 (by decide) rfl) rfl,
    fun _ _ h => rv rfl (x_load1 rfl h.1 Try.underlying3 rfl (blk_one (L := opc x.o x.A x.c) (blk_below HBX h.2.1) 5 rfl)) rfl,
    fun _ _ h => rv rfl (x_loadS rfl h.1 Try.underlying67 (opc x.o x.A x.c) sz67 (blk_list (L := opc x.o x.A x.c) (blk_below HBX h.2.1) 0 rfl)) rfl,
    fun _ _ h => rc hgrow rfl Try.func93 (by kernel_rfl) rfl rfl (args1 h.1) (thing_calls x.o x.A x.c _) (fun _ _ h => ⟨_, h.1, h.2, rfl⟩),
    fun _ _ h => rv rfl (x_nil rfl h.1) rfl,
    fun _ _ h => rv rfl (x_field rfl h.1 Try.underlying75 rfl sz73 (by decide) rfl) rfl,
    fun _ _ h => rv rfl (x_index_array rfl h.1 h.2.1 Try.underlying73 sz3 (by omega) (by omega) (by rw [add_mk]; first | rfl | simp)) rfl,
    ?_, trivial⟩) ?_
  · rintro a_ W ⟨h7, h4, h11, -⟩
    refine runs_skip (wanted_none rfl) (x_store1 rfl h7 h4 rfl sz3 ((HBK.below h11).ckind (i := x.o.obj.toNat) (by omega)) ((HBK.below h11).free _)) ?_
    exact owe_keep trivial ⟨(HBK.below h11).setKind (by omega) _, kx_tr (kx_of_below h11 _) (kx_set (fun k => k = g) rfl _ _)⟩
  clear s0 s3
  clear hN hD
  clear HBK
  rintro a3 w3 hN hD ⟨⟨HBK, hkp⟩, s0, s3, -⟩
  replace HKP := (kx_tr HKP (kx_wide hkp fun k e => e ▸ hokg))
  replace HBX := blk_kx HBX hkp (fun h => by have := hok2 _ hokg; omega)
  show Code.wp _ _ _ _ _
  refine wp_seq ?_
  refine deedL [.eq 28 (.pointer (some ⟨g, 0, none⟩)), .eq 29 (.pointer (some ⟨g, 0, none⟩)), .eq 30 (.pointer (some ⟨g, 117, none⟩)), .eq 31 (.int .i64 B.size), .eq 32 (.int .i64 (B.size + 1)), .eq 33 (.pointer (some ⟨g, 0, none⟩)), .eq 34 (.pointer (some ⟨g, 117, none⟩)), .w fun W => BookAt w0 (fun k => ok k ∨ w.heap.size ≤ k) W g vs1 { B with of := B.of.set x.o.actor.toNat (B.of.getD x.o.actor.toNat [] ++ [x]), kind := B.kind.set x.o.obj.toNat (thing x.o), size := B.size + 1 } ∧ Kx (fun k => k = g) w3 W, .eq 0 (.pointer (some ⟨g, 0, none⟩)), .eq 3 (.pointer (some ⟨g3, 0, none⟩)), .w (Below w3.heap.size w3)] 47 [[8], [0], [1], [2, 10], [3], [0], [5], [6, 4, 10]] [[], [], [], [], [], [], [], [10]] [7, 8, 9] hM hN hD (by kernel_rfl) ⟨s0, s3, ⟨Below.refl _ _, below_drew (Below.refl _ _)⟩, trivial⟩ ⟨fun _ _ hb h => ⟨h.1.below hb, h.2.step hb⟩, fun _ _ hb h => below_step h hb, trivial⟩ (fun hgrow => ⟨fun _ _ h => rv rfl (x_move rfl h.1) rfl,
    fun _ _ h => rv rfl (x_nil rfl h.1) rfl,
    fun _ _ h => rv rfl (x_field rfl h.1 Try.underlying75 rfl sz3 (by decide) rfl) rfl,
    fun _ _ h => rv rfl (x_load1 rfl h.1 Try.underlying3 rfl ((HBK.below h.2.1).csize)) rfl,
    fun _ _ h => rv rfl (x_add' rfl h.1 rfl (by omega)) rfl,
    fun _ _ h => rv rfl (x_nil rfl h.1) rfl,
    fun _ _ h => rv rfl (x_field rfl h.1 Try.underlying75 rfl sz3 (by decide) rfl) rfl,
    ?_, trivial⟩) ?_
  · rintro a_ W ⟨h6, h4, h10, -⟩
    refine runs_skip (wanted_none rfl) (x_store1 rfl h6 h4 rfl sz3 (HBK.below h10).csize ((HBK.below h10).free _)) ?_
    exact owe_keep trivial ⟨(HBK.below h10).setSize _, kx_tr (kx_of_below h10 _) (kx_set (fun k => k = g) rfl _ _)⟩
  clear s0 s3
  clear hN hD
  clear HBK
  rintro a4 w4 hN hD ⟨⟨HBK, hkp⟩, s0, s3, -⟩
  replace HKP := (kx_tr HKP (kx_wide hkp fun k e => e ▸ hokg))
  replace HBX := blk_kx HBX hkp (fun h => by have := hok2 _ hokg; omega)
  show Code.wp _ _ _ _ _
  refine wp_seq ?_
  refine deedL [.eq 35 (.pointer (some ⟨g, 0, none⟩)), .eq 36 (.pointer (some ⟨g, 0, none⟩)), .eq 37 (.pointer (some ⟨g, 118, none⟩)), .eq 38 (.agg #[Value.int .i64 B.top.1, Value.int .i64 B.top.2]), .eq 39 (.agg (opc x.o x.A x.c).toArray), .eq 40 (.agg #[Value.int .i64 ((stampOf x.o).1), Value.int .i64 ((stampOf x.o).2)]), .eq 41 (.bool (less B.top (stampOf x.o))), .eq 0 (.pointer (some ⟨g, 0, none⟩)), .eq 3 (.pointer (some ⟨g3, 0, none⟩)), .w (Below w4.heap.size w4)] 47 [[7], [0], [1], [2, 9], [8, 9], [4], [3, 5]] [] [6, 7, 8, 9] hM hN hD (by kernel_rfl) ⟨s0, s3, ⟨Below.refl _ _, below_drew (Below.refl _ _)⟩, trivial⟩ ⟨fun _ _ hb h => below_step h hb, trivial⟩ (fun hgrow => ⟨fun _ _ h => rv rfl (x_move rfl h.1) rfl,
    fun _ _ h => rv rfl (x_nil rfl h.1) rfl,
    fun _ _ h => rv rfl (x_field rfl h.1 Try.underlying75 rfl sz65 (by decide) rfl) rfl,
    fun _ _ h => rv rfl (x_loadS rfl h.1 Try.underlying65 [.int .i64 B.top.1, .int .i64 B.top.2] sz65 ((HBK.below h.2.1).ctop)) rfl,
    fun _ _ h => rv rfl (x_loadS rfl h.1 Try.underlying67 (opc x.o x.A x.c) sz67 (blk_list (L := opc x.o x.A x.c) (blk_below HBX h.2.1) 0 rfl)) rfl,
    fun _ _ h => rc hgrow rfl Try.func95 (by kernel_rfl) rfl rfl (args1 h.1) (stamp_calls x.o x.A x.c _) (fun _ _ h => ⟨_, h.1, h.2, rfl⟩),
    fun _ _ h => rc hgrow rfl Try.func94 (by kernel_rfl) rfl rfl (args2 h.1 h.2.1) (less_calls B.top (stampOf x.o) _) (fun _ _ h => ⟨_, h.1, h.2, rfl⟩), trivial⟩) ?_
  clear s0 s3
  clear hN hD
  rintro a5 w5 hN hD ⟨s41, s0, s3, hGR, -⟩
  replace HKP := HKP.step hGR
  replace HBX := blk_below HBX hGR
  replace HBK := HBK.below hGR
  clear hGR
  show Code.wp _ _ _ _ _
  refine wp_cond (t := less B.top (stampOf x.o)) s41 ?_
  rcases Bool.eq_false_or_eq_true (less B.top (stampOf x.o)) with cd6 | cd6
  · rw [cd6]
    show Code.wp _ _ _ _ _
    refine deedL [.eq 42 (.pointer (some ⟨g, 0, none⟩)), .eq 43 (.agg (opc x.o x.A x.c).toArray), .eq 44 (.agg #[Value.int .i64 ((stampOf x.o).1), Value.int .i64 ((stampOf x.o).2)]), .eq 45 (.pointer (some ⟨g, 0, none⟩)), .eq 46 (.pointer (some ⟨g, 118, none⟩)), .w fun W => BookAt w0 (fun k => ok k ∨ w.heap.size ≤ k) W g vs1 { B with of := B.of.set x.o.actor.toNat (B.of.getD x.o.actor.toNat [] ++ [x]), kind := B.kind.set x.o.obj.toNat (thing x.o), size := B.size + 1, top := stampOf x.o } ∧ Kx (fun k => k = g) w5 W, .eq 0 (.pointer (some ⟨g, 0, none⟩)), .eq 3 (.pointer (some ⟨g3, 0, none⟩)), .w (Below w5.heap.size w5)] 47 [[6], [7, 8], [1], [0], [3], [8, 4, 2]] [[], [], [], [], [], [8]] [5, 6, 7] hM hN hD (by kernel_rfl) ⟨s0, s3, ⟨Below.refl _ _, below_drew (Below.refl _ _)⟩, trivial⟩ ⟨fun _ _ hb h => ⟨h.1.below hb, h.2.step hb⟩, fun _ _ hb h => below_step h hb, trivial⟩ (fun hgrow => ⟨fun _ _ h => rv rfl (x_move rfl h.1) rfl,
      fun _ _ h => rv rfl (x_loadS rfl h.1 Try.underlying67 (opc x.o x.A x.c) sz67 (blk_list (L := opc x.o x.A x.c) (blk_below HBX h.2.1) 0 rfl)) rfl,
      fun _ _ h => rc hgrow rfl Try.func95 (by kernel_rfl) rfl rfl (args1 h.1) (stamp_calls x.o x.A x.c _) (fun _ _ h => ⟨_, h.1, h.2, rfl⟩),
      fun _ _ h => rv rfl (x_nil rfl h.1) rfl,
      fun _ _ h => rv rfl (x_field rfl h.1 Try.underlying75 rfl sz65 (by decide) rfl) rfl,
      ?_, trivial⟩) ?_
    · rintro a_ W ⟨h8, h4, h2, -⟩
      have hc0 := (HBK.below h8).ctop0
      have hc1 := (HBK.below h8).ctop1
      refine runs_skip (wanted_none rfl) (x_storeS (cs := [.int .i64 (stampOf x.o).1, .int .i64 (stampOf x.o).2]) rfl h4 h2 (by simp [Value.oneCell']) sz65 (fun j hj => ?_) (fun j _ => (HBK.below h8).free _)) ?_
      · rcases j with _ | _ | j
        · exact (hc0.symm ▸ rfl : (World.cell? W ⟨g, 118, none⟩).isSome = true)
        · exact (hc1.symm ▸ rfl : (World.cell? W ⟨g, 119, none⟩).isSome = true)
        · simp at hj; omega
      exact owe_keep trivial ⟨(HBK.below h8).setTop _ _, kx_tr (kx_of_below h8 _) (kx_cells (fun k => k = g) rfl)⟩
    clear s0 s3 s41
    clear hN hD
    clear HBK
    rintro a7 w7 hN hD ⟨⟨HBK, hkp⟩, s0, s3, -⟩
    replace HKP := (kx_tr HKP (kx_wide hkp fun k e => e ▸ hokg))
    replace HBX := blk_kx HBX hkp (fun h => by have := hok2 _ hokg; omega)
    refine bodyPost_norm ?_
    refine bodyPost_ret (fn := Try.f90) (results_list (rs := []) (vs := []) rfl (by simp) .nil) hD ?_
    have eB : ({ B with of := B.of.set x.o.actor.toNat (B.of.getD x.o.actor.toNat [] ++ [x]), kind := B.kind.set x.o.obj.toNat (thing x.o), size := B.size + 1, top := stampOf x.o } : Bk) = B.put x := by simp only [Bk.put, cd6]; rfl
    exact ⟨rfl, ⟨_, eB ▸ HBK⟩, HKP⟩
  · rw [cd6]
    show Code.wp _ _ _ _ _
    refine wp_skip ?_
    refine bodyPost_norm ?_
    refine bodyPost_ret (fn := Try.f90) (results_list (rs := []) (vs := []) rfl (by simp) .nil) hD ?_
    have eB : ({ B with of := B.of.set x.o.actor.toNat (B.of.getD x.o.actor.toNat [] ++ [x]), kind := B.kind.set x.o.obj.toNat (thing x.o), size := B.size + 1 } : Bk) = B.put x := by simp only [Bk.put, cd6]; rfl
    exact ⟨rfl, ⟨_, eB ▸ HBK⟩, HKP⟩
end Go.Proofs.Ytideafkiaipnoaa.Q

/- Functions walked. -/
namespace Go.Proofs.Ytideafkiaipnoaa.Q
open Go Go.RowKit Go.Proofs.YtideafkiaipnoaaW.PrintWords Go.Proofs.YtideafkiaipnoaaW.PrintLast Go.Proofs.Ytideafkiaipnoaa.Deed
set_option maxRecDepth 100000
set_option linter.unusedVariables false
set_option linter.unusedSimpArgs false
noncomputable def iOp (o : Op) : Bool :=
 if (((((!(stampOK o.time o.actor)) || (decide (o.seq < 1))) || (decide (1000000000000 < o.seq))) || (!(vecOK o.deps))) || ((gi o.deps o.actor) != (o.seq - 1))) = true then false else (if ((((((decide (o.obj < 1)) || (decide (100 < o.obj))) || (decide (o.num < -1000000000000))) || (decide (1000000000000 < o.num))) || (decide (o.undo < 0))) || (decide (o.seq ≤ o.undo))) = true then false else (if ((decide (200 < (o.key.size : Int))) || (decide (200 < (o.text.size : Int)))) = true then false else (if ((!(o.att == 0 && o.ata == 0)) && ((!(stampOK o.att o.ata)) || (!(less (o.att, o.ata) (o.time, o.actor))))) = true then false else (if (o.kind == 1) = true then ((o.num == 0) && (o.att == 0 && o.ata == 0)) else (if (o.kind == 2) = true then ((!((!(o.key.toList == (⟨#[]⟩ : ByteArray).toList)) || (!(o.text.toList == (⟨#[]⟩ : ByteArray).toList)))) && (charOK o.num)) else (if (o.kind == 3) = true then (((!((!(o.key.toList == (⟨#[]⟩ : ByteArray).toList)) || (!(o.text.toList == (⟨#[]⟩ : ByteArray).toList)))) && (o.num == 0)) && (!(o.att == 0 && o.ata == 0))) else (if (o.kind == 4) = true then ((!((!(o.key.toList == (⟨#[]⟩ : ByteArray).toList)) || (!(o.text.toList == (⟨#[]⟩ : ByteArray).toList)))) && (o.att == 0 && o.ata == 0)) else false)))))))
set_option maxHeartbeats 2000000 in
theorem iOp_calls (o : Op) (w : World) (A : Option Addr) (c : Nat) (HR : RI w A o.deps) : Calls Try.prog 86 #[.agg (opc o A c).toArray] w fun e w' => e = .returned (.bool (iOp o)) ∧ Below w.heap.size w w' := by
  refine calls_of_wp Try.func86 rfl ?_
  refine enter_ (N := 145) rfl ?_
  rintro a0 hN hD ⟨s0, -⟩
  have HB : Below w.heap.size w w := Below.refl _ _
  refine wp_seq ?_
  refine deedL [.s1 1 (NewB w.heap.size (opc o A c) 67), .eq 2 (.bool false), .eq 0 (.agg (opc o A c).toArray), .w (Below w.heap.size w)] 145 [[3, 2], []] [] [0, 2, 3] hM hN hD (by kernel_rfl) ⟨s0, ⟨Below.refl _ _, below_drew (Below.refl _ _)⟩, trivial⟩ ⟨fun _ _ _ hb h => h.grow hb, fun _ _ hb h => below_step h hb, trivial⟩ (fun hgrow => ⟨fun _ _ h => rbox hgrow rfl (x_box rfl h.2.1) h.1.size (fun _ _ z => z),
    fun _ _ _ => rv rfl (x_assign rfl rfl) rfl, trivial⟩) ?_
  clear s0
  clear hN hD
  rintro a1 w1 hN hD ⟨⟨g1, s1, lg1, HBX1⟩, s0, hGR, -⟩
  replace HB := below_step HB hGR
  clear hGR
  show Code.wp _ _ _ _ _
  refine wp_seq ?_
  refine wp_seq ?_
  refine deedL (.eq 5 (.agg (opc o A c).toArray) :: .eq 6 (.agg #[Value.int .i64 o.time, Value.int .i64 o.actor]) :: .eq 7 (.bool (stampOK o.time o.actor)) :: .eq 8 (.bool (!(stampOK o.time o.actor))) :: .eq 9 (.bool (!(stampOK o.time o.actor))) :: .gv (((!(stampOK o.time o.actor)) == false)) 10 (.pointer (some ⟨g1, 1, none⟩)) :: .gv (((!(stampOK o.time o.actor)) == false)) 11 (.int .i64 o.seq) :: .gv (((!(stampOK o.time o.actor)) == false)) 12 (.bool (decide (o.seq < 1))) :: .eq 13 (.bool ((!(stampOK o.time o.actor)) || (decide (o.seq < 1)))) :: .eq 14 (.bool ((!(stampOK o.time o.actor)) || (decide (o.seq < 1)))) :: .gv ((((!(stampOK o.time o.actor)) || (decide (o.seq < 1))) == false)) 15 (.pointer (some ⟨g1, 1, none⟩)) :: .gv ((((!(stampOK o.time o.actor)) || (decide (o.seq < 1))) == false)) 16 (.int .i64 o.seq) :: .gv ((((!(stampOK o.time o.actor)) || (decide (o.seq < 1))) == false)) 17 (.bool (decide (1000000000000 < o.seq))) :: .eq 18 (.bool (((!(stampOK o.time o.actor)) || (decide (o.seq < 1))) || (decide (1000000000000 < o.seq)))) :: .eq 19 (.bool (((!(stampOK o.time o.actor)) || (decide (o.seq < 1))) || (decide (1000000000000 < o.seq)))) :: .gv (((((!(stampOK o.time o.actor)) || (decide (o.seq < 1))) || (decide (1000000000000 < o.seq))) == false)) 20 (.pointer (some ⟨g1, 3, none⟩)) :: .gv (((((!(stampOK o.time o.actor)) || (decide (o.seq < 1))) || (decide (1000000000000 < o.seq))) == false)) 21 (.agg #[Value.slice A o.deps.length c]) :: .gv (((((!(stampOK o.time o.actor)) || (decide (o.seq < 1))) || (decide (1000000000000 < o.seq))) == false)) 22 (.bool (vecOK o.deps)) :: .gv (((((!(stampOK o.time o.actor)) || (decide (o.seq < 1))) || (decide (1000000000000 < o.seq))) == false)) 23 (.bool (!(vecOK o.deps))) :: .eq 24 (.bool ((((!(stampOK o.time o.actor)) || (decide (o.seq < 1))) || (decide (1000000000000 < o.seq))) || (!(vecOK o.deps)))) :: .eq 25 (.bool ((((!(stampOK o.time o.actor)) || (decide (o.seq < 1))) || (decide (1000000000000 < o.seq))) || (!(vecOK o.deps)))) :: .gv ((((((!(stampOK o.time o.actor)) || (decide (o.seq < 1))) || (decide (1000000000000 < o.seq))) || (!(vecOK o.deps))) == false)) 26 (.pointer (some ⟨g1, 3, none⟩)) :: .gv ((((((!(stampOK o.time o.actor)) || (decide (o.seq < 1))) || (decide (1000000000000 < o.seq))) || (!(vecOK o.deps))) == false)) 27 (.pointer (some ⟨g1, 3, none⟩)) :: .gv ((((((!(stampOK o.time o.actor)) || (decide (o.seq < 1))) || (decide (1000000000000 < o.seq))) || (!(vecOK o.deps))) == false)) 28 (.slice A o.deps.length c) :: .gv ((((((!(stampOK o.time o.actor)) || (decide (o.seq < 1))) || (decide (1000000000000 < o.seq))) || (!(vecOK o.deps))) == false)) 29 (.pointer (some ⟨g1, 0, none⟩)) :: .gv ((((((!(stampOK o.time o.actor)) || (decide (o.seq < 1))) || (decide (1000000000000 < o.seq))) || (!(vecOK o.deps))) == false)) 30 (.int .i64 o.actor) :: .gv ((((((!(stampOK o.time o.actor)) || (decide (o.seq < 1))) || (decide (1000000000000 < o.seq))) || (!(vecOK o.deps))) == false)) 31 (.pointer (some ((adr A).add (o.actor.toNat * 1)))) :: .gv ((((((!(stampOK o.time o.actor)) || (decide (o.seq < 1))) || (decide (1000000000000 < o.seq))) || (!(vecOK o.deps))) == false)) 32 (.int .i64 (gi o.deps o.actor)) :: .gv ((((((!(stampOK o.time o.actor)) || (decide (o.seq < 1))) || (decide (1000000000000 < o.seq))) || (!(vecOK o.deps))) == false)) 33 (.pointer (some ⟨g1, 1, none⟩)) :: .gv ((((((!(stampOK o.time o.actor)) || (decide (o.seq < 1))) || (decide (1000000000000 < o.seq))) || (!(vecOK o.deps))) == false)) 34 (.int .i64 o.seq) :: .gv ((((((!(stampOK o.time o.actor)) || (decide (o.seq < 1))) || (decide (1000000000000 < o.seq))) || (!(vecOK o.deps))) == false)) 35 (.int .i64 (o.seq - 1)) :: .gv ((((((!(stampOK o.time o.actor)) || (decide (o.seq < 1))) || (decide (1000000000000 < o.seq))) || (!(vecOK o.deps))) == false)) 36 (.bool ((gi o.deps o.actor) != (o.seq - 1))) :: .eq 37 (.bool (((((!(stampOK o.time o.actor)) || (decide (o.seq < 1))) || (decide (1000000000000 < o.seq))) || (!(vecOK o.deps))) || ((gi o.deps o.actor) != (o.seq - 1)))) :: .eq 1 (.pointer (some ⟨g1, 0, none⟩)) :: .w (Below w1.heap.size w1) :: []) 145 ([33, 34] :: [0] :: [1] :: [2] :: [3] :: [4, 33] :: [4, 5, 34] :: [4, 6] :: [4, 7] :: [8] :: [9, 33] :: [9, 10, 34] :: [9, 11] :: [9, 12] :: [13] :: [14, 33] :: [14, 15, 34] :: [14, 16, 34] :: [14, 17] :: [14, 18] :: [19] :: [20, 33] :: [20, 21] :: [20, 22, 34] :: [20, 33] :: [20, 24, 34] :: [20, 23, 25] :: [20, 26, 34] :: [20, 33] :: [20, 28, 34] :: [20, 29] :: [20, 27, 30] :: [20, 31] :: []) [] [32, 33, 34] hM hN hD (by kernel_rfl) ⟨s1, ⟨Below.refl _ _, below_drew (Below.refl _ _)⟩, trivial⟩ ⟨fun _ _ hb h => below_step h hb, trivial⟩ (fun hgrow => ⟨fun _ _ h => rv rfl (x_loadS rfl h.1 Try.underlying67 (opc o A c) sz67 (blk_list (L := opc o A c) (blk_below HBX1 h.2.1) 0 rfl)) rfl,
    fun _ _ h => rc hgrow rfl Try.func95 (by kernel_rfl) rfl rfl (args1 h.1) (stamp_calls o A c _) (fun _ _ h => ⟨_, h.1, h.2, rfl⟩),
    fun _ _ h => rc hgrow rfl Try.func111 (by kernel_rfl) rfl rfl (args1 h.1) (iStampOK_calls o.time o.actor _) (fun _ _ h => ⟨_, h.1, h.2, rfl⟩),
    fun _ _ h => rv rfl (x_not rfl h.1) rfl,
    fun _ _ h => rv rfl (x_move rfl h.1) rfl,
    fun _ _ h => rb rfl rfl h.1 (fun hgt => x_field rfl h.2.1 Try.underlying67 rfl sz3 (by decide) rfl) (fun _ z => z),
    fun _ _ h => rb rfl rfl h.1 (fun hgt => x_load1 rfl (h.2.1.1 hgt) Try.underlying3 rfl (blk_one (L := opc o A c) (blk_below HBX1 h.2.2.1) 1 rfl)) (fun _ z => z),
    fun _ _ h => rb rfl rfl h.1 (fun hgt => x_lss rfl (h.2.1.1 hgt) rfl) (fun _ z => z),
    fun _ _ h => rv rfl (x_or rfl rfl h.1 (fun hc => h.2.1.1 (beq_iff_eq.2 hc))) rfl,
    fun _ _ h => rv rfl (x_move rfl h.1) rfl,
    fun _ _ h => rb rfl rfl h.1 (fun hgt => x_field rfl h.2.1 Try.underlying67 rfl sz3 (by decide) rfl) (fun _ z => z),
    fun _ _ h => rb rfl rfl h.1 (fun hgt => x_load1 rfl (h.2.1.1 hgt) Try.underlying3 rfl (blk_one (L := opc o A c) (blk_below HBX1 h.2.2.1) 1 rfl)) (fun _ z => z),
    fun _ _ h => rb rfl rfl h.1 (fun hgt => x_gtr rfl (h.2.1.1 hgt) rfl) (fun _ z => z),
    fun _ _ h => rv rfl (x_or rfl rfl h.1 (fun hc => h.2.1.1 (beq_iff_eq.2 hc))) rfl,
    fun _ _ h => rv rfl (x_move rfl h.1) rfl,
    fun _ _ h => rb rfl rfl h.1 (fun hgt => x_field rfl h.2.1 Try.underlying67 rfl sz41 (by decide) rfl) (fun _ z => z),
    fun _ _ h => rb rfl rfl h.1 (fun hgt => x_loadS rfl (h.2.1.1 hgt) Try.underlying41 [.slice A o.deps.length c] sz41 (blk_list (L := opc o A c) (blk_below HBX1 h.2.2.1) 3 rfl)) (fun _ z => z),
    fun _ _ h => rcb hgrow rfl rfl h.1 Try.func60 (by kernel_rfl) rfl rfl (fun hgt => args1 (h.2.1.1 hgt)) (fun hgt => iVecOK_calls A o.deps c _ (RI.below HR (below_step HB h.2.2.1))) (fun _ _ _ h => h) (fun _ _ z => z),
    fun _ _ h => rb rfl rfl h.1 (fun hgt => x_not rfl (h.2.1.1 hgt)) (fun _ z => z),
    fun _ _ h => rv rfl (x_or rfl rfl h.1 (fun hc => h.2.1.1 (beq_iff_eq.2 hc))) rfl,
    fun _ _ h => rv rfl (x_move rfl h.1) rfl,
    fun _ _ h => rb rfl rfl h.1 (fun hgt => x_field rfl h.2.1 Try.underlying67 rfl sz41 (by decide) rfl) (fun _ z => z),
    fun _ _ h => rb rfl rfl h.1 (fun hgt => x_field rfl (h.2.1.1 hgt) Try.underlying41 rfl sz24 (by decide) rfl) (fun _ z => z),
    fun _ _ h => rb rfl rfl h.1 (fun hgt => x_load1 rfl (h.2.1.1 hgt) Try.underlying24 rfl (blk_one (L := opc o A c) (blk_below HBX1 h.2.2.1) 3 rfl)) (fun _ z => z),
    fun _ _ h => rb rfl rfl h.1 (fun hgt => x_field rfl h.2.1 Try.underlying67 rfl sz3 (by decide) rfl) (fun _ z => z),
    fun _ _ h => rb rfl rfl h.1 (fun hgt => x_load1 rfl (h.2.1.1 hgt) Try.underlying3 rfl (blk_one (L := opc o A c) (blk_below HBX1 h.2.2.1) 0 rfl)) (fun _ z => z),
    fun _ _ h => rb rfl rfl h.1 (fun hgt => x_index_at rfl (h.2.1.1 hgt) (h.2.2.1.1 hgt) Try.underlying24 sz3 (by simp [stampOK, actorOK] at hgt; omega) (by simp [stampOK, actorOK, vecOK_iff, VecOK] at hgt; omega) (RI.ad HR o.actor (by simp [stampOK, actorOK] at hgt; omega) (by simp [stampOK, actorOK, vecOK_iff, VecOK] at hgt; omega))) (fun _ z => z),
    fun _ _ h => rb rfl rfl h.1 (fun hgt => x_load1 rfl (h.2.1.1 hgt) Try.underlying3 rfl (RI.at_ HR (below_step HB h.2.2.1) (by simp [stampOK, actorOK] at hgt; omega) (by simp [stampOK, actorOK, vecOK_iff, VecOK] at hgt; omega))) (fun _ z => z),
    fun _ _ h => rb rfl rfl h.1 (fun hgt => x_field rfl h.2.1 Try.underlying67 rfl sz3 (by decide) rfl) (fun _ z => z),
    fun _ _ h => rb rfl rfl h.1 (fun hgt => x_load1 rfl (h.2.1.1 hgt) Try.underlying3 rfl (blk_one (L := opc o A c) (blk_below HBX1 h.2.2.1) 1 rfl)) (fun _ z => z),
    fun _ _ h => rb rfl rfl h.1 (fun hgt => x_sub' rfl (h.2.1.1 hgt) rfl (by simp at hgt; omega)) (fun _ z => z),
    fun _ _ h => rb rfl rfl h.1 (fun hgt => x_neq rfl (h.2.1.1 hgt) (h.2.2.1.1 hgt)) (fun _ z => z),
    fun _ _ h => rv rfl (x_or rfl rfl h.1 (fun hc => h.2.1.1 (beq_iff_eq.2 hc))) rfl, trivial⟩) ?_
  clear s0 s1
  clear hN hD
  rintro a2 w2 hN hD ⟨s37, s1, hGR, -⟩
  replace HB := below_step HB hGR
  replace HBX1 := blk_below HBX1 hGR
  clear hGR
  show Code.wp _ _ _ _ _
  refine wp_cond (t := ((((!(stampOK o.time o.actor)) || (decide (o.seq < 1))) || (decide (1000000000000 < o.seq))) || (!(vecOK o.deps))) || ((gi o.deps o.actor) != (o.seq - 1))) s37 ?_
  rcases Bool.eq_false_or_eq_true (((((!(stampOK o.time o.actor)) || (decide (o.seq < 1))) || (decide (1000000000000 < o.seq))) || (!(vecOK o.deps))) || ((gi o.deps o.actor) != (o.seq - 1))) with cd3 | cd3
  · rw [cd3]
    show Code.wp _ _ _ _ _
    refine wp_seq ?_
    refine deedL [.eq 2 (.bool false), .w (Below w2.heap.size w2)] 145 [[]] [] [0, 1] hM hN hD (by kernel_rfl) ⟨⟨Below.refl _ _, below_drew (Below.refl _ _)⟩, trivial⟩ ⟨fun _ _ hb h => below_step h hb, trivial⟩ (fun hgrow => ⟨fun _ _ _ => rv rfl (x_assign rfl rfl) rfl, trivial⟩) ?_
    clear s1 s37
    clear hN hD
    rintro a4 w4 hN hD ⟨s2, hGR, -⟩
    replace HB := below_step HB hGR
    replace HBX1 := blk_below HBX1 hGR
    clear hGR
    show Code.wp _ _ _ _ _
    refine wp_ret (then_ret ?_)
    refine bodyPost_ret (results_single rfl (vtmp s2 .nil)) hD ?_
    exact ⟨by simp only [iOp, cd3, if_true, if_false, Bool.false_eq_true], HB⟩
  · rw [cd3]
    show Code.wp _ _ _ _ _
    refine wp_skip ?_
    show Code.wp _ _ _ _ _
    refine wp_seq ?_
    refine wp_seq ?_
    refine deedL (.eq 38 (.pointer (some ⟨g1, 5, none⟩)) :: .eq 39 (.int .i64 o.obj) :: .eq 40 (.bool (decide (o.obj < 1))) :: .eq 41 (.bool (decide (o.obj < 1))) :: .gv (((decide (o.obj < 1)) == false)) 42 (.pointer (some ⟨g1, 5, none⟩)) :: .gv (((decide (o.obj < 1)) == false)) 43 (.int .i64 o.obj) :: .gv (((decide (o.obj < 1)) == false)) 44 (.bool (decide (100 < o.obj))) :: .eq 45 (.bool ((decide (o.obj < 1)) || (decide (100 < o.obj)))) :: .eq 46 (.bool ((decide (o.obj < 1)) || (decide (100 < o.obj)))) :: .gv ((((decide (o.obj < 1)) || (decide (100 < o.obj))) == false)) 47 (.pointer (some ⟨g1, 6, none⟩)) :: .gv ((((decide (o.obj < 1)) || (decide (100 < o.obj))) == false)) 48 (.int .i64 o.num) :: .gv ((((decide (o.obj < 1)) || (decide (100 < o.obj))) == false)) 49 (.bool (decide (o.num < -1000000000000))) :: .eq 50 (.bool (((decide (o.obj < 1)) || (decide (100 < o.obj))) || (decide (o.num < -1000000000000)))) :: .eq 51 (.bool (((decide (o.obj < 1)) || (decide (100 < o.obj))) || (decide (o.num < -1000000000000)))) :: .gv (((((decide (o.obj < 1)) || (decide (100 < o.obj))) || (decide (o.num < -1000000000000))) == false)) 52 (.pointer (some ⟨g1, 6, none⟩)) :: .gv (((((decide (o.obj < 1)) || (decide (100 < o.obj))) || (decide (o.num < -1000000000000))) == false)) 53 (.int .i64 o.num) :: .gv (((((decide (o.obj < 1)) || (decide (100 < o.obj))) || (decide (o.num < -1000000000000))) == false)) 54 (.bool (decide (1000000000000 < o.num))) :: .eq 55 (.bool ((((decide (o.obj < 1)) || (decide (100 < o.obj))) || (decide (o.num < -1000000000000))) || (decide (1000000000000 < o.num)))) :: .eq 56 (.bool ((((decide (o.obj < 1)) || (decide (100 < o.obj))) || (decide (o.num < -1000000000000))) || (decide (1000000000000 < o.num)))) :: .gv ((((((decide (o.obj < 1)) || (decide (100 < o.obj))) || (decide (o.num < -1000000000000))) || (decide (1000000000000 < o.num))) == false)) 57 (.pointer (some ⟨g1, 7, none⟩)) :: .gv ((((((decide (o.obj < 1)) || (decide (100 < o.obj))) || (decide (o.num < -1000000000000))) || (decide (1000000000000 < o.num))) == false)) 58 (.int .i64 o.undo) :: .gv ((((((decide (o.obj < 1)) || (decide (100 < o.obj))) || (decide (o.num < -1000000000000))) || (decide (1000000000000 < o.num))) == false)) 59 (.bool (decide (o.undo < 0))) :: .eq 60 (.bool (((((decide (o.obj < 1)) || (decide (100 < o.obj))) || (decide (o.num < -1000000000000))) || (decide (1000000000000 < o.num))) || (decide (o.undo < 0)))) :: .eq 61 (.bool (((((decide (o.obj < 1)) || (decide (100 < o.obj))) || (decide (o.num < -1000000000000))) || (decide (1000000000000 < o.num))) || (decide (o.undo < 0)))) :: .gv (((((((decide (o.obj < 1)) || (decide (100 < o.obj))) || (decide (o.num < -1000000000000))) || (decide (1000000000000 < o.num))) || (decide (o.undo < 0))) == false)) 62 (.pointer (some ⟨g1, 7, none⟩)) :: .gv (((((((decide (o.obj < 1)) || (decide (100 < o.obj))) || (decide (o.num < -1000000000000))) || (decide (1000000000000 < o.num))) || (decide (o.undo < 0))) == false)) 63 (.int .i64 o.undo) :: .gv (((((((decide (o.obj < 1)) || (decide (100 < o.obj))) || (decide (o.num < -1000000000000))) || (decide (1000000000000 < o.num))) || (decide (o.undo < 0))) == false)) 64 (.pointer (some ⟨g1, 1, none⟩)) :: .gv (((((((decide (o.obj < 1)) || (decide (100 < o.obj))) || (decide (o.num < -1000000000000))) || (decide (1000000000000 < o.num))) || (decide (o.undo < 0))) == false)) 65 (.int .i64 o.seq) :: .gv (((((((decide (o.obj < 1)) || (decide (100 < o.obj))) || (decide (o.num < -1000000000000))) || (decide (1000000000000 < o.num))) || (decide (o.undo < 0))) == false)) 66 (.bool (decide (o.seq ≤ o.undo))) :: .eq 67 (.bool ((((((decide (o.obj < 1)) || (decide (100 < o.obj))) || (decide (o.num < -1000000000000))) || (decide (1000000000000 < o.num))) || (decide (o.undo < 0))) || (decide (o.seq ≤ o.undo)))) :: .eq 1 (.pointer (some ⟨g1, 0, none⟩)) :: .w (Below w2.heap.size w2) :: []) 145 ([30] :: [0, 31] :: [1] :: [2] :: [3, 30] :: [3, 4, 31] :: [3, 5] :: [3, 6] :: [7] :: [8, 30] :: [8, 9, 31] :: [8, 10] :: [8, 11] :: [12] :: [13, 30] :: [13, 14, 31] :: [13, 15] :: [13, 16] :: [17] :: [18, 30] :: [18, 19, 31] :: [18, 20] :: [18, 21] :: [22] :: [23, 30] :: [23, 24, 31] :: [23, 30] :: [23, 26, 31] :: [23, 25, 27] :: [23, 28] :: []) [] [29, 30, 31] hM hN hD (by kernel_rfl) ⟨s1, ⟨Below.refl _ _, below_drew (Below.refl _ _)⟩, trivial⟩ ⟨fun _ _ hb h => below_step h hb, trivial⟩ (fun hgrow => ⟨fun _ _ h => rv rfl (x_field rfl h.1 Try.underlying67 rfl sz3 (by decide) rfl) rfl,
      fun _ _ h => rv rfl (x_load1 rfl h.1 Try.underlying3 rfl (blk_one (L := opc o A c) (blk_below HBX1 h.2.1) 5 rfl)) rfl,
      fun _ _ h => rv rfl (x_lss rfl h.1 rfl) rfl,
      fun _ _ h => rv rfl (x_move rfl h.1) rfl,
      fun _ _ h => rb rfl rfl h.1 (fun hgt => x_field rfl h.2.1 Try.underlying67 rfl sz3 (by decide) rfl) (fun _ z => z),
      fun _ _ h => rb rfl rfl h.1 (fun hgt => x_load1 rfl (h.2.1.1 hgt) Try.underlying3 rfl (blk_one (L := opc o A c) (blk_below HBX1 h.2.2.1) 5 rfl)) (fun _ z => z),
      fun _ _ h => rb rfl rfl h.1 (fun hgt => x_gtr rfl (h.2.1.1 hgt) rfl) (fun _ z => z),
      fun _ _ h => rv rfl (x_or rfl rfl h.1 (fun hc => h.2.1.1 (beq_iff_eq.2 hc))) rfl,
      fun _ _ h => rv rfl (x_move rfl h.1) rfl,
      fun _ _ h => rb rfl rfl h.1 (fun hgt => x_field rfl h.2.1 Try.underlying67 rfl sz3 (by decide) rfl) (fun _ z => z),
      fun _ _ h => rb rfl rfl h.1 (fun hgt => x_load1 rfl (h.2.1.1 hgt) Try.underlying3 rfl (blk_one (L := opc o A c) (blk_below HBX1 h.2.2.1) 6 rfl)) (fun _ z => z),
      fun _ _ h => rb rfl rfl h.1 (fun hgt => x_lss rfl (h.2.1.1 hgt) rfl) (fun _ z => z),
      fun _ _ h => rv rfl (x_or rfl rfl h.1 (fun hc => h.2.1.1 (beq_iff_eq.2 hc))) rfl,
      fun _ _ h => rv rfl (x_move rfl h.1) rfl,
      fun _ _ h => rb rfl rfl h.1 (fun hgt => x_field rfl h.2.1 Try.underlying67 rfl sz3 (by decide) rfl) (fun _ z => z),
      fun _ _ h => rb rfl rfl h.1 (fun hgt => x_load1 rfl (h.2.1.1 hgt) Try.underlying3 rfl (blk_one (L := opc o A c) (blk_below HBX1 h.2.2.1) 6 rfl)) (fun _ z => z),
      fun _ _ h => rb rfl rfl h.1 (fun hgt => x_gtr rfl (h.2.1.1 hgt) rfl) (fun _ z => z),
      fun _ _ h => rv rfl (x_or rfl rfl h.1 (fun hc => h.2.1.1 (beq_iff_eq.2 hc))) rfl,
      fun _ _ h => rv rfl (x_move rfl h.1) rfl,
      fun _ _ h => rb rfl rfl h.1 (fun hgt => x_field rfl h.2.1 Try.underlying67 rfl sz3 (by decide) rfl) (fun _ z => z),
      fun _ _ h => rb rfl rfl h.1 (fun hgt => x_load1 rfl (h.2.1.1 hgt) Try.underlying3 rfl (blk_one (L := opc o A c) (blk_below HBX1 h.2.2.1) 7 rfl)) (fun _ z => z),
      fun _ _ h => rb rfl rfl h.1 (fun hgt => x_lss rfl (h.2.1.1 hgt) rfl) (fun _ z => z),
      fun _ _ h => rv rfl (x_or rfl rfl h.1 (fun hc => h.2.1.1 (beq_iff_eq.2 hc))) rfl,
      fun _ _ h => rv rfl (x_move rfl h.1) rfl,
      fun _ _ h => rb rfl rfl h.1 (fun hgt => x_field rfl h.2.1 Try.underlying67 rfl sz3 (by decide) rfl) (fun _ z => z),
      fun _ _ h => rb rfl rfl h.1 (fun hgt => x_load1 rfl (h.2.1.1 hgt) Try.underlying3 rfl (blk_one (L := opc o A c) (blk_below HBX1 h.2.2.1) 7 rfl)) (fun _ z => z),
      fun _ _ h => rb rfl rfl h.1 (fun hgt => x_field rfl h.2.1 Try.underlying67 rfl sz3 (by decide) rfl) (fun _ z => z),
      fun _ _ h => rb rfl rfl h.1 (fun hgt => x_load1 rfl (h.2.1.1 hgt) Try.underlying3 rfl (blk_one (L := opc o A c) (blk_below HBX1 h.2.2.1) 1 rfl)) (fun _ z => z),
      fun _ _ h => rb rfl rfl h.1 (fun hgt => x_geq rfl (h.2.1.1 hgt) (h.2.2.1.1 hgt)) (fun _ z => z),
      fun _ _ h => rv rfl (x_or rfl rfl h.1 (fun hc => h.2.1.1 (beq_iff_eq.2 hc))) rfl, trivial⟩) ?_
    clear s1 s37
    clear hN hD
    rintro a5 w5 hN hD ⟨s67, s1, hGR, -⟩
    replace HB := below_step HB hGR
    replace HBX1 := blk_below HBX1 hGR
    clear hGR
    show Code.wp _ _ _ _ _
    refine wp_cond (t := (((((decide (o.obj < 1)) || (decide (100 < o.obj))) || (decide (o.num < -1000000000000))) || (decide (1000000000000 < o.num))) || (decide (o.undo < 0))) || (decide (o.seq ≤ o.undo))) s67 ?_
    rcases Bool.eq_false_or_eq_true ((((((decide (o.obj < 1)) || (decide (100 < o.obj))) || (decide (o.num < -1000000000000))) || (decide (1000000000000 < o.num))) || (decide (o.undo < 0))) || (decide (o.seq ≤ o.undo))) with cd6 | cd6
    · rw [cd6]
      show Code.wp _ _ _ _ _
      refine wp_seq ?_
      refine deedL [.eq 2 (.bool false), .w (Below w5.heap.size w5)] 145 [[]] [] [0, 1] hM hN hD (by kernel_rfl) ⟨⟨Below.refl _ _, below_drew (Below.refl _ _)⟩, trivial⟩ ⟨fun _ _ hb h => below_step h hb, trivial⟩ (fun hgrow => ⟨fun _ _ _ => rv rfl (x_assign rfl rfl) rfl, trivial⟩) ?_
      clear s1 s67
      clear hN hD
      rintro a7 w7 hN hD ⟨s2, hGR, -⟩
      replace HB := below_step HB hGR
      replace HBX1 := blk_below HBX1 hGR
      clear hGR
      show Code.wp _ _ _ _ _
      refine wp_ret (then_ret ?_)
      refine bodyPost_ret (results_single rfl (vtmp s2 .nil)) hD ?_
      exact ⟨by simp only [iOp, cd3, cd6, if_true, if_false, Bool.false_eq_true], HB⟩
    · rw [cd6]
      show Code.wp _ _ _ _ _
      refine wp_skip ?_
      show Code.wp _ _ _ _ _
      refine wp_seq ?_
      refine wp_seq ?_
      refine deedL [.eq 68 (.pointer (some ⟨g1, 10, none⟩)), .eq 69 (.string o.key), .eq 70 (.int .i64 (o.key.size : Int)), .eq 71 (.bool (decide (200 < (o.key.size : Int)))), .eq 72 (.bool (decide (200 < (o.key.size : Int)))), .gv (((decide (200 < (o.key.size : Int))) == false)) 73 (.pointer (some ⟨g1, 11, none⟩)), .gv (((decide (200 < (o.key.size : Int))) == false)) 74 (.string o.text), .gv (((decide (200 < (o.key.size : Int))) == false)) 75 (.int .i64 (o.text.size : Int)), .gv (((decide (200 < (o.key.size : Int))) == false)) 76 (.bool (decide (200 < (o.text.size : Int)))), .eq 77 (.bool ((decide (200 < (o.key.size : Int))) || (decide (200 < (o.text.size : Int))))), .eq 1 (.pointer (some ⟨g1, 0, none⟩)), .w (Below w5.heap.size w5)] 145 [[10], [0, 11], [1], [2], [3], [4, 10], [4, 5, 11], [4, 6], [4, 7], [4, 8]] [] [9, 10, 11] hM hN hD (by kernel_rfl) ⟨s1, ⟨Below.refl _ _, below_drew (Below.refl _ _)⟩, trivial⟩ ⟨fun _ _ hb h => below_step h hb, trivial⟩ (fun hgrow => ⟨fun _ _ h => rv rfl (x_field rfl h.1 Try.underlying67 rfl sz9 (by decide) rfl) rfl,
        fun _ _ h => rv rfl (x_load1 rfl h.1 Try.underlying9 rfl (blk_one (L := opc o A c) (blk_below HBX1 h.2.1) 10 rfl)) rfl,
        fun _ _ h => rv rfl (x_len_string rfl Try.underlying9 h.1) rfl,
        fun _ _ h => rv rfl (x_gtr rfl h.1 rfl) rfl,
        fun _ _ h => rv rfl (x_move rfl h.1) rfl,
        fun _ _ h => rb rfl rfl h.1 (fun hgt => x_field rfl h.2.1 Try.underlying67 rfl sz9 (by decide) rfl) (fun _ z => z),
        fun _ _ h => rb rfl rfl h.1 (fun hgt => x_load1 rfl (h.2.1.1 hgt) Try.underlying9 rfl (blk_one (L := opc o A c) (blk_below HBX1 h.2.2.1) 11 rfl)) (fun _ z => z),
        fun _ _ h => rb rfl rfl h.1 (fun hgt => x_len_string rfl Try.underlying9 (h.2.1.1 hgt)) (fun _ z => z),
        fun _ _ h => rb rfl rfl h.1 (fun hgt => x_gtr rfl (h.2.1.1 hgt) rfl) (fun _ z => z),
        fun _ _ h => rv rfl (x_or rfl rfl h.1 (fun hc => h.2.1.1 (beq_iff_eq.2 hc))) rfl, trivial⟩) ?_
      clear s1 s67
      clear hN hD
      rintro a8 w8 hN hD ⟨s77, s1, hGR, -⟩
      replace HB := below_step HB hGR
      replace HBX1 := blk_below HBX1 hGR
      clear hGR
      show Code.wp _ _ _ _ _
      refine wp_cond (t := (decide (200 < (o.key.size : Int))) || (decide (200 < (o.text.size : Int)))) s77 ?_
      rcases Bool.eq_false_or_eq_true ((decide (200 < (o.key.size : Int))) || (decide (200 < (o.text.size : Int)))) with cd9 | cd9
      · rw [cd9]
        show Code.wp _ _ _ _ _
        refine wp_seq ?_
        refine deedL [.eq 2 (.bool false), .w (Below w8.heap.size w8)] 145 [[]] [] [0, 1] hM hN hD (by kernel_rfl) ⟨⟨Below.refl _ _, below_drew (Below.refl _ _)⟩, trivial⟩ ⟨fun _ _ hb h => below_step h hb, trivial⟩ (fun hgrow => ⟨fun _ _ _ => rv rfl (x_assign rfl rfl) rfl, trivial⟩) ?_
        clear s1 s77
        clear hN hD
        rintro a10 w10 hN hD ⟨s2, hGR, -⟩
        replace HB := below_step HB hGR
        replace HBX1 := blk_below HBX1 hGR
        clear hGR
        show Code.wp _ _ _ _ _
        refine wp_ret (then_ret ?_)
        refine bodyPost_ret (results_single rfl (vtmp s2 .nil)) hD ?_
        exact ⟨by simp only [iOp, cd3, cd6, cd9, if_true, if_false, Bool.false_eq_true], HB⟩
      · rw [cd9]
        show Code.wp _ _ _ _ _
        refine wp_skip ?_
        show Code.wp _ _ _ _ _
        refine wp_seq ?_
        refine deedL [.eq 78 (.pointer (some ⟨g1, 8, none⟩)), .eq 79 (.agg #[Value.int .i64 o.att, Value.int .i64 o.ata]), .eq 80 (.agg #[Value.int .i64 0, Value.int .i64 0]), .eq 81 (.bool (o.att == 0 && o.ata == 0)), .eq 3 (.bool (o.att == 0 && o.ata == 0)), .eq 1 (.pointer (some ⟨g1, 0, none⟩)), .w (Below w8.heap.size w8)] 145 [[5], [0, 6], [], [1, 2], [3]] [] [4, 5, 6] hM hN hD (by kernel_rfl) ⟨s1, ⟨Below.refl _ _, below_drew (Below.refl _ _)⟩, trivial⟩ ⟨fun _ _ hb h => below_step h hb, trivial⟩ (fun hgrow => ⟨fun _ _ h => rv rfl (x_field rfl h.1 Try.underlying67 rfl sz65 (by decide) rfl) rfl,
          fun _ _ h => rv rfl (x_loadS rfl h.1 Try.underlying65 [.int .i64 o.att, .int .i64 o.ata] sz65 (blk_list (L := opc o A c) (blk_below HBX1 h.2.1) 8 rfl)) rfl,
          fun _ _ _ => rv rfl (x_build rfl Try.underlying65 zr65 bp65 rfl (by kernel_rfl) (ps := []) (vs := []) (L := [.int .i64 0, .int .i64 0])) rfl,
          fun _ _ h => rv rfl (x_eq65 rfl h.1 h.2.1) rfl,
          fun _ _ h => rv rfl (x_assign rfl h.1) rfl, trivial⟩) ?_
        clear s1 s77
        clear hN hD
        rintro a11 w11 hN hD ⟨s3, s1, hGR, -⟩
        replace HB := below_step HB hGR
        replace HBX1 := blk_below HBX1 hGR
        clear hGR
        show Code.wp _ _ _ _ _
        refine wp_seq ?_
        refine wp_seq ?_
        refine deedL (.eq 82 (.bool (o.att == 0 && o.ata == 0)) :: .eq 83 (.bool (!(o.att == 0 && o.ata == 0))) :: .eq 84 (.bool (!(o.att == 0 && o.ata == 0))) :: .gv (((!(o.att == 0 && o.ata == 0)) == true)) 85 (.pointer (some ⟨g1, 8, none⟩)) :: .gv (((!(o.att == 0 && o.ata == 0)) == true)) 86 (.agg #[Value.int .i64 o.att, Value.int .i64 o.ata]) :: .gv (((!(o.att == 0 && o.ata == 0)) == true)) 87 (.bool (stampOK o.att o.ata)) :: .gv (((!(o.att == 0 && o.ata == 0)) == true)) 88 (.bool (!(stampOK o.att o.ata))) :: .gv (((!(o.att == 0 && o.ata == 0)) == true)) 89 (.bool (!(stampOK o.att o.ata))) :: .gv (((!(o.att == 0 && o.ata == 0)) == true) && ((!(stampOK o.att o.ata)) == false)) 90 (.pointer (some ⟨g1, 8, none⟩)) :: .gv (((!(o.att == 0 && o.ata == 0)) == true) && ((!(stampOK o.att o.ata)) == false)) 91 (.agg #[Value.int .i64 o.att, Value.int .i64 o.ata]) :: .gv (((!(o.att == 0 && o.ata == 0)) == true) && ((!(stampOK o.att o.ata)) == false)) 92 (.agg (opc o A c).toArray) :: .gv (((!(o.att == 0 && o.ata == 0)) == true) && ((!(stampOK o.att o.ata)) == false)) 93 (.agg #[Value.int .i64 o.time, Value.int .i64 o.actor]) :: .gv (((!(o.att == 0 && o.ata == 0)) == true) && ((!(stampOK o.att o.ata)) == false)) 94 (.bool (less (o.att, o.ata) (o.time, o.actor))) :: .gv (((!(o.att == 0 && o.ata == 0)) == true) && ((!(stampOK o.att o.ata)) == false)) 95 (.bool (!(less (o.att, o.ata) (o.time, o.actor)))) :: .gv (((!(o.att == 0 && o.ata == 0)) == true)) 96 (.bool ((!(stampOK o.att o.ata)) || (!(less (o.att, o.ata) (o.time, o.actor))))) :: .eq 97 (.bool ((!(o.att == 0 && o.ata == 0)) && ((!(stampOK o.att o.ata)) || (!(less (o.att, o.ata) (o.time, o.actor)))))) :: .eq 1 (.pointer (some ⟨g1, 0, none⟩)) :: .eq 3 (.bool (o.att == 0 && o.ata == 0)) :: .w (Below w11.heap.size w11) :: []) 145 ([17] :: [0] :: [1] :: [2, 16] :: [2, 3, 18] :: [2, 4] :: [2, 5] :: [2, 6] :: [7, 16] :: [7, 8, 18] :: [7, 16, 18] :: [7, 10] :: [7, 9, 11] :: [7, 12] :: [2, 7, 13] :: [2, 14] :: []) [] [15, 16, 17, 18] hM hN hD (by kernel_rfl) ⟨s1, s3, ⟨Below.refl _ _, below_drew (Below.refl _ _)⟩, trivial⟩ ⟨fun _ _ hb h => below_step h hb, trivial⟩ (fun hgrow => ⟨fun _ _ h => rv rfl (x_move rfl h.1) rfl,
          fun _ _ h => rv rfl (x_not rfl h.1) rfl,
          fun _ _ h => rv rfl (x_move rfl h.1) rfl,
          fun _ _ h => rb rfl rfl h.1 (fun hgt => x_field rfl h.2.1 Try.underlying67 rfl sz65 (by decide) rfl) (fun _ z => z),
          fun _ _ h => rb rfl rfl h.1 (fun hgt => x_loadS rfl (h.2.1.1 hgt) Try.underlying65 [.int .i64 o.att, .int .i64 o.ata] sz65 (blk_list (L := opc o A c) (blk_below HBX1 h.2.2.1) 8 rfl)) (fun _ z => z),
          fun _ _ h => rcb hgrow rfl rfl h.1 Try.func111 (by kernel_rfl) rfl rfl (fun hgt => args1 (h.2.1.1 hgt)) (fun hgt => iStampOK_calls o.att o.ata _) (fun _ _ _ h => h) (fun _ _ z => z),
          fun _ _ h => rb rfl rfl h.1 (fun hgt => x_not rfl (h.2.1.1 hgt)) (fun _ z => z),
          fun _ _ h => rb rfl rfl h.1 (fun hgt => x_move rfl (h.2.1.1 hgt)) (fun _ z => z),
          fun _ _ h => rg rfl rfl h.1 (fun hgt => x_field rfl h.2.1 Try.underlying67 rfl sz65 (by decide) rfl) (fun _ z => z),
          fun _ _ h => rg rfl rfl h.1 (fun hgt => x_loadS rfl (h.2.1.1 hgt) Try.underlying65 [.int .i64 o.att, .int .i64 o.ata] sz65 (blk_list (L := opc o A c) (blk_below HBX1 h.2.2.1) 8 rfl)) (fun _ z => z),
          fun _ _ h => rg rfl rfl h.1 (fun hgt => x_loadS rfl h.2.1 Try.underlying67 (opc o A c) sz67 (blk_list (L := opc o A c) (blk_below HBX1 h.2.2.1) 0 rfl)) (fun _ z => z),
          fun _ _ h => rcg hgrow rfl rfl h.1 Try.func95 (by kernel_rfl) rfl rfl (fun hgt => args1 (h.2.1.1 hgt)) (fun hgt => stamp_calls o A c _) (fun _ _ _ h => h) (fun _ _ z => z),
          fun _ _ h => rcg hgrow rfl rfl h.1 Try.func94 (by kernel_rfl) rfl rfl (fun hgt => args2 (h.2.1.1 hgt) (h.2.2.1.1 hgt)) (fun hgt => less_calls (o.att, o.ata) (o.time, o.actor) _) (fun _ _ _ h => h) (fun _ _ z => z),
          fun _ _ h => rg rfl rfl h.1 (fun hgt => x_not rfl (h.2.1.1 hgt)) (fun _ z => z),
          fun _ _ h => rb rfl rfl h.1 (fun hgt => x_or rfl rfl (h.2.1.1 hgt) (fun hc => h.2.2.1.1 (Bool.and_eq_true _ _ ▸ ⟨hgt, beq_iff_eq.2 hc⟩))) (fun _ z => z),
          fun _ _ h => rv rfl (x_and rfl rfl h.1 (fun hc => h.2.1.1 (beq_iff_eq.2 hc))) rfl, trivial⟩) ?_
        clear s1 s3
        clear hN hD
        rintro a12 w12 hN hD ⟨s97, s1, s3, hGR, -⟩
        replace HB := below_step HB hGR
        replace HBX1 := blk_below HBX1 hGR
        clear hGR
        show Code.wp _ _ _ _ _
        refine wp_cond (t := (!(o.att == 0 && o.ata == 0)) && ((!(stampOK o.att o.ata)) || (!(less (o.att, o.ata) (o.time, o.actor))))) s97 ?_
        rcases Bool.eq_false_or_eq_true ((!(o.att == 0 && o.ata == 0)) && ((!(stampOK o.att o.ata)) || (!(less (o.att, o.ata) (o.time, o.actor))))) with cd13 | cd13
        · rw [cd13]
          show Code.wp _ _ _ _ _
          refine wp_seq ?_
          refine deedL [.eq 2 (.bool false), .w (Below w12.heap.size w12)] 145 [[]] [] [0, 1] hM hN hD (by kernel_rfl) ⟨⟨Below.refl _ _, below_drew (Below.refl _ _)⟩, trivial⟩ ⟨fun _ _ hb h => below_step h hb, trivial⟩ (fun hgrow => ⟨fun _ _ _ => rv rfl (x_assign rfl rfl) rfl, trivial⟩) ?_
          clear s1 s3 s97
          clear hN hD
          rintro a14 w14 hN hD ⟨s2, hGR, -⟩
          replace HB := below_step HB hGR
          replace HBX1 := blk_below HBX1 hGR
          clear hGR
          show Code.wp _ _ _ _ _
          refine wp_ret (then_ret ?_)
          refine bodyPost_ret (results_single rfl (vtmp s2 .nil)) hD ?_
          exact ⟨by simp only [iOp, cd3, cd6, cd9, cd13, if_true, if_false, Bool.false_eq_true], HB⟩
        · rw [cd13]
          show Code.wp _ _ _ _ _
          refine wp_skip ?_
          show Code.wp _ _ _ _ _
          refine wp_seq ?_
          refine deedL [.eq 98 (.pointer (some ⟨g1, 10, none⟩)), .eq 99 (.string o.key), .eq 100 (.bool (!(o.key.toList == (⟨#[]⟩ : ByteArray).toList))), .eq 101 (.bool (!(o.key.toList == (⟨#[]⟩ : ByteArray).toList))), .gv (((!(o.key.toList == (⟨#[]⟩ : ByteArray).toList)) == false)) 102 (.pointer (some ⟨g1, 11, none⟩)), .gv (((!(o.key.toList == (⟨#[]⟩ : ByteArray).toList)) == false)) 103 (.string o.text), .gv (((!(o.key.toList == (⟨#[]⟩ : ByteArray).toList)) == false)) 104 (.bool (!(o.text.toList == (⟨#[]⟩ : ByteArray).toList))), .eq 105 (.bool ((!(o.key.toList == (⟨#[]⟩ : ByteArray).toList)) || (!(o.text.toList == (⟨#[]⟩ : ByteArray).toList)))), .eq 4 (.bool ((!(o.key.toList == (⟨#[]⟩ : ByteArray).toList)) || (!(o.text.toList == (⟨#[]⟩ : ByteArray).toList)))), .eq 1 (.pointer (some ⟨g1, 0, none⟩)), .eq 3 (.bool (o.att == 0 && o.ata == 0)), .w (Below w12.heap.size w12)] 145 [[9], [0, 11], [1], [2], [3, 9], [3, 4, 11], [3, 5], [3, 6], [7]] [] [8, 9, 10, 11] hM hN hD (by kernel_rfl) ⟨s1, s3, ⟨Below.refl _ _, below_drew (Below.refl _ _)⟩, trivial⟩ ⟨fun _ _ hb h => below_step h hb, trivial⟩ (fun hgrow => ⟨fun _ _ h => rv rfl (x_field rfl h.1 Try.underlying67 rfl sz9 (by decide) rfl) rfl,
            fun _ _ h => rv rfl (x_load1 rfl h.1 Try.underlying9 rfl (blk_one (L := opc o A c) (blk_below HBX1 h.2.1) 10 rfl)) rfl,
            fun _ _ h => rv rfl (x_sneq rfl h.1 rfl) rfl,
            fun _ _ h => rv rfl (x_move rfl h.1) rfl,
            fun _ _ h => rb rfl rfl h.1 (fun hgt => x_field rfl h.2.1 Try.underlying67 rfl sz9 (by decide) rfl) (fun _ z => z),
            fun _ _ h => rb rfl rfl h.1 (fun hgt => x_load1 rfl (h.2.1.1 hgt) Try.underlying9 rfl (blk_one (L := opc o A c) (blk_below HBX1 h.2.2.1) 11 rfl)) (fun _ z => z),
            fun _ _ h => rb rfl rfl h.1 (fun hgt => x_sneq rfl (h.2.1.1 hgt) rfl) (fun _ z => z),
            fun _ _ h => rv rfl (x_or rfl rfl h.1 (fun hc => h.2.1.1 (beq_iff_eq.2 hc))) rfl,
            fun _ _ h => rv rfl (x_assign rfl h.1) rfl, trivial⟩) ?_
          clear s1 s3 s97
          clear hN hD
          rintro a15 w15 hN hD ⟨s4, s1, s3, hGR, -⟩
          replace HB := below_step HB hGR
          replace HBX1 := blk_below HBX1 hGR
          clear hGR
          show Code.wp _ _ _ _ _
          refine wp_seq ?_
          refine wp_seq ?_
          refine deedL [.eq 106 (.pointer (some ⟨g1, 4, none⟩)), .eq 107 (.int .i64 o.kind), .eq 1 (.pointer (some ⟨g1, 0, none⟩)), .eq 3 (.bool (o.att == 0 && o.ata == 0)), .eq 4 (.bool ((!(o.key.toList == (⟨#[]⟩ : ByteArray).toList)) || (!(o.text.toList == (⟨#[]⟩ : ByteArray).toList)))), .w (Below w15.heap.size w15)] 145 [[2], [0, 5]] [] [1, 2, 3, 4, 5] hM hN hD (by kernel_rfl) ⟨s1, s3, s4, ⟨Below.refl _ _, below_drew (Below.refl _ _)⟩, trivial⟩ ⟨fun _ _ hb h => below_step h hb, trivial⟩ (fun hgrow => ⟨fun _ _ h => rv rfl (x_field rfl h.1 Try.underlying67 rfl sz3 (by decide) rfl) rfl,
            fun _ _ h => rv rfl (x_load1 rfl h.1 Try.underlying3 rfl (blk_one (L := opc o A c) (blk_below HBX1 h.2.1) 4 rfl)) rfl, trivial⟩) ?_
          clear s1 s3 s4
          clear hN hD
          rintro a16 w16 hN hD ⟨s107, s1, s3, s4, hGR, -⟩
          replace HB := below_step HB hGR
          replace HBX1 := blk_below HBX1 hGR
          clear hGR
          show Code.wp _ _ _ _ _
          refine wp_block ?_
          refine wp_seq ?_
          refine deedL [.eq 109 (.bool (o.kind == 1)), .eq 108 (.bool (o.kind == 1)), .eq 1 (.pointer (some ⟨g1, 0, none⟩)), .eq 3 (.bool (o.att == 0 && o.ata == 0)), .eq 4 (.bool ((!(o.key.toList == (⟨#[]⟩ : ByteArray).toList)) || (!(o.text.toList == (⟨#[]⟩ : ByteArray).toList)))), .eq 107 (.int .i64 o.kind), .w (Below w16.heap.size w16)] 145 [[5], [0]] [] [1, 2, 3, 4, 5, 6] hM hN hD (by kernel_rfl) ⟨s1, s3, s4, s107, ⟨Below.refl _ _, below_drew (Below.refl _ _)⟩, trivial⟩ ⟨fun _ _ hb h => below_step h hb, trivial⟩ (fun hgrow => ⟨fun _ _ h => rv rfl (x_eql rfl h.1 rfl) rfl,
            fun _ _ h => rv rfl (x_assign rfl h.1) rfl, trivial⟩) ?_
          clear s1 s3 s4 s107
          clear hN hD
          rintro a17 w17 hN hD ⟨s108, s1, s3, s4, s107, hGR, -⟩
          replace HB := below_step HB hGR
          replace HBX1 := blk_below HBX1 hGR
          clear hGR
          show Code.wp _ _ _ _ _
          refine wp_cond (t := o.kind == 1) s108 ?_
          rcases Bool.eq_false_or_eq_true (o.kind == 1) with cd18 | cd18
          · rw [cd18]
            show Code.wp _ _ _ _ _
            have pd18 := eq_of_beq cd18
            refine wp_seq ?_
            refine deedL [.eq 110 (.pointer (some ⟨g1, 6, none⟩)), .eq 111 (.int .i64 o.num), .eq 112 (.bool (o.num == 0)), .eq 113 (.bool (o.num == 0)), .gv (((o.num == 0) == true)) 114 (.bool (o.att == 0 && o.ata == 0)), .eq 115 (.bool ((o.num == 0) && (o.att == 0 && o.ata == 0))), .eq 2 (.bool ((o.num == 0) && (o.att == 0 && o.ata == 0))), .eq 1 (.pointer (some ⟨g1, 0, none⟩)), .eq 3 (.bool (o.att == 0 && o.ata == 0)), .w (Below w17.heap.size w17)] 145 [[7], [0, 9], [1], [2], [3, 8], [3, 4], [5]] [] [6, 7, 8, 9] hM hN hD (by kernel_rfl) ⟨s1, s3, ⟨Below.refl _ _, below_drew (Below.refl _ _)⟩, trivial⟩ ⟨fun _ _ hb h => below_step h hb, trivial⟩ (fun hgrow => ⟨fun _ _ h => rv rfl (x_field rfl h.1 Try.underlying67 rfl sz3 (by decide) rfl) rfl,
              fun _ _ h => rv rfl (x_load1 rfl h.1 Try.underlying3 rfl (blk_one (L := opc o A c) (blk_below HBX1 h.2.1) 6 rfl)) rfl,
              fun _ _ h => rv rfl (x_eql rfl h.1 rfl) rfl,
              fun _ _ h => rv rfl (x_move rfl h.1) rfl,
              fun _ _ h => rb rfl rfl h.1 (fun hgt => x_move rfl h.2.1) (fun _ z => z),
              fun _ _ h => rv rfl (x_and rfl rfl h.1 (fun hc => h.2.1.1 (beq_iff_eq.2 hc))) rfl,
              fun _ _ h => rv rfl (x_assign rfl h.1) rfl, trivial⟩) ?_
            clear s1 s3 s4 s107 s108
            clear hN hD
            rintro a19 w19 hN hD ⟨s2, s1, s3, hGR, -⟩
            replace HB := below_step HB hGR
            replace HBX1 := blk_below HBX1 hGR
            clear hGR
            show Code.wp _ _ _ _ _
            refine wp_ret (blk_ret (then_ret ?_))
            refine bodyPost_ret (results_single rfl (vtmp s2 .nil)) hD ?_
            exact ⟨by simp only [iOp, cd3, cd6, cd9, cd13, cd18, if_true, if_false, Bool.false_eq_true], HB⟩
          · rw [cd18]
            show Code.wp _ _ _ _ _
            have pd18 := ne_of_beq_false cd18
            refine wp_seq ?_
            refine deedL [.eq 117 (.bool (o.kind == 2)), .eq 116 (.bool (o.kind == 2)), .eq 1 (.pointer (some ⟨g1, 0, none⟩)), .eq 3 (.bool (o.att == 0 && o.ata == 0)), .eq 4 (.bool ((!(o.key.toList == (⟨#[]⟩ : ByteArray).toList)) || (!(o.text.toList == (⟨#[]⟩ : ByteArray).toList)))), .eq 107 (.int .i64 o.kind), .w (Below w17.heap.size w17)] 145 [[5], [0]] [] [1, 2, 3, 4, 5, 6] hM hN hD (by kernel_rfl) ⟨s1, s3, s4, s107, ⟨Below.refl _ _, below_drew (Below.refl _ _)⟩, trivial⟩ ⟨fun _ _ hb h => below_step h hb, trivial⟩ (fun hgrow => ⟨fun _ _ h => rv rfl (x_eql rfl h.1 rfl) rfl,
              fun _ _ h => rv rfl (x_assign rfl h.1) rfl, trivial⟩) ?_
            clear s1 s3 s4 s107 s108
            clear hN hD
            rintro a20 w20 hN hD ⟨s116, s1, s3, s4, s107, hGR, -⟩
            replace HB := below_step HB hGR
            replace HBX1 := blk_below HBX1 hGR
            clear hGR
            show Code.wp _ _ _ _ _
            refine wp_cond (t := o.kind == 2) s116 ?_
            rcases Bool.eq_false_or_eq_true (o.kind == 2) with cd21 | cd21
            · rw [cd21]
              show Code.wp _ _ _ _ _
              have pd21 := eq_of_beq cd21
              refine wp_seq ?_
              refine deedL [.eq 118 (.bool ((!(o.key.toList == (⟨#[]⟩ : ByteArray).toList)) || (!(o.text.toList == (⟨#[]⟩ : ByteArray).toList)))), .eq 119 (.bool (!((!(o.key.toList == (⟨#[]⟩ : ByteArray).toList)) || (!(o.text.toList == (⟨#[]⟩ : ByteArray).toList))))), .eq 120 (.bool (!((!(o.key.toList == (⟨#[]⟩ : ByteArray).toList)) || (!(o.text.toList == (⟨#[]⟩ : ByteArray).toList))))), .gv (((!((!(o.key.toList == (⟨#[]⟩ : ByteArray).toList)) || (!(o.text.toList == (⟨#[]⟩ : ByteArray).toList)))) == true)) 121 (.pointer (some ⟨g1, 6, none⟩)), .gv (((!((!(o.key.toList == (⟨#[]⟩ : ByteArray).toList)) || (!(o.text.toList == (⟨#[]⟩ : ByteArray).toList)))) == true)) 122 (.int .i64 o.num), .gv (((!((!(o.key.toList == (⟨#[]⟩ : ByteArray).toList)) || (!(o.text.toList == (⟨#[]⟩ : ByteArray).toList)))) == true)) 123 (.bool (charOK o.num)), .eq 124 (.bool ((!((!(o.key.toList == (⟨#[]⟩ : ByteArray).toList)) || (!(o.text.toList == (⟨#[]⟩ : ByteArray).toList)))) && (charOK o.num))), .eq 2 (.bool ((!((!(o.key.toList == (⟨#[]⟩ : ByteArray).toList)) || (!(o.text.toList == (⟨#[]⟩ : ByteArray).toList)))) && (charOK o.num))), .eq 1 (.pointer (some ⟨g1, 0, none⟩)), .eq 4 (.bool ((!(o.key.toList == (⟨#[]⟩ : ByteArray).toList)) || (!(o.text.toList == (⟨#[]⟩ : ByteArray).toList)))), .w (Below w20.heap.size w20)] 145 [[9], [0], [1], [2, 8], [2, 3, 10], [2, 4], [2, 5], [6]] [] [7, 8, 9, 10] hM hN hD (by kernel_rfl) ⟨s1, s4, ⟨Below.refl _ _, below_drew (Below.refl _ _)⟩, trivial⟩ ⟨fun _ _ hb h => below_step h hb, trivial⟩ (fun hgrow => ⟨fun _ _ h => rv rfl (x_move rfl h.1) rfl,
                fun _ _ h => rv rfl (x_not rfl h.1) rfl,
                fun _ _ h => rv rfl (x_move rfl h.1) rfl,
                fun _ _ h => rb rfl rfl h.1 (fun hgt => x_field rfl h.2.1 Try.underlying67 rfl sz3 (by decide) rfl) (fun _ z => z),
                fun _ _ h => rb rfl rfl h.1 (fun hgt => x_load1 rfl (h.2.1.1 hgt) Try.underlying3 rfl (blk_one (L := opc o A c) (blk_below HBX1 h.2.2.1) 6 rfl)) (fun _ z => z),
                fun _ _ h => rcb hgrow rfl rfl h.1 Try.func112 (by kernel_rfl) rfl rfl (fun hgt => args1 (h.2.1.1 hgt)) (fun hgt => iChar_calls o.num _) (fun _ _ _ h => h) (fun _ _ z => z),
                fun _ _ h => rv rfl (x_and rfl rfl h.1 (fun hc => h.2.1.1 (beq_iff_eq.2 hc))) rfl,
                fun _ _ h => rv rfl (x_assign rfl h.1) rfl, trivial⟩) ?_
              clear s1 s3 s4 s107 s116
              clear hN hD
              rintro a22 w22 hN hD ⟨s2, s1, s4, hGR, -⟩
              replace HB := below_step HB hGR
              replace HBX1 := blk_below HBX1 hGR
              clear hGR
              show Code.wp _ _ _ _ _
              refine wp_ret (blk_ret (then_ret ?_))
              refine bodyPost_ret (results_single rfl (vtmp s2 .nil)) hD ?_
              exact ⟨by simp only [iOp, cd3, cd6, cd9, cd13, cd18, cd21, if_true, if_false, Bool.false_eq_true], HB⟩
            · rw [cd21]
              show Code.wp _ _ _ _ _
              have pd21 := ne_of_beq_false cd21
              refine wp_seq ?_
              refine deedL [.eq 126 (.bool (o.kind == 3)), .eq 125 (.bool (o.kind == 3)), .eq 1 (.pointer (some ⟨g1, 0, none⟩)), .eq 3 (.bool (o.att == 0 && o.ata == 0)), .eq 4 (.bool ((!(o.key.toList == (⟨#[]⟩ : ByteArray).toList)) || (!(o.text.toList == (⟨#[]⟩ : ByteArray).toList)))), .eq 107 (.int .i64 o.kind), .w (Below w20.heap.size w20)] 145 [[5], [0]] [] [1, 2, 3, 4, 5, 6] hM hN hD (by kernel_rfl) ⟨s1, s3, s4, s107, ⟨Below.refl _ _, below_drew (Below.refl _ _)⟩, trivial⟩ ⟨fun _ _ hb h => below_step h hb, trivial⟩ (fun hgrow => ⟨fun _ _ h => rv rfl (x_eql rfl h.1 rfl) rfl,
                fun _ _ h => rv rfl (x_assign rfl h.1) rfl, trivial⟩) ?_
              clear s1 s3 s4 s107 s116
              clear hN hD
              rintro a23 w23 hN hD ⟨s125, s1, s3, s4, s107, hGR, -⟩
              replace HB := below_step HB hGR
              replace HBX1 := blk_below HBX1 hGR
              clear hGR
              show Code.wp _ _ _ _ _
              refine wp_cond (t := o.kind == 3) s125 ?_
              rcases Bool.eq_false_or_eq_true (o.kind == 3) with cd24 | cd24
              · rw [cd24]
                show Code.wp _ _ _ _ _
                have pd24 := eq_of_beq cd24
                refine wp_seq ?_
                refine deedL (.eq 127 (.bool ((!(o.key.toList == (⟨#[]⟩ : ByteArray).toList)) || (!(o.text.toList == (⟨#[]⟩ : ByteArray).toList)))) :: .eq 128 (.bool (!((!(o.key.toList == (⟨#[]⟩ : ByteArray).toList)) || (!(o.text.toList == (⟨#[]⟩ : ByteArray).toList))))) :: .eq 129 (.bool (!((!(o.key.toList == (⟨#[]⟩ : ByteArray).toList)) || (!(o.text.toList == (⟨#[]⟩ : ByteArray).toList))))) :: .gv (((!((!(o.key.toList == (⟨#[]⟩ : ByteArray).toList)) || (!(o.text.toList == (⟨#[]⟩ : ByteArray).toList)))) == true)) 130 (.pointer (some ⟨g1, 6, none⟩)) :: .gv (((!((!(o.key.toList == (⟨#[]⟩ : ByteArray).toList)) || (!(o.text.toList == (⟨#[]⟩ : ByteArray).toList)))) == true)) 131 (.int .i64 o.num) :: .gv (((!((!(o.key.toList == (⟨#[]⟩ : ByteArray).toList)) || (!(o.text.toList == (⟨#[]⟩ : ByteArray).toList)))) == true)) 132 (.bool (o.num == 0)) :: .eq 133 (.bool ((!((!(o.key.toList == (⟨#[]⟩ : ByteArray).toList)) || (!(o.text.toList == (⟨#[]⟩ : ByteArray).toList)))) && (o.num == 0))) :: .eq 134 (.bool ((!((!(o.key.toList == (⟨#[]⟩ : ByteArray).toList)) || (!(o.text.toList == (⟨#[]⟩ : ByteArray).toList)))) && (o.num == 0))) :: .gv ((((!((!(o.key.toList == (⟨#[]⟩ : ByteArray).toList)) || (!(o.text.toList == (⟨#[]⟩ : ByteArray).toList)))) && (o.num == 0)) == true)) 135 (.bool (o.att == 0 && o.ata == 0)) :: .gv ((((!((!(o.key.toList == (⟨#[]⟩ : ByteArray).toList)) || (!(o.text.toList == (⟨#[]⟩ : ByteArray).toList)))) && (o.num == 0)) == true)) 136 (.bool (!(o.att == 0 && o.ata == 0))) :: .eq 137 (.bool (((!((!(o.key.toList == (⟨#[]⟩ : ByteArray).toList)) || (!(o.text.toList == (⟨#[]⟩ : ByteArray).toList)))) && (o.num == 0)) && (!(o.att == 0 && o.ata == 0)))) :: .eq 2 (.bool (((!((!(o.key.toList == (⟨#[]⟩ : ByteArray).toList)) || (!(o.text.toList == (⟨#[]⟩ : ByteArray).toList)))) && (o.num == 0)) && (!(o.att == 0 && o.ata == 0)))) :: .eq 1 (.pointer (some ⟨g1, 0, none⟩)) :: .eq 3 (.bool (o.att == 0 && o.ata == 0)) :: .eq 4 (.bool ((!(o.key.toList == (⟨#[]⟩ : ByteArray).toList)) || (!(o.text.toList == (⟨#[]⟩ : ByteArray).toList)))) :: .w (Below w23.heap.size w23) :: []) 145 [[14], [0], [1], [2, 12], [2, 3, 15], [2, 4], [2, 5], [6], [7, 13], [7, 8], [7, 9], [10]] [] [11, 12, 13, 14, 15] hM hN hD (by kernel_rfl) ⟨s1, s3, s4, ⟨Below.refl _ _, below_drew (Below.refl _ _)⟩, trivial⟩ ⟨fun _ _ hb h => below_step h hb, trivial⟩ (fun hgrow => ⟨fun _ _ h => rv rfl (x_move rfl h.1) rfl,
                  fun _ _ h => rv rfl (x_not rfl h.1) rfl,
                  fun _ _ h => rv rfl (x_move rfl h.1) rfl,
                  fun _ _ h => rb rfl rfl h.1 (fun hgt => x_field rfl h.2.1 Try.underlying67 rfl sz3 (by decide) rfl) (fun _ z => z),
                  fun _ _ h => rb rfl rfl h.1 (fun hgt => x_load1 rfl (h.2.1.1 hgt) Try.underlying3 rfl (blk_one (L := opc o A c) (blk_below HBX1 h.2.2.1) 6 rfl)) (fun _ z => z),
                  fun _ _ h => rb rfl rfl h.1 (fun hgt => x_eql rfl (h.2.1.1 hgt) rfl) (fun _ z => z),
                  fun _ _ h => rv rfl (x_and rfl rfl h.1 (fun hc => h.2.1.1 (beq_iff_eq.2 hc))) rfl,
                  fun _ _ h => rv rfl (x_move rfl h.1) rfl,
                  fun _ _ h => rb rfl rfl h.1 (fun hgt => x_move rfl h.2.1) (fun _ z => z),
                  fun _ _ h => rb rfl rfl h.1 (fun hgt => x_not rfl (h.2.1.1 hgt)) (fun _ z => z),
                  fun _ _ h => rv rfl (x_and rfl rfl h.1 (fun hc => h.2.1.1 (beq_iff_eq.2 hc))) rfl,
                  fun _ _ h => rv rfl (x_assign rfl h.1) rfl, trivial⟩) ?_
                clear s1 s3 s4 s107 s125
                clear hN hD
                rintro a25 w25 hN hD ⟨s2, s1, s3, s4, hGR, -⟩
                replace HB := below_step HB hGR
                replace HBX1 := blk_below HBX1 hGR
                clear hGR
                show Code.wp _ _ _ _ _
                refine wp_ret (blk_ret (then_ret ?_))
                refine bodyPost_ret (results_single rfl (vtmp s2 .nil)) hD ?_
                exact ⟨by simp only [iOp, cd3, cd6, cd9, cd13, cd18, cd21, cd24, if_true, if_false, Bool.false_eq_true], HB⟩
              · rw [cd24]
                show Code.wp _ _ _ _ _
                have pd24 := ne_of_beq_false cd24
                refine wp_seq ?_
                refine deedL [.eq 139 (.bool (o.kind == 4)), .eq 138 (.bool (o.kind == 4)), .eq 3 (.bool (o.att == 0 && o.ata == 0)), .eq 4 (.bool ((!(o.key.toList == (⟨#[]⟩ : ByteArray).toList)) || (!(o.text.toList == (⟨#[]⟩ : ByteArray).toList)))), .eq 107 (.int .i64 o.kind), .w (Below w23.heap.size w23)] 145 [[4], [0]] [] [1, 2, 3, 4, 5] hM hN hD (by kernel_rfl) ⟨s3, s4, s107, ⟨Below.refl _ _, below_drew (Below.refl _ _)⟩, trivial⟩ ⟨fun _ _ hb h => below_step h hb, trivial⟩ (fun hgrow => ⟨fun _ _ h => rv rfl (x_eql rfl h.1 rfl) rfl,
                  fun _ _ h => rv rfl (x_assign rfl h.1) rfl, trivial⟩) ?_
                clear s1 s3 s4 s107 s125
                clear hN hD
                rintro a26 w26 hN hD ⟨s138, s3, s4, s107, hGR, -⟩
                replace HB := below_step HB hGR
                replace HBX1 := blk_below HBX1 hGR
                clear hGR
                show Code.wp _ _ _ _ _
                refine wp_cond (t := o.kind == 4) s138 ?_
                rcases Bool.eq_false_or_eq_true (o.kind == 4) with cd27 | cd27
                · rw [cd27]
                  show Code.wp _ _ _ _ _
                  have pd27 := eq_of_beq cd27
                  refine wp_seq ?_
                  refine deedL [.eq 140 (.bool ((!(o.key.toList == (⟨#[]⟩ : ByteArray).toList)) || (!(o.text.toList == (⟨#[]⟩ : ByteArray).toList)))), .eq 141 (.bool (!((!(o.key.toList == (⟨#[]⟩ : ByteArray).toList)) || (!(o.text.toList == (⟨#[]⟩ : ByteArray).toList))))), .eq 142 (.bool (!((!(o.key.toList == (⟨#[]⟩ : ByteArray).toList)) || (!(o.text.toList == (⟨#[]⟩ : ByteArray).toList))))), .gv (((!((!(o.key.toList == (⟨#[]⟩ : ByteArray).toList)) || (!(o.text.toList == (⟨#[]⟩ : ByteArray).toList)))) == true)) 143 (.bool (o.att == 0 && o.ata == 0)), .eq 144 (.bool ((!((!(o.key.toList == (⟨#[]⟩ : ByteArray).toList)) || (!(o.text.toList == (⟨#[]⟩ : ByteArray).toList)))) && (o.att == 0 && o.ata == 0))), .eq 2 (.bool ((!((!(o.key.toList == (⟨#[]⟩ : ByteArray).toList)) || (!(o.text.toList == (⟨#[]⟩ : ByteArray).toList)))) && (o.att == 0 && o.ata == 0))), .eq 3 (.bool (o.att == 0 && o.ata == 0)), .eq 4 (.bool ((!(o.key.toList == (⟨#[]⟩ : ByteArray).toList)) || (!(o.text.toList == (⟨#[]⟩ : ByteArray).toList)))), .w (Below w26.heap.size w26)] 145 [[7], [0], [1], [2, 6], [2, 3], [4]] [] [5, 6, 7, 8] hM hN hD (by kernel_rfl) ⟨s3, s4, ⟨Below.refl _ _, below_drew (Below.refl _ _)⟩, trivial⟩ ⟨fun _ _ hb h => below_step h hb, trivial⟩ (fun hgrow => ⟨fun _ _ h => rv rfl (x_move rfl h.1) rfl,
                    fun _ _ h => rv rfl (x_not rfl h.1) rfl,
                    fun _ _ h => rv rfl (x_move rfl h.1) rfl,
                    fun _ _ h => rb rfl rfl h.1 (fun hgt => x_move rfl h.2.1) (fun _ z => z),
                    fun _ _ h => rv rfl (x_and rfl rfl h.1 (fun hc => h.2.1.1 (beq_iff_eq.2 hc))) rfl,
                    fun _ _ h => rv rfl (x_assign rfl h.1) rfl, trivial⟩) ?_
                  clear s3 s4 s107 s138
                  clear hN hD
                  rintro a28 w28 hN hD ⟨s2, s3, s4, hGR, -⟩
                  replace HB := below_step HB hGR
                  replace HBX1 := blk_below HBX1 hGR
                  clear hGR
                  show Code.wp _ _ _ _ _
                  refine wp_ret (blk_ret (then_ret ?_))
                  refine bodyPost_ret (results_single rfl (vtmp s2 .nil)) hD ?_
                  exact ⟨by simp only [iOp, cd3, cd6, cd9, cd13, cd18, cd21, cd24, cd27, if_true, if_false, Bool.false_eq_true], HB⟩
                · rw [cd27]
                  show Code.wp _ _ _ _ _
                  have pd27 := ne_of_beq_false cd27
                  refine wp_skip ?_
                  show Code.wp _ _ _ _ _
                  refine wp_seq ?_
                  refine deedL [.eq 2 (.bool false), .w (Below w26.heap.size w26)] 145 [[]] [] [0, 1] hM hN hD (by kernel_rfl) ⟨⟨Below.refl _ _, below_drew (Below.refl _ _)⟩, trivial⟩ ⟨fun _ _ hb h => below_step h hb, trivial⟩ (fun hgrow => ⟨fun _ _ _ => rv rfl (x_assign rfl rfl) rfl, trivial⟩) ?_
                  clear s3 s4 s107 s138
                  clear hN hD
                  rintro a29 w29 hN hD ⟨s2, hGR, -⟩
                  replace HB := below_step HB hGR
                  replace HBX1 := blk_below HBX1 hGR
                  clear hGR
                  show Code.wp _ _ _ _ _
                  refine wp_ret ?_
                  refine bodyPost_ret (results_single rfl (vtmp s2 .nil)) hD ?_
                  exact ⟨by simp only [iOp, cd3, cd6, cd9, cd13, cd18, cd21, cd24, cd27, if_true, if_false, Bool.false_eq_true], HB⟩
end Go.Proofs.Ytideafkiaipnoaa.Q

