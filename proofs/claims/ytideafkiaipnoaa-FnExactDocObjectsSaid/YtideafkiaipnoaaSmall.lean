/- The operations' small functions. -/
import Derived.Test.YtideafkiaipnoaaBook
namespace Go.Proofs.Ytideafkiaipnoaa.Q
open Go Go.RowKit Go.Proofs.YtideafkiaipnoaaW.PrintWords Go.Proofs.YtideafkiaipnoaaW.PrintLast Go.Proofs.Ytideafkiaipnoaa.Deed
abbrev stc (p : Int × Int) : List Value := [.int .i64 p.1, .int .i64 p.2]
def thing (o : Op) : Int := if o.kind = 3 then 2 else o.kind
def less (a b : Int × Int) : Bool := if a.1 = b.1 then decide (a.2 < b.2) else decide (a.1 < b.1)
def stampOf (o : Op) : Int × Int := (o.time, o.actor)
set_option maxRecDepth 100000
theorem thing_calls (o : Op) (A3 : Option Addr) (c3 : Nat) (w : World) : Calls Try.prog 93 #[.agg (opc o A3 c3).toArray] w fun e w' => e = .returned (.int .i64 (thing o)) ∧ Below w.heap.size w w' := by
  refine calls_of_wp Try.func93 rfl ?_
  refine enter_ (N := 8) rfl ?_
  rintro a0 hN hD ⟨s0, -⟩
  have HB : Below w.heap.size w w := Below.refl _ _
  refine wp_seq ?_
  refine deedL [.s1 1 (NewB w.heap.size (opc o A3 c3) 67), .eq 2 (.int .i64 0), .eq 0 (.agg (opc o A3 c3).toArray), .w (Below w.heap.size w)] 8 [[3, 2], []] [] [0, 2, 3] hM hN hD (by kernel_rfl) ⟨s0, ⟨Below.refl _ _, below_drew (Below.refl _ _)⟩, trivial⟩ ⟨fun _ _ _ hb h => h.grow hb, fun _ _ hb h => below_step h hb, trivial⟩ (fun hgrow => ⟨fun _ _ h => rbox hgrow rfl (x_box rfl h.2.1) h.1.size (fun _ _ z => z),
    fun _ _ _ => rv rfl (x_assign rfl rfl) rfl, trivial⟩) ?_
  clear s0
  clear hN hD
  rintro a1 w1 hN hD ⟨⟨g1, s1, lg1, HBX1⟩, s0, hGR, -⟩
  replace HB := below_step HB hGR
  clear hGR
  show Code.wp _ _ _ _ _
  refine wp_seq ?_
  refine wp_seq ?_
  refine deedL [.eq 3 (.pointer (some ⟨g1, 4, none⟩)), .eq 4 (.int .i64 o.kind), .eq 5 (.bool (o.kind == 3)), .eq 1 (.pointer (some ⟨g1, 0, none⟩)), .w (Below w1.heap.size w1)] 8 [[3], [0, 4], [1]] [] [2, 3, 4] hM hN hD (by kernel_rfl) ⟨s1, ⟨Below.refl _ _, below_drew (Below.refl _ _)⟩, trivial⟩ ⟨fun _ _ hb h => below_step h hb, trivial⟩ (fun hgrow => ⟨fun _ _ h => rv rfl (x_field rfl h.1 Try.underlying67 rfl sz3 (by decide) rfl) rfl,
    fun _ _ h => rv rfl (x_load1 rfl h.1 Try.underlying3 rfl (blk_one (L := opc o A3 c3) (blk_below HBX1 h.2.1) 4 rfl)) rfl,
    fun _ _ h => rv rfl (x_eql rfl h.1 rfl) rfl, trivial⟩) ?_
  clear s0 s1
  clear hN hD
  rintro a2 w2 hN hD ⟨s5, s1, hGR, -⟩
  replace HB := below_step HB hGR
  replace HBX1 := blk_below HBX1 hGR
  clear hGR
  show Code.wp _ _ _ _ _
  refine wp_cond (t := o.kind == 3) s5 ?_
  rcases Bool.eq_false_or_eq_true (o.kind == 3) with cd3 | cd3
  · rw [cd3]
    show Code.wp _ _ _ _ _
    have pd3 := eq_of_beq cd3
    refine wp_seq ?_
    refine deedL [.eq 2 (.int .i64 2), .w (Below w2.heap.size w2)] 8 [[]] [] [0, 1] hM hN hD (by kernel_rfl) ⟨⟨Below.refl _ _, below_drew (Below.refl _ _)⟩, trivial⟩ ⟨fun _ _ hb h => below_step h hb, trivial⟩ (fun hgrow => ⟨fun _ _ _ => rv rfl (x_assign rfl rfl) rfl, trivial⟩) ?_
    clear s1 s5
    clear hN hD
    rintro a4 w4 hN hD ⟨s2, hGR, -⟩
    replace HB := below_step HB hGR
    replace HBX1 := blk_below HBX1 hGR
    clear hGR
    show Code.wp _ _ _ _ _
    refine wp_ret (then_ret ?_)
    refine bodyPost_ret (results_single rfl (vtmp s2 .nil)) hD ?_
    exact ⟨by simp_all [thing], HB⟩
  · rw [cd3]
    show Code.wp _ _ _ _ _
    have pd3 := ne_of_beq_false cd3
    refine wp_skip ?_
    show Code.wp _ _ _ _ _
    refine wp_seq ?_
    refine deedL [.eq 6 (.pointer (some ⟨g1, 4, none⟩)), .eq 7 (.int .i64 o.kind), .eq 2 (.int .i64 o.kind), .eq 1 (.pointer (some ⟨g1, 0, none⟩)), .w (Below w2.heap.size w2)] 8 [[3], [0, 4], [1]] [] [2, 3, 4] hM hN hD (by kernel_rfl) ⟨s1, ⟨Below.refl _ _, below_drew (Below.refl _ _)⟩, trivial⟩ ⟨fun _ _ hb h => below_step h hb, trivial⟩ (fun hgrow => ⟨fun _ _ h => rv rfl (x_field rfl h.1 Try.underlying67 rfl sz3 (by decide) rfl) rfl,
      fun _ _ h => rv rfl (x_load1 rfl h.1 Try.underlying3 rfl (blk_one (L := opc o A3 c3) (blk_below HBX1 h.2.1) 4 rfl)) rfl,
      fun _ _ h => rv rfl (x_assign rfl h.1) rfl, trivial⟩) ?_
    clear s1 s5
    clear hN hD
    rintro a5 w5 hN hD ⟨s2, s1, hGR, -⟩
    replace HB := below_step HB hGR
    replace HBX1 := blk_below HBX1 hGR
    clear hGR
    show Code.wp _ _ _ _ _
    refine wp_ret ?_
    refine bodyPost_ret (results_single rfl (vtmp s2 .nil)) hD ?_
    exact ⟨by simp_all [thing], HB⟩
theorem stamp_calls (o : Op) (A3 : Option Addr) (c3 : Nat) (w : World) : Calls Try.prog 95 #[.agg (opc o A3 c3).toArray] w fun e w' => e = .returned (.agg (stc (stampOf o)).toArray) ∧ Below w.heap.size w w' := by
  refine calls_of_wp Try.func95 rfl ?_
  refine enter_ (N := 8) rfl ?_
  rintro a0 hN hD ⟨s0, -⟩
  have HB : Below w.heap.size w w := Below.refl _ _
  refine wp_seq ?_
  refine deedL [.s1 1 (NewB w.heap.size (opc o A3 c3) 67), .s1 2 (NewB w.heap.size [.int .i64 0, .int .i64 0] 65), .eq 0 (.agg (opc o A3 c3).toArray), .w (Below w.heap.size w)] 8 [[3, 2], [3]] [] [0, 1, 2, 3] hM hN hD (by kernel_rfl) ⟨s0, ⟨Below.refl _ _, below_drew (Below.refl _ _)⟩, trivial⟩ ⟨fun _ _ _ hb h => h.grow hb, fun _ _ _ hb h => h.grow hb, fun _ _ hb h => below_step h hb, trivial⟩ (fun hgrow => ⟨fun _ _ h => rbox hgrow rfl (x_box rfl h.2.1) h.1.size (fun _ _ z => z),
    fun _ _ h => rbox hgrow rfl (x_alloc rfl zr65) h.1.size (fun _ _ z => z), trivial⟩) ?_
  clear s0
  clear hN hD
  rintro a1 w1 hN hD ⟨⟨g1, s1, lg1, HBX1⟩, ⟨g2, s2, lg2, HBX2⟩, s0, hGR, -⟩
  replace HB := below_step HB hGR
  clear hGR
  show Code.wp _ _ _ _ _
  refine wp_seq ?_
  refine deedL [.eq 3 (.pointer (some ⟨g1, 2, none⟩)), .eq 4 (.int .i64 o.time), .eq 5 (.pointer (some ⟨g1, 0, none⟩)), .eq 6 (.int .i64 o.actor), .eq 7 (.agg #[Value.int .i64 o.time, Value.int .i64 o.actor]), .w fun W => W.heap[g2]? = some (.cells ([.int .i64 o.time, .int .i64 o.actor]).toArray 65 (0, 0)), .eq 1 (.pointer (some ⟨g1, 0, none⟩)), .eq 2 (.pointer (some ⟨g2, 0, none⟩)), .w (Kx (fun k => k = g2) w1), .w fun W => W.heap[g2]? = some (.cells ([.int .i64 0, .int .i64 0]).toArray 65 (0, 0))] 8 [[6], [0, 8], [6], [2, 8], [1, 3], [7, 4, 9]] [[], [], [], [], [], [9]] [5, 6, 7, 8] hM hN hD (by kernel_rfl) ⟨s1, s2, ⟨Kx.refl _ _, Kx.drew _ _⟩, ⟨HBX2, blk_below HBX2 (below_drew (Below.refl _ _))⟩, trivial⟩ ⟨fun _ _ hb h => blk_below h hb, fun _ _ hb h => h.step hb, fun _ _ hb h => blk_below h hb, trivial⟩ (fun hgrow => ⟨fun _ _ h => rv rfl (x_field rfl h.1 Try.underlying67 rfl sz3 (by decide) rfl) rfl,
    fun _ _ h => rv rfl (x_load1 rfl h.1 Try.underlying3 rfl (blk_one (L := opc o A3 c3) (blk_kx HBX1 h.2.1 (fun e => (blk_neT HBX1 HBX2 rfl) e)) 2 rfl)) rfl,
    fun _ _ h => rv rfl (x_field rfl h.1 Try.underlying67 rfl sz3 (by decide) rfl) rfl,
    fun _ _ h => rv rfl (x_load1 rfl h.1 Try.underlying3 rfl (blk_one (L := opc o A3 c3) (blk_kx HBX1 h.2.1 (fun e => (blk_neT HBX1 HBX2 rfl) e)) 0 rfl)) rfl,
    fun _ _ h => rv rfl (x_build rfl Try.underlying65 zr65 bp65 (bcons h.1 (bcons h.2.1 rfl)) (by kernel_rfl) (ps := [(0, _), (1, _)]) (vs := [(0, .int .i64 o.time), (1, .int .i64 o.actor)]) (L := [.int .i64 o.time, .int .i64 o.actor])) rfl,
    ?_, trivial⟩) ?_
  · rintro a_ W ⟨h7, h4, h9, -⟩
    exact rstoreS rfl rfl h7 h4 (by simp [Value.oneCell']) sz65 h9 rfl (blk_stored (cs := [.int .i64 o.time, .int .i64 o.actor]) 0 _ [.int .i64 0, .int .i64 0] h9 (of_decide_eq_true rfl)) ⟨fun h => h.sets rfl _ _, trivial⟩
  clear s0 s1 s2
  clear hN hD
  rintro a2 w2 hN hD ⟨MBX2, s1, s2, hGR, -⟩
  have NB := Kx.below HB hGR HB.size (fun k e => by subst e; exact lg2)
  have NBX1 := blk_kx HBX1 hGR (fun e => (blk_neT HBX1 HBX2 rfl) e)
  replace HB := NB
  replace HBX1 := NBX1
  clear NB NBX1
  replace HBX2 := MBX2
  clear MBX2
  clear hGR
  show Code.wp _ _ _ _ _
  refine wp_ret ?_
  refine bodyPost_ret (results_single rfl (vcell s2 HBX2 Try.underlying65 rfl sz65 .nil)) hD ?_
  exact ⟨rfl, HB⟩
theorem less_calls (a b : Int × Int) (w : World) : Calls Try.prog 94 #[.agg (stc a).toArray, .agg (stc b).toArray] w fun e w' => e = .returned (.bool (less a b)) ∧ Below w.heap.size w w' := by
  refine calls_of_wp Try.func94 rfl ?_
  refine enter_ (N := 20) rfl ?_
  rintro a0 hN hD ⟨s0, s1, -⟩
  have HB : Below w.heap.size w w := Below.refl _ _
  refine wp_seq ?_
  refine deedL [.s1 2 (NewB w.heap.size (stc a) 65), .s1 3 (NewB w.heap.size (stc b) 65), .eq 4 (.bool false), .eq 0 (.agg (stc a).toArray), .eq 1 (.agg (stc b).toArray), .w (Below w.heap.size w)] 20 [[5, 3], [5, 4], []] [] [0, 1, 3, 4, 5] hM hN hD (by kernel_rfl) ⟨s0, s1, ⟨Below.refl _ _, below_drew (Below.refl _ _)⟩, trivial⟩ ⟨fun _ _ _ hb h => h.grow hb, fun _ _ _ hb h => h.grow hb, fun _ _ hb h => below_step h hb, trivial⟩ (fun hgrow => ⟨fun _ _ h => rbox hgrow rfl (x_box rfl h.2.1) h.1.size (fun _ _ z => z),
    fun _ _ h => rbox hgrow rfl (x_box rfl h.2.1) h.1.size (fun _ _ z => z),
    fun _ _ _ => rv rfl (x_assign rfl rfl) rfl, trivial⟩) ?_
  clear s0 s1
  clear hN hD
  rintro a1 w1 hN hD ⟨⟨g2, s2, lg2, HBX2⟩, ⟨g3, s3, lg3, HBX3⟩, s0, s1, hGR, -⟩
  replace HB := below_step HB hGR
  clear hGR
  show Code.wp _ _ _ _ _
  refine wp_seq ?_
  refine wp_seq ?_
  refine deedL [.eq 5 (.pointer (some ⟨g2, 0, none⟩)), .eq 6 (.int .i64 a.1), .eq 7 (.pointer (some ⟨g3, 0, none⟩)), .eq 8 (.int .i64 b.1), .eq 9 (.bool (a.1 != b.1)), .eq 2 (.pointer (some ⟨g2, 0, none⟩)), .eq 3 (.pointer (some ⟨g3, 0, none⟩)), .w (Below w1.heap.size w1)] 20 [[5], [0, 7], [6], [2, 7], [1, 3]] [] [4, 5, 6, 7] hM hN hD (by kernel_rfl) ⟨s2, s3, ⟨Below.refl _ _, below_drew (Below.refl _ _)⟩, trivial⟩ ⟨fun _ _ hb h => below_step h hb, trivial⟩ (fun hgrow => ⟨fun _ _ h => rv rfl (x_field rfl h.1 Try.underlying65 rfl sz3 (by decide) rfl) rfl,
    fun _ _ h => rv rfl (x_load1 rfl h.1 Try.underlying3 rfl (blk_one (L := stc a) (blk_below HBX2 h.2.1) 0 rfl)) rfl,
    fun _ _ h => rv rfl (x_field rfl h.1 Try.underlying65 rfl sz3 (by decide) rfl) rfl,
    fun _ _ h => rv rfl (x_load1 rfl h.1 Try.underlying3 rfl (blk_one (L := stc b) (blk_below HBX3 h.2.1) 0 rfl)) rfl,
    fun _ _ h => rv rfl (x_neq rfl h.1 h.2.1) rfl, trivial⟩) ?_
  clear s0 s1 s2 s3
  clear hN hD
  rintro a2 w2 hN hD ⟨s9, s2, s3, hGR, -⟩
  replace HB := below_step HB hGR
  replace HBX2 := blk_below HBX2 hGR
  replace HBX3 := blk_below HBX3 hGR
  clear hGR
  show Code.wp _ _ _ _ _
  refine wp_cond (t := a.1 != b.1) s9 ?_
  rcases Bool.eq_false_or_eq_true (a.1 != b.1) with cd3 | cd3
  · rw [cd3]
    show Code.wp _ _ _ _ _
    have pd3 := cd3
    simp at pd3
    refine wp_seq ?_
    refine deedL [.eq 10 (.pointer (some ⟨g2, 0, none⟩)), .eq 11 (.int .i64 a.1), .eq 12 (.pointer (some ⟨g3, 0, none⟩)), .eq 13 (.int .i64 b.1), .eq 14 (.bool (decide (a.1 < b.1))), .eq 4 (.bool (decide (a.1 < b.1))), .eq 2 (.pointer (some ⟨g2, 0, none⟩)), .eq 3 (.pointer (some ⟨g3, 0, none⟩)), .w (Below w2.heap.size w2)] 20 [[6], [0, 8], [7], [2, 8], [1, 3], [4]] [] [5, 6, 7, 8] hM hN hD (by kernel_rfl) ⟨s2, s3, ⟨Below.refl _ _, below_drew (Below.refl _ _)⟩, trivial⟩ ⟨fun _ _ hb h => below_step h hb, trivial⟩ (fun hgrow => ⟨fun _ _ h => rv rfl (x_field rfl h.1 Try.underlying65 rfl sz3 (by decide) rfl) rfl,
      fun _ _ h => rv rfl (x_load1 rfl h.1 Try.underlying3 rfl (blk_one (L := stc a) (blk_below HBX2 h.2.1) 0 rfl)) rfl,
      fun _ _ h => rv rfl (x_field rfl h.1 Try.underlying65 rfl sz3 (by decide) rfl) rfl,
      fun _ _ h => rv rfl (x_load1 rfl h.1 Try.underlying3 rfl (blk_one (L := stc b) (blk_below HBX3 h.2.1) 0 rfl)) rfl,
      fun _ _ h => rv rfl (x_lss rfl h.1 h.2.1) rfl,
      fun _ _ h => rv rfl (x_assign rfl h.1) rfl, trivial⟩) ?_
    clear s2 s3 s9
    clear hN hD
    rintro a4 w4 hN hD ⟨s4, s2, s3, hGR, -⟩
    replace HB := below_step HB hGR
    replace HBX2 := blk_below HBX2 hGR
    replace HBX3 := blk_below HBX3 hGR
    clear hGR
    show Code.wp _ _ _ _ _
    refine wp_ret (then_ret ?_)
    refine bodyPost_ret (results_single rfl (vtmp s4 .nil)) hD ?_
    exact ⟨by simp_all [less], HB⟩
  · rw [cd3]
    show Code.wp _ _ _ _ _
    have pd3 := cd3
    simp at pd3
    refine wp_skip ?_
    show Code.wp _ _ _ _ _
    refine wp_seq ?_
    refine deedL [.eq 15 (.pointer (some ⟨g2, 1, none⟩)), .eq 16 (.int .i64 a.2), .eq 17 (.pointer (some ⟨g3, 1, none⟩)), .eq 18 (.int .i64 b.2), .eq 19 (.bool (decide (a.2 < b.2))), .eq 4 (.bool (decide (a.2 < b.2))), .eq 2 (.pointer (some ⟨g2, 0, none⟩)), .eq 3 (.pointer (some ⟨g3, 0, none⟩)), .w (Below w2.heap.size w2)] 20 [[6], [0, 8], [7], [2, 8], [1, 3], [4]] [] [5, 6, 7, 8] hM hN hD (by kernel_rfl) ⟨s2, s3, ⟨Below.refl _ _, below_drew (Below.refl _ _)⟩, trivial⟩ ⟨fun _ _ hb h => below_step h hb, trivial⟩ (fun hgrow => ⟨fun _ _ h => rv rfl (x_field rfl h.1 Try.underlying65 rfl sz3 (by decide) rfl) rfl,
      fun _ _ h => rv rfl (x_load1 rfl h.1 Try.underlying3 rfl (blk_one (L := stc a) (blk_below HBX2 h.2.1) 1 rfl)) rfl,
      fun _ _ h => rv rfl (x_field rfl h.1 Try.underlying65 rfl sz3 (by decide) rfl) rfl,
      fun _ _ h => rv rfl (x_load1 rfl h.1 Try.underlying3 rfl (blk_one (L := stc b) (blk_below HBX3 h.2.1) 1 rfl)) rfl,
      fun _ _ h => rv rfl (x_lss rfl h.1 h.2.1) rfl,
      fun _ _ h => rv rfl (x_assign rfl h.1) rfl, trivial⟩) ?_
    clear s2 s3 s9
    clear hN hD
    rintro a5 w5 hN hD ⟨s4, s2, s3, hGR, -⟩
    replace HB := below_step HB hGR
    replace HBX2 := blk_below HBX2 hGR
    replace HBX3 := blk_below HBX3 hGR
    clear hGR
    show Code.wp _ _ _ _ _
    refine wp_ret ?_
    refine bodyPost_ret (results_single rfl (vtmp s4 .nil)) hD ?_
    exact ⟨by simp_all [less], HB⟩
end Go.Proofs.Ytideafkiaipnoaa.Q
