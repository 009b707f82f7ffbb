/- Functions walked. -/
import Derived.Test.YtideafkiaipnoaaOwn
namespace Go.Proofs.Ytideafkiaipnoaa.Q
open Go Go.RowKit Go.Proofs.YtideafkiaipnoaaW.PrintWords Go.Proofs.YtideafkiaipnoaaW.PrintLast Go.Proofs.Ytideafkiaipnoaa.Deed
set_option maxRecDepth 100000
noncomputable def szI (n : Nat) (left : Int) : Int :=
 if (decide (left - (n : Int) < 0)) = true then (-1) else (left - (n : Int))
set_option maxHeartbeats 2000000 in
theorem szI_calls (n : Nat) (left : Int) (w : World) (A : Option Addr) (c : Nat) (hl0 : 0 ≤ left) (hl1 : left ≤ 1048576) (hn : n ≤ 9223372036854775807) : Calls Try.prog 56 #[.slice A n c, .int .i64 left] w fun e w' => e = .returned (.int .i64 (szI n left)) ∧ Below w.heap.size w w' := by
  refine calls_of_wp Try.func56 rfl ?_
  refine enter_ (N := 12) rfl ?_
  rintro a0 hN hD ⟨s0, s1, -⟩
  have HB : Below w.heap.size w w := Below.refl _ _
  refine wp_seq ?_
  refine deedL [.eq 4 (.int .i64 0), .eq 0 (.slice A n c), .eq 1 (.int .i64 left), .w (Below w.heap.size w)] 12 [[]] [] [1, 2, 3] hM hN hD (by kernel_rfl) ⟨s0, s1, ⟨Below.refl _ _, below_drew (Below.refl _ _)⟩, trivial⟩ ⟨fun _ _ hb h => below_step h hb, trivial⟩ (fun hgrow => ⟨fun _ _ _ => rv rfl (x_assign rfl rfl) rfl, trivial⟩) ?_
  clear s0 s1
  clear hN hD
  rintro a1 w1 hN hD ⟨s0, s1, hGR, -⟩
  replace HB := below_step HB hGR
  clear hGR
  show Code.wp _ _ _ _ _
  refine wp_seq ?_
  refine deedL [.eq 5 (.int .i64 left), .eq 6 (.slice A n c), .eq 7 (.int .i64 (n : Int)), .eq 8 (.int .i64 (left - (n : Int))), .eq 1 (.int .i64 (left - (n : Int))), .eq 0 (.slice A n c), .eq 1 (.int .i64 left), .w (Below w1.heap.size w1)] 12 [[6], [5], [1], [0, 2], [3]] [[], [], [], [], [6]] [4, 5, 7] hM hN hD (by kernel_rfl) ⟨s0, s1, ⟨Below.refl _ _, below_drew (Below.refl _ _)⟩, trivial⟩ ⟨fun _ _ hb h => below_step h hb, trivial⟩ (fun hgrow => ⟨fun _ _ h => rv rfl (x_move rfl h.1) rfl,
    fun _ _ h => rv rfl (x_move rfl h.1) rfl,
    fun _ _ h => rv rfl (x_len_slice rfl Try.underlying24 h.1) rfl,
    fun _ _ h => rv rfl (x_sub' rfl h.1 h.2.1 (by omega)) rfl,
    fun _ _ h => rv rfl (x_assign rfl h.1) rfl, trivial⟩) ?_
  clear s0 s1
  clear hN hD
  rintro a2 w2 hN hD ⟨s1, s0, hGR, -⟩
  replace HB := below_step HB hGR
  clear hGR
  show Code.wp _ _ _ _ _
  refine wp_seq ?_
  refine wp_seq ?_
  refine deedL [.eq 9 (.int .i64 (left - (n : Int))), .eq 10 (.bool (decide (left - (n : Int) < 0))), .eq 1 (.int .i64 (left - (n : Int))), .w (Below w2.heap.size w2)] 12 [[2], [0]] [] [1, 2, 3] hM hN hD (by kernel_rfl) ⟨s1, ⟨Below.refl _ _, below_drew (Below.refl _ _)⟩, trivial⟩ ⟨fun _ _ hb h => below_step h hb, trivial⟩ (fun hgrow => ⟨fun _ _ h => rv rfl (x_move rfl h.1) rfl,
    fun _ _ h => rv rfl (x_lss rfl h.1 rfl) rfl, trivial⟩) ?_
  clear s0 s1
  clear hN hD
  rintro a3 w3 hN hD ⟨s10, s1, hGR, -⟩
  replace HB := below_step HB hGR
  clear hGR
  show Code.wp _ _ _ _ _
  refine wp_cond (t := decide (left - (n : Int) < 0)) s10 ?_
  rcases Bool.eq_false_or_eq_true (decide (left - (n : Int) < 0)) with cd4 | cd4
  · rw [cd4]
    show Code.wp _ _ _ _ _
    have pd4 := of_decide_eq_true cd4
    refine wp_seq ?_
    refine deedL [.eq 4 (.int .i64 (-1)), .w (Below w3.heap.size w3)] 12 [[]] [] [0, 1] hM hN hD (by kernel_rfl) ⟨⟨Below.refl _ _, below_drew (Below.refl _ _)⟩, trivial⟩ ⟨fun _ _ hb h => below_step h hb, trivial⟩ (fun hgrow => ⟨fun _ _ _ => rv rfl (x_assign rfl rfl) rfl, trivial⟩) ?_
    clear s1 s10
    clear hN hD
    rintro a5 w5 hN hD ⟨s4, hGR, -⟩
    replace HB := below_step HB hGR
    clear hGR
    show Code.wp _ _ _ _ _
    refine wp_ret (then_ret ?_)
    refine bodyPost_ret (results_single rfl (vtmp s4 .nil)) hD ?_
    exact ⟨by simp only [szI, cd4, if_true, if_false, Bool.false_eq_true], HB⟩
  · rw [cd4]
    show Code.wp _ _ _ _ _
    have pd4 := of_decide_eq_false cd4
    refine wp_skip ?_
    show Code.wp _ _ _ _ _
    refine wp_seq ?_
    refine deedL [.eq 11 (.int .i64 (left - (n : Int))), .eq 4 (.int .i64 (left - (n : Int))), .eq 1 (.int .i64 (left - (n : Int))), .w (Below w3.heap.size w3)] 12 [[2], [0]] [] [1, 2, 3] hM hN hD (by kernel_rfl) ⟨s1, ⟨Below.refl _ _, below_drew (Below.refl _ _)⟩, trivial⟩ ⟨fun _ _ hb h => below_step h hb, trivial⟩ (fun hgrow => ⟨fun _ _ h => rv rfl (x_move rfl h.1) rfl,
      fun _ _ h => rv rfl (x_assign rfl h.1) rfl, trivial⟩) ?_
    clear s1 s10
    clear hN hD
    rintro a6 w6 hN hD ⟨s4, s1, hGR, -⟩
    replace HB := below_step HB hGR
    clear hGR
    show Code.wp _ _ _ _ _
    refine wp_ret ?_
    refine bodyPost_ret (results_single rfl (vtmp s4 .nil)) hD ?_
    exact ⟨by simp only [szI, cd4, if_true, if_false, Bool.false_eq_true], HB⟩
noncomputable def szV (n : Nat) (left : Int) : Int :=
 if (decide (szI n left < 0)) = true then (-1) else (szI n left)
set_option maxHeartbeats 2000000 in
theorem szV_calls (n : Nat) (left : Int) (w : World) (A : Option Addr) (c : Nat) (hl0 : 0 ≤ left) (hl1 : left ≤ 1048576) (hn : n ≤ 9223372036854775807) : Calls Try.prog 23 #[.agg #[Value.slice A n c], .int .i64 left] w fun e w' => e = .returned (.int .i64 (szV n left)) ∧ Below w.heap.size w w' := by
  refine calls_of_wp Try.func23 rfl ?_
  refine enter_ (N := 12) rfl ?_
  rintro a0 hN hD ⟨s0, s1, -⟩
  have HB : Below w.heap.size w w := Below.refl _ _
  refine wp_seq ?_
  refine deedL [.s1 2 (NewB w.heap.size [.slice A n c] 37), .eq 4 (.int .i64 0), .eq 0 (.agg #[Value.slice A n c]), .eq 1 (.int .i64 left), .w (Below w.heap.size w)] 12 [[4, 2], []] [] [0, 2, 3, 4] hM hN hD (by kernel_rfl) ⟨s0, s1, ⟨Below.refl _ _, below_drew (Below.refl _ _)⟩, trivial⟩ ⟨fun _ _ _ hb h => h.grow hb, fun _ _ hb h => below_step h hb, trivial⟩ (fun hgrow => ⟨fun _ _ h => rbox hgrow rfl (x_box rfl h.2.1) h.1.size (fun _ _ z => z),
    fun _ _ _ => rv rfl (x_assign rfl rfl) rfl, trivial⟩) ?_
  clear s0 s1
  clear hN hD
  rintro a1 w1 hN hD ⟨⟨g2, s2, lg2, HBX2⟩, s0, s1, hGR, -⟩
  replace HB := below_step HB hGR
  clear hGR
  show Code.wp _ _ _ _ _
  refine wp_seq ?_
  refine deedL [.eq 5 (.pointer (some ⟨g2, 0, none⟩)), .eq 6 (.slice A n c), .eq 7 (.int .i64 left), .eq 8 (.int .i64 (szI n left)), .eq 1 (.int .i64 (szI n left)), .eq 1 (.int .i64 left), .eq 2 (.pointer (some ⟨g2, 0, none⟩)), .w (Below w1.heap.size w1)] 12 [[6], [0, 7], [5], [1, 2], [3]] [[], [], [], [], [5]] [4, 6, 7] hM hN hD (by kernel_rfl) ⟨s1, s2, ⟨Below.refl _ _, below_drew (Below.refl _ _)⟩, trivial⟩ ⟨fun _ _ hb h => below_step h hb, trivial⟩ (fun hgrow => ⟨fun _ _ h => rv rfl (x_field rfl h.1 Try.underlying37 rfl sz24 (by decide) rfl) rfl,
    fun _ _ h => rv rfl (x_load1 rfl h.1 Try.underlying24 rfl (blk_one (L := [.slice A n c]) (blk_below HBX2 h.2.1) 0 rfl)) rfl,
    fun _ _ h => rv rfl (x_move rfl h.1) rfl,
    fun _ _ h => rc hgrow rfl Try.func56 (by kernel_rfl) rfl rfl (args2 h.1 h.2.1) (szI_calls n left _ A c hl0 hl1 hn) (fun _ _ h => ⟨_, h.1, h.2, rfl⟩),
    fun _ _ h => rv rfl (x_assign rfl h.1) rfl, trivial⟩) ?_
  clear s0 s1 s2
  clear hN hD
  rintro a2 w2 hN hD ⟨s1, s2, hGR, -⟩
  replace HB := below_step HB hGR
  replace HBX2 := blk_below HBX2 hGR
  clear hGR
  show Code.wp _ _ _ _ _
  refine wp_seq ?_
  refine wp_seq ?_
  refine deedL [.eq 9 (.int .i64 (szI n left)), .eq 10 (.bool (decide (szI n left < 0))), .eq 1 (.int .i64 (szI n left)), .w (Below w2.heap.size w2)] 12 [[2], [0]] [] [1, 2, 3] hM hN hD (by kernel_rfl) ⟨s1, ⟨Below.refl _ _, below_drew (Below.refl _ _)⟩, trivial⟩ ⟨fun _ _ hb h => below_step h hb, trivial⟩ (fun hgrow => ⟨fun _ _ h => rv rfl (x_move rfl h.1) rfl,
    fun _ _ h => rv rfl (x_lss rfl h.1 rfl) rfl, trivial⟩) ?_
  clear s2 s1
  clear hN hD
  rintro a3 w3 hN hD ⟨s10, s1, hGR, -⟩
  replace HB := below_step HB hGR
  replace HBX2 := blk_below HBX2 hGR
  clear hGR
  show Code.wp _ _ _ _ _
  refine wp_cond (t := decide (szI n left < 0)) s10 ?_
  rcases Bool.eq_false_or_eq_true (decide (szI n left < 0)) with cd4 | cd4
  · rw [cd4]
    show Code.wp _ _ _ _ _
    have pd4 := of_decide_eq_true cd4
    refine wp_seq ?_
    refine deedL [.eq 4 (.int .i64 (-1)), .w (Below w3.heap.size w3)] 12 [[]] [] [0, 1] hM hN hD (by kernel_rfl) ⟨⟨Below.refl _ _, below_drew (Below.refl _ _)⟩, trivial⟩ ⟨fun _ _ hb h => below_step h hb, trivial⟩ (fun hgrow => ⟨fun _ _ _ => rv rfl (x_assign rfl rfl) rfl, trivial⟩) ?_
    clear s1 s10
    clear hN hD
    rintro a5 w5 hN hD ⟨s4, hGR, -⟩
    replace HB := below_step HB hGR
    replace HBX2 := blk_below HBX2 hGR
    clear hGR
    show Code.wp _ _ _ _ _
    refine wp_ret (then_ret ?_)
    refine bodyPost_ret (results_single rfl (vtmp s4 .nil)) hD ?_
    exact ⟨by simp only [szV, cd4, if_true, if_false, Bool.false_eq_true], HB⟩
  · rw [cd4]
    show Code.wp _ _ _ _ _
    have pd4 := of_decide_eq_false cd4
    refine wp_skip ?_
    show Code.wp _ _ _ _ _
    refine wp_seq ?_
    refine deedL [.eq 11 (.int .i64 (szI n left)), .eq 4 (.int .i64 (szI n left)), .eq 1 (.int .i64 (szI n left)), .w (Below w3.heap.size w3)] 12 [[2], [0]] [] [1, 2, 3] hM hN hD (by kernel_rfl) ⟨s1, ⟨Below.refl _ _, below_drew (Below.refl _ _)⟩, trivial⟩ ⟨fun _ _ hb h => below_step h hb, trivial⟩ (fun hgrow => ⟨fun _ _ h => rv rfl (x_move rfl h.1) rfl,
      fun _ _ h => rv rfl (x_assign rfl h.1) rfl, trivial⟩) ?_
    clear s1 s10
    clear hN hD
    rintro a6 w6 hN hD ⟨s4, s1, hGR, -⟩
    replace HB := below_step HB hGR
    replace HBX2 := blk_below HBX2 hGR
    clear hGR
    show Code.wp _ _ _ _ _
    refine wp_ret ?_
    refine bodyPost_ret (results_single rfl (vtmp s4 .nil)) hD ?_
    exact ⟨by simp only [szV, cd4, if_true, if_false, Bool.false_eq_true], HB⟩
theorem szI_le {n : Nat} {left : Int} (hl : left ≤ 1048576) : szI n left ≤ 1048576 ∧ (0 ≤ szI n left → (n : Int) + szI n left ≤ left) := by
  unfold szI
  split <;> omega
theorem szV_le {n : Nat} {left : Int} (hl : left ≤ 1048576) : szV n left ≤ 1048576 ∧ (0 ≤ szV n left → (n : Int) + szV n left ≤ left) := by
  have := szI_le (n := n) hl
  unfold szV
  split
  · omega
  · exact this
noncomputable def szO (o : Op) (left : Int) : Int :=
 if (decide (szV o.deps.length left < 0)) = true then (-1) else (if (decide ((szV o.deps.length left) - (o.key.size : Int) < 0)) = true then (-1) else (if (decide (((szV o.deps.length left) - (o.key.size : Int)) - (o.text.size : Int) < 0)) = true then (-1) else (((szV o.deps.length left) - (o.key.size : Int)) - (o.text.size : Int))))
set_option maxHeartbeats 2000000 in
theorem szO_calls (o : Op) (left : Int) (w : World) (A : Option Addr) (c : Nat) (hl0 : 0 ≤ left) (hl1 : left ≤ 1048576) (hn : o.deps.length ≤ 9223372036854775807) (hk : o.key.size ≤ 9223372036854775807) (ht : o.text.size ≤ 9223372036854775807) : Calls Try.prog 46 #[.agg (opc o A c).toArray, .int .i64 left] w fun e w' => e = .returned (.int .i64 (szO o left)) ∧ Below w.heap.size w w' := by
  refine calls_of_wp Try.func46 rfl ?_
  refine enter_ (N := 26) rfl ?_
  rintro a0 hN hD ⟨s0, s1, -⟩
  have HB : Below w.heap.size w w := Below.refl _ _
  refine wp_seq ?_
  refine deedL [.s1 2 (NewB w.heap.size (opc o A c) 63), .eq 4 (.int .i64 0), .eq 0 (.agg (opc o A c).toArray), .eq 1 (.int .i64 left), .w (Below w.heap.size w)] 26 [[4, 2], []] [] [0, 2, 3, 4] hM hN hD (by kernel_rfl) ⟨s0, s1, ⟨Below.refl _ _, below_drew (Below.refl _ _)⟩, trivial⟩ ⟨fun _ _ _ hb h => h.grow hb, fun _ _ hb h => below_step h hb, trivial⟩ (fun hgrow => ⟨fun _ _ h => rbox hgrow rfl (x_box rfl h.2.1) h.1.size (fun _ _ z => z),
    fun _ _ _ => rv rfl (x_assign rfl rfl) rfl, trivial⟩) ?_
  clear s0 s1
  clear hN hD
  rintro a1 w1 hN hD ⟨⟨g2, s2, lg2, HBX2⟩, s0, s1, hGR, -⟩
  replace HB := below_step HB hGR
  clear hGR
  show Code.wp _ _ _ _ _
  refine wp_seq ?_
  have hv := szV_le (n := o.deps.length) hl1
  refine deedL [.eq 5 (.pointer (some ⟨g2, 3, none⟩)), .eq 6 (.agg #[Value.slice A o.deps.length c]), .eq 7 (.int .i64 left), .eq 8 (.int .i64 (szV o.deps.length left)), .eq 1 (.int .i64 (szV o.deps.length left)), .eq 1 (.int .i64 left), .eq 2 (.pointer (some ⟨g2, 0, none⟩)), .w (Below w1.heap.size w1)] 26 [[6], [0, 7], [5], [1, 2], [3]] [[], [], [], [], [5]] [4, 6, 7] hM hN hD (by kernel_rfl) ⟨s1, s2, ⟨Below.refl _ _, below_drew (Below.refl _ _)⟩, trivial⟩ ⟨fun _ _ hb h => below_step h hb, trivial⟩ (fun hgrow => ⟨fun _ _ h => rv rfl (x_field rfl h.1 Try.underlying63 rfl sz37 (by decide) rfl) rfl,
    fun _ _ h => rv rfl (x_loadS rfl h.1 Try.underlying37 [.slice A o.deps.length c] sz37 (blk_list (L := opc o A c) (blk_below HBX2 h.2.1) 3 rfl)) rfl,
    fun _ _ h => rv rfl (x_move rfl h.1) rfl,
    fun _ _ h => rc hgrow rfl Try.func23 (by kernel_rfl) rfl rfl (args2 h.1 h.2.1) (szV_calls o.deps.length left _ A c hl0 hl1 hn) (fun _ _ h => ⟨_, h.1, h.2, rfl⟩),
    fun _ _ h => rv rfl (x_assign rfl h.1) rfl, trivial⟩) ?_
  clear s0 s1 s2
  clear hN hD
  rintro a2 w2 hN hD ⟨s1, s2, hGR, -⟩
  replace HB := below_step HB hGR
  replace HBX2 := blk_below HBX2 hGR
  clear hGR
  show Code.wp _ _ _ _ _
  refine wp_seq ?_
  refine wp_seq ?_
  refine deedL [.eq 9 (.int .i64 (szV o.deps.length left)), .eq 10 (.bool (decide (szV o.deps.length left < 0))), .eq 1 (.int .i64 (szV o.deps.length left)), .eq 2 (.pointer (some ⟨g2, 0, none⟩)), .w (Below w2.heap.size w2)] 26 [[2], [0]] [] [1, 2, 3, 4] hM hN hD (by kernel_rfl) ⟨s1, s2, ⟨Below.refl _ _, below_drew (Below.refl _ _)⟩, trivial⟩ ⟨fun _ _ hb h => below_step h hb, trivial⟩ (fun hgrow => ⟨fun _ _ h => rv rfl (x_move rfl h.1) rfl,
    fun _ _ h => rv rfl (x_lss rfl h.1 rfl) rfl, trivial⟩) ?_
  clear s2 s1
  clear hN hD
  rintro a3 w3 hN hD ⟨s10, s1, s2, hGR, -⟩
  replace HB := below_step HB hGR
  replace HBX2 := blk_below HBX2 hGR
  clear hGR
  show Code.wp _ _ _ _ _
  refine wp_cond (t := decide (szV o.deps.length left < 0)) s10 ?_
  rcases Bool.eq_false_or_eq_true (decide (szV o.deps.length left < 0)) with cd4 | cd4
  · rw [cd4]
    show Code.wp _ _ _ _ _
    have pd4 := of_decide_eq_true cd4
    refine wp_seq ?_
    refine deedL [.eq 4 (.int .i64 (-1)), .w (Below w3.heap.size w3)] 26 [[]] [] [0, 1] hM hN hD (by kernel_rfl) ⟨⟨Below.refl _ _, below_drew (Below.refl _ _)⟩, trivial⟩ ⟨fun _ _ hb h => below_step h hb, trivial⟩ (fun hgrow => ⟨fun _ _ _ => rv rfl (x_assign rfl rfl) rfl, trivial⟩) ?_
    clear s1 s2 s10
    clear hN hD
    rintro a5 w5 hN hD ⟨s4, hGR, -⟩
    replace HB := below_step HB hGR
    replace HBX2 := blk_below HBX2 hGR
    clear hGR
    show Code.wp _ _ _ _ _
    refine wp_ret (then_ret ?_)
    refine bodyPost_ret (results_single rfl (vtmp s4 .nil)) hD ?_
    exact ⟨by simp only [szO, cd4, if_true, if_false, Bool.false_eq_true], HB⟩
  · rw [cd4]
    show Code.wp _ _ _ _ _
    have pd4 := of_decide_eq_false cd4
    refine wp_skip ?_
    show Code.wp _ _ _ _ _
    refine wp_seq ?_
    refine deedL [.eq 11 (.int .i64 (szV o.deps.length left)), .eq 12 (.pointer (some ⟨g2, 10, none⟩)), .eq 13 (.string o.key), .eq 14 (.int .i64 (o.key.size : Int)), .eq 15 (.int .i64 ((szV o.deps.length left) - (o.key.size : Int))), .eq 1 (.int .i64 ((szV o.deps.length left) - (o.key.size : Int))), .eq 1 (.int .i64 (szV o.deps.length left)), .eq 2 (.pointer (some ⟨g2, 0, none⟩)), .w (Below w3.heap.size w3)] 26 [[6], [7], [1, 8], [2], [0, 3], [4]] [[], [], [], [], [], [6]] [5, 7, 8] hM hN hD (by kernel_rfl) ⟨s1, s2, ⟨Below.refl _ _, below_drew (Below.refl _ _)⟩, trivial⟩ ⟨fun _ _ hb h => below_step h hb, trivial⟩ (fun hgrow => ⟨fun _ _ h => rv rfl (x_move rfl h.1) rfl,
      fun _ _ h => rv rfl (x_field rfl h.1 Try.underlying63 rfl sz9 (by decide) rfl) rfl,
      fun _ _ h => rv rfl (x_load1 rfl h.1 Try.underlying9 rfl (blk_one (L := opc o A c) (blk_below HBX2 h.2.1) 10 rfl)) rfl,
      fun _ _ h => rv rfl (x_len_string rfl Try.underlying9 h.1) rfl,
      fun _ _ h => rv rfl (x_sub' rfl h.1 h.2.1 (by omega)) rfl,
      fun _ _ h => rv rfl (x_assign rfl h.1) rfl, trivial⟩) ?_
    clear s1 s2 s10
    clear hN hD
    rintro a6 w6 hN hD ⟨s1, s2, hGR, -⟩
    replace HB := below_step HB hGR
    replace HBX2 := blk_below HBX2 hGR
    clear hGR
    show Code.wp _ _ _ _ _
    refine wp_seq ?_
    refine wp_seq ?_
    refine deedL [.eq 16 (.int .i64 ((szV o.deps.length left) - (o.key.size : Int))), .eq 17 (.bool (decide ((szV o.deps.length left) - (o.key.size : Int) < 0))), .eq 1 (.int .i64 ((szV o.deps.length left) - (o.key.size : Int))), .eq 2 (.pointer (some ⟨g2, 0, none⟩)), .w (Below w6.heap.size w6)] 26 [[2], [0]] [] [1, 2, 3, 4] hM hN hD (by kernel_rfl) ⟨s1, s2, ⟨Below.refl _ _, below_drew (Below.refl _ _)⟩, trivial⟩ ⟨fun _ _ hb h => below_step h hb, trivial⟩ (fun hgrow => ⟨fun _ _ h => rv rfl (x_move rfl h.1) rfl,
      fun _ _ h => rv rfl (x_lss rfl h.1 rfl) rfl, trivial⟩) ?_
    clear s2 s1
    clear hN hD
    rintro a7 w7 hN hD ⟨s17, s1, s2, hGR, -⟩
    replace HB := below_step HB hGR
    replace HBX2 := blk_below HBX2 hGR
    clear hGR
    show Code.wp _ _ _ _ _
    refine wp_cond (t := decide ((szV o.deps.length left) - (o.key.size : Int) < 0)) s17 ?_
    rcases Bool.eq_false_or_eq_true (decide ((szV o.deps.length left) - (o.key.size : Int) < 0)) with cd8 | cd8
    · rw [cd8]
      show Code.wp _ _ _ _ _
      have pd8 := of_decide_eq_true cd8
      refine wp_seq ?_
      refine deedL [.eq 4 (.int .i64 (-1)), .w (Below w7.heap.size w7)] 26 [[]] [] [0, 1] hM hN hD (by kernel_rfl) ⟨⟨Below.refl _ _, below_drew (Below.refl _ _)⟩, trivial⟩ ⟨fun _ _ hb h => below_step h hb, trivial⟩ (fun hgrow => ⟨fun _ _ _ => rv rfl (x_assign rfl rfl) rfl, trivial⟩) ?_
      clear s1 s2 s17
      clear hN hD
      rintro a9 w9 hN hD ⟨s4, hGR, -⟩
      replace HB := below_step HB hGR
      replace HBX2 := blk_below HBX2 hGR
      clear hGR
      show Code.wp _ _ _ _ _
      refine wp_ret (then_ret ?_)
      refine bodyPost_ret (results_single rfl (vtmp s4 .nil)) hD ?_
      exact ⟨by simp only [szO, cd4, cd8, if_true, if_false, Bool.false_eq_true], HB⟩
    · rw [cd8]
      show Code.wp _ _ _ _ _
      have pd8 := of_decide_eq_false cd8
      refine wp_skip ?_
      show Code.wp _ _ _ _ _
      refine wp_seq ?_
      refine deedL [.eq 18 (.int .i64 ((szV o.deps.length left) - (o.key.size : Int))), .eq 19 (.pointer (some ⟨g2, 11, none⟩)), .eq 20 (.string o.text), .eq 21 (.int .i64 (o.text.size : Int)), .eq 22 (.int .i64 (((szV o.deps.length left) - (o.key.size : Int)) - (o.text.size : Int))), .eq 1 (.int .i64 (((szV o.deps.length left) - (o.key.size : Int)) - (o.text.size : Int))), .eq 1 (.int .i64 ((szV o.deps.length left) - (o.key.size : Int))), .eq 2 (.pointer (some ⟨g2, 0, none⟩)), .w (Below w7.heap.size w7)] 26 [[6], [7], [1, 8], [2], [0, 3], [4]] [[], [], [], [], [], [6]] [5, 7, 8] hM hN hD (by kernel_rfl) ⟨s1, s2, ⟨Below.refl _ _, below_drew (Below.refl _ _)⟩, trivial⟩ ⟨fun _ _ hb h => below_step h hb, trivial⟩ (fun hgrow => ⟨fun _ _ h => rv rfl (x_move rfl h.1) rfl,
        fun _ _ h => rv rfl (x_field rfl h.1 Try.underlying63 rfl sz9 (by decide) rfl) rfl,
        fun _ _ h => rv rfl (x_load1 rfl h.1 Try.underlying9 rfl (blk_one (L := opc o A c) (blk_below HBX2 h.2.1) 11 rfl)) rfl,
        fun _ _ h => rv rfl (x_len_string rfl Try.underlying9 h.1) rfl,
        fun _ _ h => rv rfl (x_sub' rfl h.1 h.2.1 (by omega)) rfl,
        fun _ _ h => rv rfl (x_assign rfl h.1) rfl, trivial⟩) ?_
      clear s1 s2 s17
      clear hN hD
      rintro a10 w10 hN hD ⟨s1, s2, hGR, -⟩
      replace HB := below_step HB hGR
      replace HBX2 := blk_below HBX2 hGR
      clear hGR
      show Code.wp _ _ _ _ _
      refine wp_seq ?_
      refine wp_seq ?_
      refine deedL [.eq 23 (.int .i64 (((szV o.deps.length left) - (o.key.size : Int)) - (o.text.size : Int))), .eq 24 (.bool (decide (((szV o.deps.length left) - (o.key.size : Int)) - (o.text.size : Int) < 0))), .eq 1 (.int .i64 (((szV o.deps.length left) - (o.key.size : Int)) - (o.text.size : Int))), .w (Below w10.heap.size w10)] 26 [[2], [0]] [] [1, 2, 3] hM hN hD (by kernel_rfl) ⟨s1, ⟨Below.refl _ _, below_drew (Below.refl _ _)⟩, trivial⟩ ⟨fun _ _ hb h => below_step h hb, trivial⟩ (fun hgrow => ⟨fun _ _ h => rv rfl (x_move rfl h.1) rfl,
        fun _ _ h => rv rfl (x_lss rfl h.1 rfl) rfl, trivial⟩) ?_
      clear s2 s1
      clear hN hD
      rintro a11 w11 hN hD ⟨s24, s1, hGR, -⟩
      replace HB := below_step HB hGR
      replace HBX2 := blk_below HBX2 hGR
      clear hGR
      show Code.wp _ _ _ _ _
      refine wp_cond (t := decide (((szV o.deps.length left) - (o.key.size : Int)) - (o.text.size : Int) < 0)) s24 ?_
      rcases Bool.eq_false_or_eq_true (decide (((szV o.deps.length left) - (o.key.size : Int)) - (o.text.size : Int) < 0)) with cd12 | cd12
      · rw [cd12]
        show Code.wp _ _ _ _ _
        have pd12 := of_decide_eq_true cd12
        refine wp_seq ?_
        refine deedL [.eq 4 (.int .i64 (-1)), .w (Below w11.heap.size w11)] 26 [[]] [] [0, 1] hM hN hD (by kernel_rfl) ⟨⟨Below.refl _ _, below_drew (Below.refl _ _)⟩, trivial⟩ ⟨fun _ _ hb h => below_step h hb, trivial⟩ (fun hgrow => ⟨fun _ _ _ => rv rfl (x_assign rfl rfl) rfl, trivial⟩) ?_
        clear s1 s24
        clear hN hD
        rintro a13 w13 hN hD ⟨s4, hGR, -⟩
        replace HB := below_step HB hGR
        replace HBX2 := blk_below HBX2 hGR
        clear hGR
        show Code.wp _ _ _ _ _
        refine wp_ret (then_ret ?_)
        refine bodyPost_ret (results_single rfl (vtmp s4 .nil)) hD ?_
        exact ⟨by simp only [szO, cd4, cd8, cd12, if_true, if_false, Bool.false_eq_true], HB⟩
      · rw [cd12]
        show Code.wp _ _ _ _ _
        have pd12 := of_decide_eq_false cd12
        refine wp_skip ?_
        show Code.wp _ _ _ _ _
        refine wp_seq ?_
        refine deedL [.eq 25 (.int .i64 (((szV o.deps.length left) - (o.key.size : Int)) - (o.text.size : Int))), .eq 4 (.int .i64 (((szV o.deps.length left) - (o.key.size : Int)) - (o.text.size : Int))), .eq 1 (.int .i64 (((szV o.deps.length left) - (o.key.size : Int)) - (o.text.size : Int))), .w (Below w11.heap.size w11)] 26 [[2], [0]] [] [1, 2, 3] hM hN hD (by kernel_rfl) ⟨s1, ⟨Below.refl _ _, below_drew (Below.refl _ _)⟩, trivial⟩ ⟨fun _ _ hb h => below_step h hb, trivial⟩ (fun hgrow => ⟨fun _ _ h => rv rfl (x_move rfl h.1) rfl,
          fun _ _ h => rv rfl (x_assign rfl h.1) rfl, trivial⟩) ?_
        clear s1 s24
        clear hN hD
        rintro a14 w14 hN hD ⟨s4, s1, hGR, -⟩
        replace HB := below_step HB hGR
        replace HBX2 := blk_below HBX2 hGR
        clear hGR
        show Code.wp _ _ _ _ _
        refine wp_ret ?_
        refine bodyPost_ret (results_single rfl (vtmp s4 .nil)) hD ?_
        exact ⟨by simp only [szO, cd4, cd8, cd12, if_true, if_false, Bool.false_eq_true], HB⟩
theorem szO_le {o : Op} {left : Int} (hl : left ≤ 1048576) : szO o left ≤ 1048576 ∧ (0 ≤ szO o left → (o.deps.length : Int) + o.key.size + o.text.size + szO o left ≤ left) := by
  have hv := szV_le (n := o.deps.length) hl
  unfold szO
  simp only [decide_eq_true_eq]
  repeat' split
  all_goals omega
end Go.Proofs.Ytideafkiaipnoaa.Q
