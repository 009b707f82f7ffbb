/- The law FnExactLogSince: for every input it returns true, and each argument reads as it did. -/
import Derived.Test.YtideafkiaipnoaaZs0
import Derived.Test.YtideafkiaipnoaaZs3
import Derived.Test.YtideafkiaipnoaaZs2
import Derived.Test.YtideafkiaipnoaaRows
import Derived.WalkKit
import Derived.ProofKit
import Derived.OpenShut
import Derived.ShutString
import Derived.ChangeOld
import Derived.Below
import Derived.Carry
import Derived.SizedLaws
import Derived.ChangeSlices
import Derived.Test.YtideafkiaipnoaaZs1
/- Functions walked. -/
namespace Go.Proofs.Ytideafkiaipnoaa.Q
open Go Go.RowKit Go.Proofs.YtideafkiaipnoaaW.PrintWords Go.Proofs.YtideafkiaipnoaaW.PrintLast Go.Proofs.Ytideafkiaipnoaa.Deed
set_option maxRecDepth 100000
set_option linter.unusedVariables false
set_option linter.unusedSimpArgs false
noncomputable def szI (n : Nat) (left : Int) : Int :=
 if (decide (left - (n : Int) < 0)) = true then (-1) else (left - (n : Int))
set_option maxHeartbeats 2000000 in
theorem szI_calls (n : Nat) (left : Int) (w : World) (A : Option Addr) (c : Nat) (hl0 : 0 ≤ left) (hl1 : left ≤ 1048576) (hn : n ≤ 9223372036854775807) : Calls Try.prog 56 #[.slice A n c, .int .i64 left] w fun e w' => e = .returned (.int .i64 (szI n left)) ∧ Below w.heap.size w w' := by
  refine calls_of_wp Try.func56 rfl ?_
  refine enter_ (N := 12) rfl ?_
  rintro a0 hN hD ⟨s0, s1, -⟩
  have HB : Below w.heap.size w w := Below.refl _ _
  refine wp_seq ?_
  refine deedL [.eq 4 (.int .i64 0), .eq 0 (.slice A n c), .eq 1 (.int .i64 left), .w (Below w.heap.size w)] 12 [[]] [] [1, 2, 3] hM hN hD (by kernel_rfl) ⟨s0, s1, ⟨Below.refl _ _, below_drew (Below.refl _ _)⟩, trivial⟩ ⟨fun _ _ hb h => below_step h hb, trivial⟩ (fun hgrow => ⟨fun _ _ _ => rv rfl (x_assign rfl rfl) rfl, trivial⟩) ?_
  clear s0 s1
  clear hN hD
  rintro a1 w1 hN hD ⟨s0, s1, hGR, -⟩
  replace HB := below_step HB hGR
  clear hGR
  show Code.wp _ _ _ _ _
  refine wp_seq ?_
  refine deedL [.eq 5 (.int .i64 left), .eq 6 (.slice A n c), .eq 7 (.int .i64 (n : Int)), .eq 8 (.int .i64 (left - (n : Int))), .eq 1 (.int .i64 (left - (n : Int))), .eq 0 (.slice A n c), .eq 1 (.int .i64 left), .w (Below w1.heap.size w1)] 12 [[6], [5], [1], [0, 2], [3]] [[], [], [], [], [6]] [4, 5, 7] hM hN hD (by kernel_rfl) ⟨s0, s1, ⟨Below.refl _ _, below_drew (Below.refl _ _)⟩, trivial⟩ ⟨fun _ _ hb h => below_step h hb, trivial⟩ (fun hgrow => ⟨fun _ _ h => rv rfl (x_move rfl h.1) rfl,
    fun _ _ h => rv rfl (x_move rfl h.1) rfl,
    fun _ _ h => rv rfl (x_len_slice rfl Try.underlying24 h.1) rfl,
    fun _ _ h => rv rfl (x_sub' rfl h.1 h.2.1 (by omega)) rfl,
    fun _ _ h => rv rfl (x_assign rfl h.1) rfl, trivial⟩) ?_
  clear s0 s1
  clear hN hD
  rintro a2 w2 hN hD ⟨s1, s0, hGR, -⟩
  replace HB := below_step HB hGR
  clear hGR
  show Code.wp _ _ _ _ _
  refine wp_seq ?_
  refine wp_seq ?_
  refine deedL [.eq 9 (.int .i64 (left - (n : Int))), .eq 10 (.bool (decide (left - (n : Int) < 0))), .eq 1 (.int .i64 (left - (n : Int))), .w (Below w2.heap.size w2)] 12 [[2], [0]] [] [1, 2, 3] hM hN hD (by kernel_rfl) ⟨s1, ⟨Below.refl _ _, below_drew (Below.refl _ _)⟩, trivial⟩ ⟨fun _ _ hb h => below_step h hb, trivial⟩ (fun hgrow => ⟨fun _ _ h => rv rfl (x_move rfl h.1) rfl,
    fun _ _ h => rv rfl (x_lss rfl h.1 rfl) rfl, trivial⟩) ?_
  clear s0 s1
  clear hN hD
  rintro a3 w3 hN hD ⟨s10, s1, hGR, -⟩
  replace HB := below_step HB hGR
  clear hGR
  show Code.wp _ _ _ _ _
  refine wp_cond (t := decide (left - (n : Int) < 0)) s10 ?_
  rcases Bool.eq_false_or_eq_true (decide (left - (n : Int) < 0)) with cd4 | cd4
  · rw [cd4]
    show Code.wp _ _ _ _ _
    have pd4 := of_decide_eq_true cd4
    refine wp_seq ?_
    refine deedL [.eq 4 (.int .i64 (-1)), .w (Below w3.heap.size w3)] 12 [[]] [] [0, 1] hM hN hD (by kernel_rfl) ⟨⟨Below.refl _ _, below_drew (Below.refl _ _)⟩, trivial⟩ ⟨fun _ _ hb h => below_step h hb, trivial⟩ (fun hgrow => ⟨fun _ _ _ => rv rfl (x_assign rfl rfl) rfl, trivial⟩) ?_
    clear s1 s10
    clear hN hD
    rintro a5 w5 hN hD ⟨s4, hGR, -⟩
    replace HB := below_step HB hGR
    clear hGR
    show Code.wp _ _ _ _ _
    refine wp_ret (then_ret ?_)
    refine bodyPost_ret (results_single rfl (vtmp s4 .nil)) hD ?_
    exact ⟨by simp only [szI, cd4, if_true, if_false, Bool.false_eq_true], HB⟩
  · rw [cd4]
    show Code.wp _ _ _ _ _
    have pd4 := of_decide_eq_false cd4
    refine wp_skip ?_
    show Code.wp _ _ _ _ _
    refine wp_seq ?_
    refine deedL [.eq 11 (.int .i64 (left - (n : Int))), .eq 4 (.int .i64 (left - (n : Int))), .eq 1 (.int .i64 (left - (n : Int))), .w (Below w3.heap.size w3)] 12 [[2], [0]] [] [1, 2, 3] hM hN hD (by kernel_rfl) ⟨s1, ⟨Below.refl _ _, below_drew (Below.refl _ _)⟩, trivial⟩ ⟨fun _ _ hb h => below_step h hb, trivial⟩ (fun hgrow => ⟨fun _ _ h => rv rfl (x_move rfl h.1) rfl,
      fun _ _ h => rv rfl (x_assign rfl h.1) rfl, trivial⟩) ?_
    clear s1 s10
    clear hN hD
    rintro a6 w6 hN hD ⟨s4, s1, hGR, -⟩
    replace HB := below_step HB hGR
    clear hGR
    show Code.wp _ _ _ _ _
    refine wp_ret ?_
    refine bodyPost_ret (results_single rfl (vtmp s4 .nil)) hD ?_
    exact ⟨by simp only [szI, cd4, if_true, if_false, Bool.false_eq_true], HB⟩
noncomputable def szV (n : Nat) (left : Int) : Int :=
 if (decide (szI n left < 0)) = true then (-1) else (szI n left)
set_option maxHeartbeats 2000000 in
theorem szV_calls (n : Nat) (left : Int) (w : World) (A : Option Addr) (c : Nat) (hl0 : 0 ≤ left) (hl1 : left ≤ 1048576) (hn : n ≤ 9223372036854775807) : Calls Try.prog 23 #[.agg #[Value.slice A n c], .int .i64 left] w fun e w' => e = .returned (.int .i64 (szV n left)) ∧ Below w.heap.size w w' := by
  refine calls_of_wp Try.func23 rfl ?_
  refine enter_ (N := 12) rfl ?_
  rintro a0 hN hD ⟨s0, s1, -⟩
  have HB : Below w.heap.size w w := Below.refl _ _
  refine wp_seq ?_
  refine deedL [.s1 2 (NewB w.heap.size [.slice A n c] 37), .eq 4 (.int .i64 0), .eq 0 (.agg #[Value.slice A n c]), .eq 1 (.int .i64 left), .w (Below w.heap.size w)] 12 [[4, 2], []] [] [0, 2, 3, 4] hM hN hD (by kernel_rfl) ⟨s0, s1, ⟨Below.refl _ _, below_drew (Below.refl _ _)⟩, trivial⟩ ⟨fun _ _ _ hb h => h.grow hb, fun _ _ hb h => below_step h hb, trivial⟩ (fun hgrow => ⟨fun _ _ h => rbox hgrow rfl (x_box rfl h.2.1) h.1.size (fun _ _ z => z),
    fun _ _ _ => rv rfl (x_assign rfl rfl) rfl, trivial⟩) ?_
  clear s0 s1
  clear hN hD
  rintro a1 w1 hN hD ⟨⟨g2, s2, lg2, HBX2⟩, s0, s1, hGR, -⟩
  replace HB := below_step HB hGR
  clear hGR
  show Code.wp _ _ _ _ _
  refine wp_seq ?_
  refine deedL [.eq 5 (.pointer (some ⟨g2, 0, none⟩)), .eq 6 (.slice A n c), .eq 7 (.int .i64 left), .eq 8 (.int .i64 (szI n left)), .eq 1 (.int .i64 (szI n left)), .eq 1 (.int .i64 left), .eq 2 (.pointer (some ⟨g2, 0, none⟩)), .w (Below w1.heap.size w1)] 12 [[6], [0, 7], [5], [1, 2], [3]] [[], [], [], [], [5]] [4, 6, 7] hM hN hD (by kernel_rfl) ⟨s1, s2, ⟨Below.refl _ _, below_drew (Below.refl _ _)⟩, trivial⟩ ⟨fun _ _ hb h => below_step h hb, trivial⟩ (fun hgrow => ⟨fun _ _ h => rv rfl (x_field rfl h.1 Try.underlying37 rfl sz24 (by decide) rfl) rfl,
    fun _ _ h => rv rfl (x_load1 rfl h.1 Try.underlying24 rfl (blk_one (L := [.slice A n c]) (blk_below HBX2 h.2.1) 0 rfl)) rfl,
    fun _ _ h => rv rfl (x_move rfl h.1) rfl,
    fun _ _ h => rc hgrow rfl Try.func56 (by kernel_rfl) rfl rfl (args2 h.1 h.2.1) (szI_calls n left _ A c hl0 hl1 hn) (fun _ _ h => ⟨_, h.1, h.2, rfl⟩),
    fun _ _ h => rv rfl (x_assign rfl h.1) rfl, trivial⟩) ?_
  clear s0 s1 s2
  clear hN hD
  rintro a2 w2 hN hD ⟨s1, s2, hGR, -⟩
  replace HB := below_step HB hGR
  replace HBX2 := blk_below HBX2 hGR
  clear hGR
  show Code.wp _ _ _ _ _
  refine wp_seq ?_
  refine wp_seq ?_
  refine deedL [.eq 9 (.int .i64 (szI n left)), .eq 10 (.bool (decide (szI n left < 0))), .eq 1 (.int .i64 (szI n left)), .w (Below w2.heap.size w2)] 12 [[2], [0]] [] [1, 2, 3] hM hN hD (by kernel_rfl) ⟨s1, ⟨Below.refl _ _, below_drew (Below.refl _ _)⟩, trivial⟩ ⟨fun _ _ hb h => below_step h hb, trivial⟩ (fun hgrow => ⟨fun _ _ h => rv rfl (x_move rfl h.1) rfl,
    fun _ _ h => rv rfl (x_lss rfl h.1 rfl) rfl, trivial⟩) ?_
  clear s2 s1
  clear hN hD
  rintro a3 w3 hN hD ⟨s10, s1, hGR, -⟩
  replace HB := below_step HB hGR
  replace HBX2 := blk_below HBX2 hGR
  clear hGR
  show Code.wp _ _ _ _ _
  refine wp_cond (t := decide (szI n left < 0)) s10 ?_
  rcases Bool.eq_false_or_eq_true (decide (szI n left < 0)) with cd4 | cd4
  · rw [cd4]
    show Code.wp _ _ _ _ _
    have pd4 := of_decide_eq_true cd4
    refine wp_seq ?_
    refine deedL [.eq 4 (.int .i64 (-1)), .w (Below w3.heap.size w3)] 12 [[]] [] [0, 1] hM hN hD (by kernel_rfl) ⟨⟨Below.refl _ _, below_drew (Below.refl _ _)⟩, trivial⟩ ⟨fun _ _ hb h => below_step h hb, trivial⟩ (fun hgrow => ⟨fun _ _ _ => rv rfl (x_assign rfl rfl) rfl, trivial⟩) ?_
    clear s1 s10
    clear hN hD
    rintro a5 w5 hN hD ⟨s4, hGR, -⟩
    replace HB := below_step HB hGR
    replace HBX2 := blk_below HBX2 hGR
    clear hGR
    show Code.wp _ _ _ _ _
    refine wp_ret (then_ret ?_)
    refine bodyPost_ret (results_single rfl (vtmp s4 .nil)) hD ?_
    exact ⟨by simp only [szV, cd4, if_true, if_false, Bool.false_eq_true], HB⟩
  · rw [cd4]
    show Code.wp _ _ _ _ _
    have pd4 := of_decide_eq_false cd4
    refine wp_skip ?_
    show Code.wp _ _ _ _ _
    refine wp_seq ?_
    refine deedL [.eq 11 (.int .i64 (szI n left)), .eq 4 (.int .i64 (szI n left)), .eq 1 (.int .i64 (szI n left)), .w (Below w3.heap.size w3)] 12 [[2], [0]] [] [1, 2, 3] hM hN hD (by kernel_rfl) ⟨s1, ⟨Below.refl _ _, below_drew (Below.refl _ _)⟩, trivial⟩ ⟨fun _ _ hb h => below_step h hb, trivial⟩ (fun hgrow => ⟨fun _ _ h => rv rfl (x_move rfl h.1) rfl,
      fun _ _ h => rv rfl (x_assign rfl h.1) rfl, trivial⟩) ?_
    clear s1 s10
    clear hN hD
    rintro a6 w6 hN hD ⟨s4, s1, hGR, -⟩
    replace HB := below_step HB hGR
    replace HBX2 := blk_below HBX2 hGR
    clear hGR
    show Code.wp _ _ _ _ _
    refine wp_ret ?_
    refine bodyPost_ret (results_single rfl (vtmp s4 .nil)) hD ?_
    exact ⟨by simp only [szV, cd4, if_true, if_false, Bool.false_eq_true], HB⟩
theorem szI_le {n : Nat} {left : Int} (hl : left ≤ 1048576) : szI n left ≤ 1048576 ∧ (0 ≤ szI n left → (n : Int) + szI n left ≤ left) := by
  unfold szI
  split <;> omega
theorem szV_le {n : Nat} {left : Int} (hl : left ≤ 1048576) : szV n left ≤ 1048576 ∧ (0 ≤ szV n left → (n : Int) + szV n left ≤ left) := by
  have := szI_le (n := n) hl
  unfold szV
  split
  · omega
  · exact this
noncomputable def szO (o : Op) (left : Int) : Int :=
 if (decide (szV o.deps.length left < 0)) = true then (-1) else (if (decide ((szV o.deps.length left) - (o.key.size : Int) < 0)) = true then (-1) else (if (decide (((szV o.deps.length left) - (o.key.size : Int)) - (o.text.size : Int) < 0)) = true then (-1) else (((szV o.deps.length left) - (o.key.size : Int)) - (o.text.size : Int))))
set_option maxHeartbeats 2000000 in
theorem szO_calls (o : Op) (left : Int) (w : World) (A : Option Addr) (c : Nat) (hl0 : 0 ≤ left) (hl1 : left ≤ 1048576) (hn : o.deps.length ≤ 9223372036854775807) (hk : o.key.size ≤ 9223372036854775807) (ht : o.text.size ≤ 9223372036854775807) : Calls Try.prog 46 #[.agg (opc o A c).toArray, .int .i64 left] w fun e w' => e = .returned (.int .i64 (szO o left)) ∧ Below w.heap.size w w' := by
  refine calls_of_wp Try.func46 rfl ?_
  refine enter_ (N := 26) rfl ?_
  rintro a0 hN hD ⟨s0, s1, -⟩
  have HB : Below w.heap.size w w := Below.refl _ _
  refine wp_seq ?_
  refine deedL [.s1 2 (NewB w.heap.size (opc o A c) 63), .eq 4 (.int .i64 0), .eq 0 (.agg (opc o A c).toArray), .eq 1 (.int .i64 left), .w (Below w.heap.size w)] 26 [[4, 2], []] [] [0, 2, 3, 4] hM hN hD (by kernel_rfl) ⟨s0, s1, ⟨Below.refl _ _, below_drew (Below.refl _ _)⟩, trivial⟩ ⟨fun _ _ _ hb h => h.grow hb, fun _ _ hb h => below_step h hb, trivial⟩ (fun hgrow => ⟨fun _ _ h => rbox hgrow rfl (x_box rfl h.2.1) h.1.size (fun _ _ z => z),
    fun _ _ _ => rv rfl (x_assign rfl rfl) rfl, trivial⟩) ?_
  clear s0 s1
  clear hN hD
  rintro a1 w1 hN hD ⟨⟨g2, s2, lg2, HBX2⟩, s0, s1, hGR, -⟩
  replace HB := below_step HB hGR
  clear hGR
  show Code.wp _ _ _ _ _
  refine wp_seq ?_
  have hv := szV_le (n := o.deps.length) hl1
  refine deedL [.eq 5 (.pointer (some ⟨g2, 3, none⟩)), .eq 6 (.agg #[Value.slice A o.deps.length c]), .eq 7 (.int .i64 left), .eq 8 (.int .i64 (szV o.deps.length left)), .eq 1 (.int .i64 (szV o.deps.length left)), .eq 1 (.int .i64 left), .eq 2 (.pointer (some ⟨g2, 0, none⟩)), .w (Below w1.heap.size w1)] 26 [[6], [0, 7], [5], [1, 2], [3]] [[], [], [], [], [5]] [4, 6, 7] hM hN hD (by kernel_rfl) ⟨s1, s2, ⟨Below.refl _ _, below_drew (Below.refl _ _)⟩, trivial⟩ ⟨fun _ _ hb h => below_step h hb, trivial⟩ (fun hgrow => ⟨fun _ _ h => rv rfl (x_field rfl h.1 Try.underlying63 rfl sz37 (by decide) rfl) rfl,
    fun _ _ h => rv rfl (x_loadS rfl h.1 Try.underlying37 [.slice A o.deps.length c] sz37 (blk_list (L := opc o A c) (blk_below HBX2 h.2.1) 3 rfl)) rfl,
    fun _ _ h => rv rfl (x_move rfl h.1) rfl,
    fun _ _ h => rc hgrow rfl Try.func23 (by kernel_rfl) rfl rfl (args2 h.1 h.2.1) (szV_calls o.deps.length left _ A c hl0 hl1 hn) (fun _ _ h => ⟨_, h.1, h.2, rfl⟩),
    fun _ _ h => rv rfl (x_assign rfl h.1) rfl, trivial⟩) ?_
  clear s0 s1 s2
  clear hN hD
  rintro a2 w2 hN hD ⟨s1, s2, hGR, -⟩
  replace HB := below_step HB hGR
  replace HBX2 := blk_below HBX2 hGR
  clear hGR
  show Code.wp _ _ _ _ _
  refine wp_seq ?_
  refine wp_seq ?_
  refine deedL [.eq 9 (.int .i64 (szV o.deps.length left)), .eq 10 (.bool (decide (szV o.deps.length left < 0))), .eq 1 (.int .i64 (szV o.deps.length left)), .eq 2 (.pointer (some ⟨g2, 0, none⟩)), .w (Below w2.heap.size w2)] 26 [[2], [0]] [] [1, 2, 3, 4] hM hN hD (by kernel_rfl) ⟨s1, s2, ⟨Below.refl _ _, below_drew (Below.refl _ _)⟩, trivial⟩ ⟨fun _ _ hb h => below_step h hb, trivial⟩ (fun hgrow => ⟨fun _ _ h => rv rfl (x_move rfl h.1) rfl,
    fun _ _ h => rv rfl (x_lss rfl h.1 rfl) rfl, trivial⟩) ?_
  clear s2 s1
  clear hN hD
  rintro a3 w3 hN hD ⟨s10, s1, s2, hGR, -⟩
  replace HB := below_step HB hGR
  replace HBX2 := blk_below HBX2 hGR
  clear hGR
  show Code.wp _ _ _ _ _
  refine wp_cond (t := decide (szV o.deps.length left < 0)) s10 ?_
  rcases Bool.eq_false_or_eq_true (decide (szV o.deps.length left < 0)) with cd4 | cd4
  · rw [cd4]
    show Code.wp _ _ _ _ _
    have pd4 := of_decide_eq_true cd4
    refine wp_seq ?_
    refine deedL [.eq 4 (.int .i64 (-1)), .w (Below w3.heap.size w3)] 26 [[]] [] [0, 1] hM hN hD (by kernel_rfl) ⟨⟨Below.refl _ _, below_drew (Below.refl _ _)⟩, trivial⟩ ⟨fun _ _ hb h => below_step h hb, trivial⟩ (fun hgrow => ⟨fun _ _ _ => rv rfl (x_assign rfl rfl) rfl, trivial⟩) ?_
    clear s1 s2 s10
    clear hN hD
    rintro a5 w5 hN hD ⟨s4, hGR, -⟩
    replace HB := below_step HB hGR
    replace HBX2 := blk_below HBX2 hGR
    clear hGR
    show Code.wp _ _ _ _ _
    refine wp_ret (then_ret ?_)
    refine bodyPost_ret (results_single rfl (vtmp s4 .nil)) hD ?_
    exact ⟨by simp only [szO, cd4, if_true, if_false, Bool.false_eq_true], HB⟩
  · rw [cd4]
    show Code.wp _ _ _ _ _
    have pd4 := of_decide_eq_false cd4
    refine wp_skip ?_
    show Code.wp _ _ _ _ _
    refine wp_seq ?_
    refine deedL [.eq 11 (.int .i64 (szV o.deps.length left)), .eq 12 (.pointer (some ⟨g2, 10, none⟩)), .eq 13 (.string o.key), .eq 14 (.int .i64 (o.key.size : Int)), .eq 15 (.int .i64 ((szV o.deps.length left) - (o.key.size : Int))), .eq 1 (.int .i64 ((szV o.deps.length left) - (o.key.size : Int))), .eq 1 (.int .i64 (szV o.deps.length left)), .eq 2 (.pointer (some ⟨g2, 0, none⟩)), .w (Below w3.heap.size w3)] 26 [[6], [7], [1, 8], [2], [0, 3], [4]] [[], [], [], [], [], [6]] [5, 7, 8] hM hN hD (by kernel_rfl) ⟨s1, s2, ⟨Below.refl _ _, below_drew (Below.refl _ _)⟩, trivial⟩ ⟨fun _ _ hb h => below_step h hb, trivial⟩ (fun hgrow => ⟨fun _ _ h => rv rfl (x_move rfl h.1) rfl,
      fun _ _ h => rv rfl (x_field rfl h.1 Try.underlying63 rfl sz9 (by decide) rfl) rfl,
      fun _ _ h => rv rfl (x_load1 rfl h.1 Try.underlying9 rfl (blk_one (L := opc o A c) (blk_below HBX2 h.2.1) 10 rfl)) rfl,
      fun _ _ h => rv rfl (x_len_string rfl Try.underlying9 h.1) rfl,
      fun _ _ h => rv rfl (x_sub' rfl h.1 h.2.1 (by omega)) rfl,
      fun _ _ h => rv rfl (x_assign rfl h.1) rfl, trivial⟩) ?_
    clear s1 s2 s10
    clear hN hD
    rintro a6 w6 hN hD ⟨s1, s2, hGR, -⟩
    replace HB := below_step HB hGR
    replace HBX2 := blk_below HBX2 hGR
    clear hGR
    show Code.wp _ _ _ _ _
    refine wp_seq ?_
    refine wp_seq ?_
    refine deedL [.eq 16 (.int .i64 ((szV o.deps.length left) - (o.key.size : Int))), .eq 17 (.bool (decide ((szV o.deps.length left) - (o.key.size : Int) < 0))), .eq 1 (.int .i64 ((szV o.deps.length left) - (o.key.size : Int))), .eq 2 (.pointer (some ⟨g2, 0, none⟩)), .w (Below w6.heap.size w6)] 26 [[2], [0]] [] [1, 2, 3, 4] hM hN hD (by kernel_rfl) ⟨s1, s2, ⟨Below.refl _ _, below_drew (Below.refl _ _)⟩, trivial⟩ ⟨fun _ _ hb h => below_step h hb, trivial⟩ (fun hgrow => ⟨fun _ _ h => rv rfl (x_move rfl h.1) rfl,
      fun _ _ h => rv rfl (x_lss rfl h.1 rfl) rfl, trivial⟩) ?_
    clear s2 s1
    clear hN hD
    rintro a7 w7 hN hD ⟨s17, s1, s2, hGR, -⟩
    replace HB := below_step HB hGR
    replace HBX2 := blk_below HBX2 hGR
    clear hGR
    show Code.wp _ _ _ _ _
    refine wp_cond (t := decide ((szV o.deps.length left) - (o.key.size : Int) < 0)) s17 ?_
    rcases Bool.eq_false_or_eq_true (decide ((szV o.deps.length left) - (o.key.size : Int) < 0)) with cd8 | cd8
    · rw [cd8]
      show Code.wp _ _ _ _ _
      have pd8 := of_decide_eq_true cd8
      refine wp_seq ?_
      refine deedL [.eq 4 (.int .i64 (-1)), .w (Below w7.heap.size w7)] 26 [[]] [] [0, 1] hM hN hD (by kernel_rfl) ⟨⟨Below.refl _ _, below_drew (Below.refl _ _)⟩, trivial⟩ ⟨fun _ _ hb h => below_step h hb, trivial⟩ (fun hgrow => ⟨fun _ _ _ => rv rfl (x_assign rfl rfl) rfl, trivial⟩) ?_
      clear s1 s2 s17
      clear hN hD
      rintro a9 w9 hN hD ⟨s4, hGR, -⟩
      replace HB := below_step HB hGR
      replace HBX2 := blk_below HBX2 hGR
      clear hGR
      show Code.wp _ _ _ _ _
      refine wp_ret (then_ret ?_)
      refine bodyPost_ret (results_single rfl (vtmp s4 .nil)) hD ?_
      exact ⟨by simp only [szO, cd4, cd8, if_true, if_false, Bool.false_eq_true], HB⟩
    · rw [cd8]
      show Code.wp _ _ _ _ _
      have pd8 := of_decide_eq_false cd8
      refine wp_skip ?_
      show Code.wp _ _ _ _ _
      refine wp_seq ?_
      refine deedL [.eq 18 (.int .i64 ((szV o.deps.length left) - (o.key.size : Int))), .eq 19 (.pointer (some ⟨g2, 11, none⟩)), .eq 20 (.string o.text), .eq 21 (.int .i64 (o.text.size : Int)), .eq 22 (.int .i64 (((szV o.deps.length left) - (o.key.size : Int)) - (o.text.size : Int))), .eq 1 (.int .i64 (((szV o.deps.length left) - (o.key.size : Int)) - (o.text.size : Int))), .eq 1 (.int .i64 ((szV o.deps.length left) - (o.key.size : Int))), .eq 2 (.pointer (some ⟨g2, 0, none⟩)), .w (Below w7.heap.size w7)] 26 [[6], [7], [1, 8], [2], [0, 3], [4]] [[], [], [], [], [], [6]] [5, 7, 8] hM hN hD (by kernel_rfl) ⟨s1, s2, ⟨Below.refl _ _, below_drew (Below.refl _ _)⟩, trivial⟩ ⟨fun _ _ hb h => below_step h hb, trivial⟩ (fun hgrow => ⟨fun _ _ h => rv rfl (x_move rfl h.1) rfl,
        fun _ _ h => rv rfl (x_field rfl h.1 Try.underlying63 rfl sz9 (by decide) rfl) rfl,
        fun _ _ h => rv rfl (x_load1 rfl h.1 Try.underlying9 rfl (blk_one (L := opc o A c) (blk_below HBX2 h.2.1) 11 rfl)) rfl,
        fun _ _ h => rv rfl (x_len_string rfl Try.underlying9 h.1) rfl,
        fun _ _ h => rv rfl (x_sub' rfl h.1 h.2.1 (by omega)) rfl,
        fun _ _ h => rv rfl (x_assign rfl h.1) rfl, trivial⟩) ?_
      clear s1 s2 s17
      clear hN hD
      rintro a10 w10 hN hD ⟨s1, s2, hGR, -⟩
      replace HB := below_step HB hGR
      replace HBX2 := blk_below HBX2 hGR
      clear hGR
      show Code.wp _ _ _ _ _
      refine wp_seq ?_
      refine wp_seq ?_
      refine deedL [.eq 23 (.int .i64 (((szV o.deps.length left) - (o.key.size : Int)) - (o.text.size : Int))), .eq 24 (.bool (decide (((szV o.deps.length left) - (o.key.size : Int)) - (o.text.size : Int) < 0))), .eq 1 (.int .i64 (((szV o.deps.length left) - (o.key.size : Int)) - (o.text.size : Int))), .w (Below w10.heap.size w10)] 26 [[2], [0]] [] [1, 2, 3] hM hN hD (by kernel_rfl) ⟨s1, ⟨Below.refl _ _, below_drew (Below.refl _ _)⟩, trivial⟩ ⟨fun _ _ hb h => below_step h hb, trivial⟩ (fun hgrow => ⟨fun _ _ h => rv rfl (x_move rfl h.1) rfl,
        fun _ _ h => rv rfl (x_lss rfl h.1 rfl) rfl, trivial⟩) ?_
      clear s2 s1
      clear hN hD
      rintro a11 w11 hN hD ⟨s24, s1, hGR, -⟩
      replace HB := below_step HB hGR
      replace HBX2 := blk_below HBX2 hGR
      clear hGR
      show Code.wp _ _ _ _ _
      refine wp_cond (t := decide (((szV o.deps.length left) - (o.key.size : Int)) - (o.text.size : Int) < 0)) s24 ?_
      rcases Bool.eq_false_or_eq_true (decide (((szV o.deps.length left) - (o.key.size : Int)) - (o.text.size : Int) < 0)) with cd12 | cd12
      · rw [cd12]
        show Code.wp _ _ _ _ _
        have pd12 := of_decide_eq_true cd12
        refine wp_seq ?_
        refine deedL [.eq 4 (.int .i64 (-1)), .w (Below w11.heap.size w11)] 26 [[]] [] [0, 1] hM hN hD (by kernel_rfl) ⟨⟨Below.refl _ _, below_drew (Below.refl _ _)⟩, trivial⟩ ⟨fun _ _ hb h => below_step h hb, trivial⟩ (fun hgrow => ⟨fun _ _ _ => rv rfl (x_assign rfl rfl) rfl, trivial⟩) ?_
        clear s1 s24
        clear hN hD
        rintro a13 w13 hN hD ⟨s4, hGR, -⟩
        replace HB := below_step HB hGR
        replace HBX2 := blk_below HBX2 hGR
        clear hGR
        show Code.wp _ _ _ _ _
        refine wp_ret (then_ret ?_)
        refine bodyPost_ret (results_single rfl (vtmp s4 .nil)) hD ?_
        exact ⟨by simp only [szO, cd4, cd8, cd12, if_true, if_false, Bool.false_eq_true], HB⟩
      · rw [cd12]
        show Code.wp _ _ _ _ _
        have pd12 := of_decide_eq_false cd12
        refine wp_skip ?_
        show Code.wp _ _ _ _ _
        refine wp_seq ?_
        refine deedL [.eq 25 (.int .i64 (((szV o.deps.length left) - (o.key.size : Int)) - (o.text.size : Int))), .eq 4 (.int .i64 (((szV o.deps.length left) - (o.key.size : Int)) - (o.text.size : Int))), .eq 1 (.int .i64 (((szV o.deps.length left) - (o.key.size : Int)) - (o.text.size : Int))), .w (Below w11.heap.size w11)] 26 [[2], [0]] [] [1, 2, 3] hM hN hD (by kernel_rfl) ⟨s1, ⟨Below.refl _ _, below_drew (Below.refl _ _)⟩, trivial⟩ ⟨fun _ _ hb h => below_step h hb, trivial⟩ (fun hgrow => ⟨fun _ _ h => rv rfl (x_move rfl h.1) rfl,
          fun _ _ h => rv rfl (x_assign rfl h.1) rfl, trivial⟩) ?_
        clear s1 s24
        clear hN hD
        rintro a14 w14 hN hD ⟨s4, s1, hGR, -⟩
        replace HB := below_step HB hGR
        replace HBX2 := blk_below HBX2 hGR
        clear hGR
        show Code.wp _ _ _ _ _
        refine wp_ret ?_
        refine bodyPost_ret (results_single rfl (vtmp s4 .nil)) hD ?_
        exact ⟨by simp only [szO, cd4, cd8, cd12, if_true, if_false, Bool.false_eq_true], HB⟩
theorem szO_le {o : Op} {left : Int} (hl : left ≤ 1048576) : szO o left ≤ 1048576 ∧ (0 ≤ szO o left → (o.deps.length : Int) + o.key.size + o.text.size + szO o left ≤ left) := by
  have hv := szV_le (n := o.deps.length) hl
  unfold szO
  simp only [decide_eq_true_eq]
  repeat' split
  all_goals omega
end Go.Proofs.Ytideafkiaipnoaa.Q

/- Functions walked. -/
namespace Go.Proofs.Ytideafkiaipnoaa.Q
open Go Go.RowKit Go.Proofs.YtideafkiaipnoaaW.PrintWords Go.Proofs.YtideafkiaipnoaaW.PrintLast Go.Proofs.Ytideafkiaipnoaa.Deed
set_option maxRecDepth 100000
set_option linter.unusedVariables false
set_option linter.unusedSimpArgs false
def wt (o : Op) : Int := (o.deps.length : Int) + o.key.size + o.text.size
def tot : List Op → Int
  | [] => 0
  | o :: r => wt o + tot r
theorem tot_snoc (l : List Op) (o : Op) : tot (l ++ [o]) = tot l + wt o := by
  induction l with
  | nil => simp [tot]
  | cons x r ih => simp only [List.cons_append, tot, ih]; omega
theorem tot_nn : ∀ l : List Op, 0 ≤ tot l
  | [] => by simp [tot]
  | o :: r => by have := tot_nn r; simp only [tot, wt]; omega
theorem wt_le_tot {l : List Op} {o : Op} (h : o ∈ l) : wt o ≤ tot l := by
  induction l with
  | nil => cases h
  | cons x r ih =>
    have hn := tot_nn r
    have hw : 0 ≤ wt x := by unfold wt; omega
    rcases List.mem_cons.1 h with e | e
    · subst e; simp only [tot]; omega
    · have := ih e; simp only [tot]; omega
/-- No length is past what the machine can hold. -/
def Held (os : List Op) : Prop := os.length ≤ 9223372036854775807 ∧ ∀ o ∈ os, o.deps.length ≤ 9223372036854775807 ∧ o.key.size ≤ 9223372036854775807 ∧ o.text.size ≤ 9223372036854775807
theorem Held.at_ {os : List Op} (h : Held os) {i : Int} (h0 : 0 ≤ i) (h1 : i < os.length) : (go_ os i).deps.length ≤ 9223372036854775807 ∧ (go_ os i).key.size ≤ 9223372036854775807 ∧ (go_ os i).text.size ≤ 9223372036854775807 := h.2 _ (List.mem_of_getElem? (go_of h0 h1))
set_option maxHeartbeats 2000000 in
theorem szOS_calls (A : Option Addr) (os : List Op) (D : Nat → Option Addr) (C : Nat → Nat) (c : Nat) (left : Int) (w : World) (HR : RO w A os D C) (HH : Held os) (hf0 : 0 ≤ left) (hf1 : left ≤ 1048576) : Calls Try.prog 12 #[.slice A os.length c, .int .i64 left] w fun e w' => ∃ r, e = .returned (.int .i64 r) ∧ (0 ≤ r → (os.length : Int) + tot os + r ≤ left) ∧ Below w.heap.size w w' := by
  refine calls_of_wp Try.func12 rfl ?_
  refine enter_ (N := 27) rfl ?_
  rintro a0 hN hD ⟨s0, s1, -⟩
  have HB : Below w.heap.size w w := Below.refl _ _
  refine wp_seq ?_
  refine deedL [.eq 4 (.int .i64 0), .eq 0 (.slice A os.length c), .eq 1 (.int .i64 left), .w (Below w.heap.size w)] 27 [[]] [] [1, 2, 3] hM hN hD (by kernel_rfl) ⟨s0, s1, ⟨Below.refl _ _, below_drew (Below.refl _ _)⟩, trivial⟩ ⟨fun _ _ hb h => below_step h hb, trivial⟩ (fun hgrow => ⟨fun _ _ _ => rv rfl (x_assign rfl rfl) rfl, trivial⟩) ?_
  clear s0 s1
  clear hN hD
  rintro a1 w1 hN hD ⟨s0, s1, hGR, -⟩
  replace HB := below_step HB hGR
  clear hGR
  show Code.wp _ _ _ _ _
  refine wp_seq ?_
  have hh1 := HH.1
  refine deedL [.eq 6 (.int .i64 left), .eq 7 (.slice A os.length c), .eq 8 (.int .i64 (os.length : Int)), .eq 9 (.int .i64 (left - (os.length : Int))), .eq 1 (.int .i64 (left - (os.length : Int))), .eq 0 (.slice A os.length c), .eq 1 (.int .i64 left), .w (Below w1.heap.size w1)] 27 [[6], [5], [1], [0, 2], [3]] [[], [], [], [], [6]] [4, 5, 7] hM hN hD (by kernel_rfl) ⟨s0, s1, ⟨Below.refl _ _, below_drew (Below.refl _ _)⟩, trivial⟩ ⟨fun _ _ hb h => below_step h hb, trivial⟩ (fun hgrow => ⟨fun _ _ h => rv rfl (x_move rfl h.1) rfl,
    fun _ _ h => rv rfl (x_move rfl h.1) rfl,
    fun _ _ h => rv rfl (x_len_slice rfl Try.underlying22 h.1) rfl,
    fun _ _ h => rv rfl (x_sub' rfl h.1 h.2.1 (by omega)) rfl,
    fun _ _ h => rv rfl (x_assign rfl h.1) rfl, trivial⟩) ?_
  clear s0 s1
  clear hN hD
  rintro a2 w2 hN hD ⟨s1, s0, hGR, -⟩
  replace HB := below_step HB hGR
  clear hGR
  show Code.wp _ _ _ _ _
  refine wp_seq ?_
  refine wp_seq ?_
  refine deedL [.eq 10 (.int .i64 (left - (os.length : Int))), .eq 11 (.bool (decide (left - (os.length : Int) < 0))), .eq 0 (.slice A os.length c), .eq 1 (.int .i64 (left - (os.length : Int))), .w (Below w2.heap.size w2)] 27 [[3], [0]] [] [1, 2, 3, 4] hM hN hD (by kernel_rfl) ⟨s0, s1, ⟨Below.refl _ _, below_drew (Below.refl _ _)⟩, trivial⟩ ⟨fun _ _ hb h => below_step h hb, trivial⟩ (fun hgrow => ⟨fun _ _ h => rv rfl (x_move rfl h.1) rfl,
    fun _ _ h => rv rfl (x_lss rfl h.1 rfl) rfl, trivial⟩) ?_
  clear s0 s1
  clear hN hD
  rintro a3 w3 hN hD ⟨s11, s0, s1, hGR, -⟩
  replace HB := below_step HB hGR
  clear hGR
  show Code.wp _ _ _ _ _
  refine wp_cond (t := decide (left - (os.length : Int) < 0)) s11 ?_
  rcases Bool.eq_false_or_eq_true (decide (left - (os.length : Int) < 0)) with cd4 | cd4
  · rw [cd4]
    show Code.wp _ _ _ _ _
    have pd4 := of_decide_eq_true cd4
    refine wp_seq ?_
    refine deedL [.eq 4 (.int .i64 (-1)), .w (Below w3.heap.size w3)] 27 [[]] [] [0, 1] hM hN hD (by kernel_rfl) ⟨⟨Below.refl _ _, below_drew (Below.refl _ _)⟩, trivial⟩ ⟨fun _ _ hb h => below_step h hb, trivial⟩ (fun hgrow => ⟨fun _ _ _ => rv rfl (x_assign rfl rfl) rfl, trivial⟩) ?_
    clear s0 s1 s11
    clear hN hD
    rintro a5 w5 hN hD ⟨s4, hGR, -⟩
    replace HB := below_step HB hGR
    clear hGR
    show Code.wp _ _ _ _ _
    refine wp_ret (then_ret ?_)
    refine bodyPost_ret (results_single rfl (vtmp s4 .nil)) hD ?_
    exact ⟨-1, rfl, fun h => by omega, HB⟩
  · rw [cd4]
    show Code.wp _ _ _ _ _
    have pd4 := of_decide_eq_false cd4
    refine wp_skip ?_
    show Code.wp _ _ _ _ _
    refine wp_seq ?_
    refine wp_seq ?_
    refine deedL [.eq 5 (.int .i64 0), .eq 0 (.slice A os.length c), .eq 1 (.int .i64 (left - (os.length : Int))), .w (Below w3.heap.size w3)] 27 [[]] [] [0, 1, 2, 3] hM hN hD (by kernel_rfl) ⟨s0, s1, ⟨Below.refl _ _, below_drew (Below.refl _ _)⟩, trivial⟩ ⟨fun _ _ hb h => below_step h hb, trivial⟩ (fun hgrow => ⟨fun _ _ _ => rv rfl (x_assign rfl rfl) rfl, trivial⟩) ?_
    clear s0 s1 s11
    clear hN hD
    rintro a6 w6 hN hD ⟨s5, s0, s1, hGR, -⟩
    replace HB := below_step HB hGR
    clear hGR
    show Code.wp _ _ _ _ _
    refine wp_block ?_
    refine wp_loopN (fun n_ q_ w_ => ∃ (i : Int) (l : Int), (q_.tmps.size = 27) ∧ (q_.defers = []) ∧ (sl q_ 0 = .slice A os.length c) ∧ (sl q_ 1 = .int .i64 l) ∧ (sl q_ 5 = .int .i64 i) ∧ (Below w.heap.size w w_) ∧ (0 ≤ i) ∧ (i ≤ os.length) ∧ (0 ≤ l) ∧ ((os.length : Int) + tot (os.take i.toNat) + l ≤ left) ∧ (n_ = (os.length - i).toNat)) ((fun (i : Int) (l : Int) => (os.length - i).toNat) 0 (left - os.length)) ?_ ?_
    · exact ⟨0, (left - os.length), hN, hD, s0, s1, s5, HB, (by omega), (by omega), (by omega), (by show (os.length : Int) + 0 + (left - os.length) ≤ left; omega), rfl⟩
    clear s0 s1 s5 HB hN hD
    rintro n_7 a7 w7 ⟨i, l, hN, hD, s0, s1, s5, HB, hi0, hi1, hl0, hl, hmeas⟩
    refine wp_seq ?_
    refine wp_seq ?_
    refine deedL [.eq 12 (.int .i64 i), .eq 13 (.slice A os.length c), .eq 14 (.int .i64 (os.length : Int)), .eq 15 (.bool (decide (i < (os.length : Int)))), .eq 0 (.slice A os.length c), .eq 1 (.int .i64 l), .eq 5 (.int .i64 i), .w (Below w7.heap.size w7)] 27 [[6], [4], [1], [0, 2]] [] [3, 4, 5, 6, 7] hM hN hD (by kernel_rfl) ⟨s0, s1, s5, ⟨Below.refl _ _, below_drew (Below.refl _ _)⟩, trivial⟩ ⟨fun _ _ hb h => below_step h hb, trivial⟩ (fun hgrow => ⟨fun _ _ h => rv rfl (x_move rfl h.1) rfl,
      fun _ _ h => rv rfl (x_move rfl h.1) rfl,
      fun _ _ h => rv rfl (x_len_slice rfl Try.underlying22 h.1) rfl,
      fun _ _ h => rv rfl (x_lss rfl h.1 h.2.1) rfl, trivial⟩) ?_
    clear s0 s1 s5
    clear hN hD
    rintro a8 w8 hN hD ⟨s15, s0, s1, s5, hGR, -⟩
    replace HB := below_step HB hGR
    clear hGR
    show Code.wp _ _ _ _ _
    refine wp_cond (t := decide (i < (os.length : Int))) s15 ?_
    rcases Bool.eq_false_or_eq_true (decide (i < (os.length : Int))) with cd9 | cd9
    · rw [cd9]
      show Code.wp _ _ _ _ _
      have pd9 := of_decide_eq_true cd9
      have hi2 := pd9
      refine wp_skip ?_
      show Code.wp _ _ _ _ _
      refine wp_seq ?_
      refine wp_block ?_
      refine wp_seq ?_
      have hh := HH.at_ hi0 hi2
      have hnn := tot_nn (os.take i.toNat)
      have hz := szO_le (o := go_ os i) (left := l) (by omega)
      refine deedL [.eq 18 (.slice A os.length c), .eq 19 (.int .i64 i), .eq 20 (.pointer (some ((adr A).add (i.toNat * 12)))), .eq 21 (.agg (opc (go_ os i) (D i.toNat) (C i.toNat)).toArray), .eq 22 (.int .i64 l), .eq 23 (.int .i64 (szO (go_ os i) l)), .eq 1 (.int .i64 (szO (go_ os i) l)), .eq 0 (.slice A os.length c), .eq 1 (.int .i64 l), .eq 5 (.int .i64 i), .w (Below w8.heap.size w8)] 27 [[7], [9], [0, 1], [2, 10], [8], [3, 4], [5]] [[], [], [], [], [], [], [8]] [6, 7, 9, 10] hM hN hD (by kernel_rfl) ⟨s0, s1, s5, ⟨Below.refl _ _, below_drew (Below.refl _ _)⟩, trivial⟩ ⟨fun _ _ hb h => below_step h hb, trivial⟩ (fun hgrow => ⟨fun _ _ h => rv rfl (x_move rfl h.1) rfl,
        fun _ _ h => rv rfl (x_move rfl h.1) rfl,
        fun _ _ h => rv rfl (x_index_at rfl h.1 h.2.1 Try.underlying22 sz63 (by omega) (by omega) (RO.ad HR i (by omega) (by omega))) rfl,
        fun _ _ h => rv rfl (x_loadS rfl h.1 Try.underlying63 (opc (go_ os i) (D i.toNat) (C i.toNat)) sz63 (RO.cells HR (below_step HB h.2.1) (by omega) (by omega))) rfl,
        fun _ _ h => rv rfl (x_move rfl h.1) rfl,
        fun _ _ h => rc hgrow rfl Try.func46 (by kernel_rfl) rfl rfl (args2 h.1 h.2.1) (szO_calls (go_ os i) l _ (D i.toNat) (C i.toNat) hl0 (by omega) hh.1 hh.2.1 hh.2.2) (fun _ _ h => ⟨_, h.1, h.2, rfl⟩),
        fun _ _ h => rv rfl (x_assign rfl h.1) rfl, trivial⟩) ?_
      clear s0 s1 s5 s15
      clear hN hD
      rintro a10 w10 hN hD ⟨s1, s0, s5, hGR, -⟩
      replace HB := below_step HB hGR
      clear hGR
      show Code.wp _ _ _ _ _
      refine wp_seq ?_
      refine deedL [.eq 24 (.int .i64 (szO (go_ os i) l)), .eq 25 (.bool (decide (szO (go_ os i) l < 0))), .eq 0 (.slice A os.length c), .eq 1 (.int .i64 (szO (go_ os i) l)), .eq 5 (.int .i64 i), .w (Below w10.heap.size w10)] 27 [[3], [0]] [] [1, 2, 3, 4, 5] hM hN hD (by kernel_rfl) ⟨s0, s1, s5, ⟨Below.refl _ _, below_drew (Below.refl _ _)⟩, trivial⟩ ⟨fun _ _ hb h => below_step h hb, trivial⟩ (fun hgrow => ⟨fun _ _ h => rv rfl (x_move rfl h.1) rfl,
        fun _ _ h => rv rfl (x_lss rfl h.1 rfl) rfl, trivial⟩) ?_
      clear s0 s5 s1
      clear hN hD
      rintro a11 w11 hN hD ⟨s25, s0, s1, s5, hGR, -⟩
      replace HB := below_step HB hGR
      clear hGR
      show Code.wp _ _ _ _ _
      refine wp_cond (t := decide (szO (go_ os i) l < 0)) s25 ?_
      rcases Bool.eq_false_or_eq_true (decide (szO (go_ os i) l < 0)) with cd12 | cd12
      · rw [cd12]
        show Code.wp _ _ _ _ _
        have pd12 := of_decide_eq_true cd12
        refine wp_seq ?_
        refine deedL [.eq 4 (.int .i64 (-1)), .w (Below w11.heap.size w11)] 27 [[]] [] [0, 1] hM hN hD (by kernel_rfl) ⟨⟨Below.refl _ _, below_drew (Below.refl _ _)⟩, trivial⟩ ⟨fun _ _ hb h => below_step h hb, trivial⟩ (fun hgrow => ⟨fun _ _ _ => rv rfl (x_assign rfl rfl) rfl, trivial⟩) ?_
        clear s0 s1 s5 s25
        clear hN hD
        rintro a13 w13 hN hD ⟨s4, hGR, -⟩
        replace HB := below_step HB hGR
        clear hGR
        show Code.wp _ _ _ _ _
        refine wp_ret (blk_ret (then_ret (then_ret (blk_ret (then_ret ?_)))))
        refine bodyPost_ret (results_single rfl (vtmp s4 .nil)) hD ?_
        exact ⟨-1, rfl, fun h => by omega, HB⟩
      · rw [cd12]
        show Code.wp _ _ _ _ _
        have pd12 := of_decide_eq_false cd12
        refine wp_skip ?_
        show Code.wp _ _ _ _ _
        refine deedL [.eq 16 (.int .i64 i), .eq 17 (.int .i64 (i + 1)), .eq 5 (.int .i64 (i + 1)), .eq 0 (.slice A os.length c), .eq 1 (.int .i64 (szO (go_ os i) l)), .eq 5 (.int .i64 i), .w (Below w11.heap.size w11)] 27 [[5], [0], [1]] [[], [], [5]] [2, 3, 4, 6] hM hN hD (by kernel_rfl) ⟨s0, s1, s5, ⟨Below.refl _ _, below_drew (Below.refl _ _)⟩, trivial⟩ ⟨fun _ _ hb h => below_step h hb, trivial⟩ (fun hgrow => ⟨fun _ _ h => rv rfl (x_move rfl h.1) rfl,
          fun _ _ h => rv rfl (x_add' rfl h.1 rfl (by omega)) rfl,
          fun _ _ h => rv rfl (x_assign rfl h.1) rfl, trivial⟩) ?_
        clear s0 s1 s5 s25
        clear hN hD
        rintro a14 w14 hN hD ⟨s5, s0, s1, hGR, -⟩
        replace HB := below_step HB hGR
        clear hGR
        show ∃ m, m < n_7 ∧ _
        exact ⟨_, (by omega), ⟨(i + 1), (szO (go_ os i) l), hN, hD, s0, s1, s5, HB, (by omega), (by omega), (by omega), (by rw [take_snoc hi0 hi2, tot_snoc]; unfold wt; omega), rfl⟩⟩
    · rw [cd9]
      show Code.wp _ _ _ _ _
      have pd9 := of_decide_eq_false cd9
      refine wp_exit (then_exit (then_exit (at_exit ?_)))
      show Code.wp _ _ _ _ _
      refine wp_seq ?_
      refine deedL [.eq 26 (.int .i64 l), .eq 4 (.int .i64 l), .eq 1 (.int .i64 l), .w (Below w8.heap.size w8)] 27 [[2], [0]] [] [1, 2, 3] hM hN hD (by kernel_rfl) ⟨s1, ⟨Below.refl _ _, below_drew (Below.refl _ _)⟩, trivial⟩ ⟨fun _ _ hb h => below_step h hb, trivial⟩ (fun hgrow => ⟨fun _ _ h => rv rfl (x_move rfl h.1) rfl,
        fun _ _ h => rv rfl (x_assign rfl h.1) rfl, trivial⟩) ?_
      clear s0 s1 s5 s15
      clear hN hD
      rintro a15 w15 hN hD ⟨s4, s1, hGR, -⟩
      replace HB := below_step HB hGR
      clear hGR
      show Code.wp _ _ _ _ _
      refine wp_ret ?_
      refine bodyPost_ret (results_single rfl (vtmp s4 .nil)) hD ?_
      exact ⟨_, rfl, fun _ => (by rw [show i.toNat = os.length by omega, List.take_length] at hl; exact hl), HB⟩
end Go.Proofs.Ytideafkiaipnoaa.Q

/- What the law asks of a log: its size, its marks. -/
namespace Go.Proofs.Ytideafkiaipnoaa.Q
set_option linter.unusedVariables false
set_option linter.unusedSimpArgs false
open Go Go.RowKit Go.Proofs.YtideafkiaipnoaaW.PrintWords Go.Proofs.Ytideafkiaipnoaa.Deed
theorem szOpS_L (A : Option Addr) (ys : List LO) (c : Nat) (left : Int) (w : World) (HR : RV eLO w A ys) (HC : Caps ys) (HH : Held (ys.map LO.o)) (h0 : 0 ≤ left) (h1 : left ≤ 1048576) :
    Calls Try.prog 12 #[.slice A ys.length c, .int .i64 left] w fun e w' => ∃ r, e = .returned (.int .i64 r) ∧ (0 ≤ r → (ys.length : Int) + tot (ys.map LO.o) + r ≤ left) ∧ Below w.heap.size w w' := by
  have := szOS_calls A (ys.map LO.o) (dA ys) (dC ys) c left w (RO_of HR HC) HH h0 h1
  rwa [List.length_map] at this
theorem dep_le {ys : List LO} {n : Int} (h : tot (ys.map LO.o) ≤ n) : ∀ x ∈ ys, (x.o.deps.length : Int) ≤ n := by
  intro x hx
  have := wt_le_tot (List.mem_map_of_mem (f := LO.o) hx)
  unfold wt at this
  omega
theorem dep_le' {ys : List LO} {n : Nat} (h : tot (ys.map LO.o) ≤ n) : ∀ x ∈ ys, x.o.deps.length ≤ n := fun x hx => by have := dep_le h x hx; omega
theorem cnt_tot (ys : List LO) : cntL mLO ys ≤ 11 * ys.length + tot (ys.map LO.o) := by
  induction ys with
  | nil => simp [cntL, tot]
  | cons x r ih =>
    have h1 : mLO.cnt x = 11 + (x.o.deps.length : Int) := rfl
    simp only [cntL, List.map_cons, tot, List.length_cons, wt, h1]
    omega
theorem len_of {ys ls : List LO} (h : ys.map LO.o = ls.map LO.o) : ys.length = ls.length := by simpa using congrArg List.length h
theorem len_of' {ys : List LO} {os : List Op} (h : ys.map LO.o = os) : ys.length = os.length := by rw [← h, List.length_map]
theorem toOpS_L (A : Option Addr) (xs : List LO) (c : Nat) (w : World) (HR : RV eLO w A xs) (hxn : xs.length ≤ 1048576) (hdl : ∀ x ∈ xs, x.o.deps.length ≤ 1048576) :
    Calls Try.prog 14 #[.slice A xs.length c] w fun e w' => ∃ A c ys, e = .returned (.slice A (xs.map LO.o).length c) ∧ OwnAt eLO w' A ys w.heap.size w'.heap.size ∧ ys.map LO.o = xs.map LO.o ∧ Caps ys ∧ Below w.heap.size w w' := by
  refine (toseLO_calls A xs c w HR hxn hdl).mono ?_
  rintro e w' ⟨A', c', ys, rfl, _, h1, h2, h3, hb⟩
  exact ⟨A', c', ys, by rw [len_of' h2], h1, h2, h3, hb⟩
theorem eqOpS_L (A : Option Addr) (xs : List LO) (c : Nat) (os : List Op) (E : Option Addr) (ys : List LO) (d : Nat) (ps : List Op) (w : World) (h1 : xs.map LO.o = os) (h2 : ys.map LO.o = ps) (HR1 : RV eLO w A xs) (HR2 : RV eLO w E ys) (hxn : os.length ≤ 1099511627776) (hn : ∀ o ∈ os, o.deps.length ≤ 1099511627776) :
    Calls Try.prog 17 #[.slice A os.length c, .slice E ps.length d] w fun e w' => e = .returned (.bool (eqB os ps)) ∧ Below w.heap.size w w' := by
  subst h1 h2
  have := eqseLO_calls A xs c E ys d w HR1 HR2 (by rwa [List.length_map] at hxn) (fun x hx => hn _ (List.mem_map_of_mem hx))
  rw [List.length_map, List.length_map]
  exact this
theorem markOpS_L (A : Option Addr) (xs : List LO) (c : Nat) (os : List Op) (k : Int) (lo hi : Nat) (w : World) (h1 : xs.map LO.o = os) (HOW : OwnAt eLO w A xs lo hi) (hk0 : 0 ≤ k) (hk1 : k + cntL mLO xs ≤ 4503599627370496) (hxn : os.length ≤ 1099511627776) :
    Calls Try.prog 18 #[.slice A os.length c, .int .i64 k] w fun e w' => e = .returned (.int .i64 (k + cntL mLO xs)) ∧ OwnAt eLO w' A (mkL mLO xs k) lo hi ∧ Kx (Mine lo hi) w w' := by
  subst h1
  rw [List.length_map] at hxn ⊢
  exact markeLO_calls A xs c k lo hi w HOW hk0 hk1 hxn
theorem markI_L (A : Option Addr) (xs : List Int) (c : Nat) (k : Int) (lo hi : Nat) (w : World) (HOW : OwnI w A xs lo hi) (hk0 : 0 ≤ k) (hk1 : k + xs.length ≤ 4503599627370496) :
    Calls Try.prog 19 #[.slice A xs.length c, .int .i64 k] w fun e w' => e = .returned (.int .i64 (k + xs.length)) ∧ OwnI w' A (mk k xs.length) lo hi ∧ Kx (Mine lo hi) w w' := by
  by_cases hne : xs = []
  · subst hne
    refine (markI_calls w.heap.size A 0 c k w (.inl rfl) hk0 hk1).mono ?_
    rintro e w' ⟨h1, _, h3⟩
    exact ⟨h1, .inl rfl, ⟨h3.os, h3.tape, h3.output, h3.size, fun j hj _ => h3.block j hj (by omega)⟩⟩
  · obtain ⟨g, hB, hlo, hhi, hWI⟩ := HOW.WI hne
    refine (markI_calls g A xs.length c k w hWI hk0 hk1).mono ?_
    rintro e w' ⟨h1, h2, h3⟩
    exact ⟨h1, h2.own hlo hhi, kx_wide h3 fun j e => by subst e; exact ⟨hlo, hhi⟩⟩
theorem cnt_mkL (ys : List LO) : ∀ k : Int, cntL mLO (mkL mLO ys k) = cntL mLO ys := by
  induction ys with
  | nil => intro k; rfl
  | cons x r ih => intro k; simp only [mkL, cntL, ih, mLO.same]
theorem heldOpS_L (A : Option Addr) (v : List LO) (c : Nat) (os : List Op) (k : Int) (w : World) (hm : v.map LO.o = os) (HR : RV eLO w A (mkL mLO v k)) (hk0 : 0 ≤ k) (hk1 : k + cntL mLO v ≤ 4503599627370496) (hxn : os.length ≤ 1099511627776) :
    Calls Try.prog 29 #[.slice A os.length c, .int .i64 k] w fun e w' => e = .returned (.int .i64 (k + cntL mLO v)) ∧ Below w.heap.size w w' := by
  subst hm
  rw [List.length_map] at hxn ⊢
  have := heldeLO_calls A (mkL mLO v k) c k w HR hk0 (by rwa [cnt_mkL]) (by rwa [mkL_length])
  rwa [mkL_length, held_mk] at this
end Go.Proofs.Ytideafkiaipnoaa.Q

/- What a vector does not count: plain. -/
namespace Go.Proofs.Ytideafkiaipnoaa.Q
set_option linter.unusedVariables false
set_option linter.unusedSimpArgs false
open Go Go.RowKit Go.Proofs.YtideafkiaipnoaaW.PrintWords Go.Proofs.Ytideafkiaipnoaa.Deed
/-- What a vector does not count. -/
def since (os : List Op) (xs : List Int) : List Op := os.filter fun o => decide (gi xs o.actor < o.seq)
theorem since_le (os : List Op) (xs : List Int) : (since os xs).length ≤ os.length := List.length_filter_le _ _
theorem since_t {os : List Op} {xs : List Int} {i : Int} (h0 : 0 ≤ i) (h1 : i < os.length) (h : decide (gi xs (go_ os i).actor < (go_ os i).seq) = true) : since (os.take (i + 1).toNat) xs = since (os.take i.toNat) xs ++ [go_ os i] := by
  rw [show (i + 1).toNat = i.toNat + 1 by omega, List.take_add_one, go_of h0 h1]
  have h' := of_decide_eq_true h
  simp [since, h']
theorem since_f {os : List Op} {xs : List Int} {i : Int} (h0 : 0 ≤ i) (h1 : i < os.length) (h : decide (gi xs (go_ os i).actor < (go_ os i).seq) = false) : since (os.take (i + 1).toNat) xs = since (os.take i.toNat) xs := by
  rw [show (i + 1).toNat = i.toNat + 1 by omega, List.take_add_one, go_of h0 h1]
  have h' := of_decide_eq_false h
  simp [since, h']
/-- LogSince's answer. -/
noncomputable def sSince (os : List Op) (xs : List Int) : List Op := if sLogOK os = true ∧ vecOK xs = true then since os xs else []
def upA (os : List Op) (xs : List Int) (n : Nat) : List Op := (List.range n).flatMap fun (b : Nat) => since (oa os (b : Int)) xs
theorem upA_step {os : List Op} {xs : List Int} {a : Int} (h0 : 0 ≤ a) : upA os xs (a + 1).toNat = upA os xs a.toNat ++ since (oa os a) xs := by
  have e : ((a.toNat : Nat) : Int) = a := by omega
  rw [show (a + 1).toNat = a.toNat + 1 by omega]
  simp only [upA, List.range_succ, List.flatMap_append, List.flatMap_cons, List.flatMap_nil, List.append_nil, e]
theorem flat_upto {os : List Op} (h : os.Pairwise fun x y => x.actor ≤ y.actor) (h0 : ∀ o ∈ os, 0 ≤ o.actor) (n : Nat) : (List.range n).flatMap (fun (b : Nat) => oa os (b : Int)) = os.filter fun o => decide (o.actor < (n : Int)) := by
  induction n with
  | zero =>
    rw [List.range_zero, List.flatMap_nil, eq_comm, List.filter_eq_nil_iff]
    intro o ho
    have := h0 o ho
    simp; omega
  | succ n ih =>
    rw [List.range_succ, List.flatMap_append, ih, List.flatMap_cons, List.flatMap_nil, List.append_nil]
    have h1 := split_at h (n : Int)
    have h2 : os.filter (fun o => decide (o.actor < ((n + 1 : Nat) : Int))) = (os.filter (fun o => decide (o.actor < (n : Int))) ++ (os.filter (fun o => o.actor == (n : Int)) ++ os.filter (fun o => decide ((n : Int) < o.actor)))).filter (fun o => decide (o.actor < ((n + 1 : Nat) : Int))) := by rw [← h1]
    rw [h2, List.filter_append, List.filter_append, List.filter_filter, List.filter_filter, List.filter_filter]
    have e1 : os.filter (fun o => decide (o.actor < ((n + 1 : Nat) : Int)) && decide (o.actor < (n : Int))) = os.filter (fun o => decide (o.actor < (n : Int))) := by
      apply List.filter_congr; intro o _; simp; omega
    have e2 : os.filter (fun o => decide (o.actor < ((n + 1 : Nat) : Int)) && (o.actor == (n : Int))) = os.filter (fun o => o.actor == (n : Int)) := by
      apply List.filter_congr; intro o _
      by_cases e : o.actor = (n : Int)
      · simp [e]; omega
      · simp [e]
    have e3 : os.filter (fun o => decide (o.actor < ((n + 1 : Nat) : Int)) && decide ((n : Int) < o.actor)) = [] := by
      rw [List.filter_eq_nil_iff]; intro o _; simp; omega
    rw [e1, e2, e3, List.append_nil]
    rfl
theorem flat_all {os : List Op} (hf : Fit os) : (List.range 16).flatMap (fun (b : Nat) => oa os (b : Int)) = os := by
  rw [flat_upto hf.steps.sorted.pair (fun o ho => (hf.fine ho).a0) 16, List.filter_eq_self]
  intro o ho
  have := (hf.fine ho).a1
  simp; omega
theorem upA_all {os : List Op} {xs : List Int} (hf : Fit os) : upA os xs 16 = since os xs := by
  conv => rhs; rw [← flat_all hf]
  unfold upA since
  rw [List.filter_flatMap]
theorem gd_go (ls : List LO) (i : Int) : (gd ls i).o = go_ (ls.map LO.o) i := by
  unfold gd go_
  rw [List.getD_eq_getElem?_getD, List.getD_eq_getElem?_getD, List.getElem?_map]
  cases ls[i.toNat]? <;> rfl
theorem oa_actor {os : List Op} {a i : Int} (h0 : 0 ≤ i) (h1 : i < (oa os a).length) : (go_ (oa os a) i).actor = a := by
  have h2 := (List.mem_filter.1 (List.mem_of_getElem? (go_of h0 h1))).2
  exact beq_iff_eq.1 h2
theorem oa_mem {os : List Op} {a i : Int} (h0 : 0 ≤ i) (h1 : i < (oa os a).length) : go_ (oa os a) i ∈ os := (List.mem_filter.1 (List.mem_of_getElem? (go_of h0 h1))).1
theorem upA_le {os : List Op} {xs : List Int} (n : Nat) : (upA os xs n).length ≤ n * os.length := by
  induction n with
  | zero => simp [upA]
  | succ n ih =>
    simp only [upA, List.range_succ, List.flatMap_append, List.flatMap_cons, List.flatMap_nil, List.append_nil, List.length_append]
    have h1 := since_le (oa os (n : Int)) xs
    have h2 := oa_le os (n : Int)
    have h3 : (upA os xs n).length = ((List.range n).flatMap fun (b : Nat) => since (oa os (b : Int)) xs).length := rfl
    rw [Nat.succ_mul]
    omega
end Go.Proofs.Ytideafkiaipnoaa.Q

/- Functions walked. -/
namespace Go.Proofs.Ytideafkiaipnoaa.Q
open Go Go.RowKit Go.Proofs.YtideafkiaipnoaaW.PrintWords Go.Proofs.YtideafkiaipnoaaW.PrintLast Go.Proofs.Ytideafkiaipnoaa.Deed
set_option maxRecDepth 100000
set_option linter.unusedVariables false
set_option linter.unusedSimpArgs false
set_option maxHeartbeats 2000000 in
theorem sSince_calls (A : Option Addr) (os : List Op) (D : Nat → Option Addr) (C : Nat → Nat) (c : Nat) (E : Option Addr) (xs : List Int) (d : Nat) (w : World) (HR : RO w A os D C) (HV : RI w E xs) : Calls Try.prog 24 #[.slice A os.length c, .agg #[Value.slice E xs.length d]] w fun e w' => ∃ A' c' ys, e = .returned (.tuple #[.slice A' (sSince os xs).length c', .int .i64 (if sLogOK os = true ∧ vecOK xs = true then 0 else 1)]) ∧ OwnAt eLO w' A' ys w.heap.size w'.heap.size ∧ ys.map LO.o = sSince os xs ∧ Below w.heap.size w w' := by
  refine calls_of_wp Try.func24 rfl ?_
  refine enter_ (N := 48) rfl ?_
  rintro a0 hN hD ⟨s0, s1, -⟩
  have HB : Below w.heap.size w w := Below.refl _ _
  refine wp_seq ?_
  refine deedL [.s1 3 (NewB w.heap.size [.slice E xs.length d] 41), .eq 4 (.slice none 0 0), .eq 5 (.int .i64 0), .eq 0 (.slice A os.length c), .eq 1 (.agg #[Value.slice E xs.length d]), .w (Below w.heap.size w)] 48 [[5, 4], [], []] [] [0, 3, 4, 5] hM hN hD (by kernel_rfl) ⟨s0, s1, ⟨Below.refl _ _, below_drew (Below.refl _ _)⟩, trivial⟩ ⟨fun _ _ _ hb h => h.grow hb, fun _ _ hb h => below_step h hb, trivial⟩ (fun hgrow => ⟨fun _ _ h => rbox hgrow rfl (x_box rfl h.2.1) h.1.size (fun _ _ z => z),
    fun _ _ _ => rv rfl (x_assign rfl rfl) rfl,
    fun _ _ _ => rv rfl (x_assign rfl rfl) rfl, trivial⟩) ?_
  clear s0 s1
  clear hN hD
  rintro a1 w1 hN hD ⟨⟨g3, s3, lg3, HBX3⟩, s0, s1, hGR, -⟩
  replace HB := below_step HB hGR
  clear hGR
  show Code.wp _ _ _ _ _
  refine wp_seq ?_
  refine wp_seq ?_
  refine deedL [.eq 8 (.slice A os.length c), .eq 9 (.bool (sLogOK os)), .eq 10 (.bool (!(sLogOK os))), .eq 11 (.bool (!(sLogOK os))), .gv (((!(sLogOK os)) == false)) 12 (.agg #[Value.slice E xs.length d]), .gv (((!(sLogOK os)) == false)) 13 (.bool (vecOK xs)), .gv (((!(sLogOK os)) == false)) 14 (.bool (!(vecOK xs))), .eq 15 (.bool ((!(sLogOK os)) || (!(vecOK xs)))), .eq 0 (.slice A os.length c), .eq 3 (.pointer (some ⟨g3, 0, none⟩)), .w (Below w1.heap.size w1)] 48 [[8], [0, 10], [1], [2], [3, 9, 10], [3, 4, 10], [3, 5], [3, 6]] [] [7, 8, 9, 10] hM hN hD (by kernel_rfl) ⟨s0, s3, ⟨Below.refl _ _, below_drew (Below.refl _ _)⟩, trivial⟩ ⟨fun _ _ hb h => below_step h hb, trivial⟩ (fun hgrow => ⟨fun _ _ h => rv rfl (x_move rfl h.1) rfl,
    fun _ _ h => rc hgrow rfl Try.func47 (by kernel_rfl) rfl rfl (args1 h.1) (sLog_calls A os D C c _ (RO.below HR (below_step HB h.2.1))) (fun _ _ h => ⟨_, h.1, h.2, rfl⟩),
    fun _ _ h => rv rfl (x_not rfl h.1) rfl,
    fun _ _ h => rv rfl (x_move rfl h.1) rfl,
    fun _ _ h => rb rfl rfl h.1 (fun hgt => x_loadS rfl h.2.1 Try.underlying41 [.slice E xs.length d] sz41 (blk_list (L := [.slice E xs.length d]) (blk_below HBX3 h.2.2.1) 0 rfl)) (fun _ z => z),
    fun _ _ h => rcb hgrow rfl rfl h.1 Try.func57 (by kernel_rfl) rfl rfl (fun hgt => args1 (h.2.1.1 hgt)) (fun hgt => sVecOK_calls E xs d _ (RI.below HV (below_step HB h.2.2.1))) (fun _ _ _ h => h) (fun _ _ z => z),
    fun _ _ h => rb rfl rfl h.1 (fun hgt => x_not rfl (h.2.1.1 hgt)) (fun _ z => z),
    fun _ _ h => rv rfl (x_or rfl rfl h.1 (fun hc => h.2.1.1 (beq_iff_eq.2 hc))) rfl, trivial⟩) ?_
  clear s0 s1 s3
  clear hN hD
  rintro a2 w2 hN hD ⟨s15, s0, s3, hGR, -⟩
  replace HB := below_step HB hGR
  replace HBX3 := blk_below HBX3 hGR
  clear hGR
  show Code.wp _ _ _ _ _
  refine wp_cond (t := (!(sLogOK os)) || (!(vecOK xs))) s15 ?_
  rcases Bool.eq_false_or_eq_true ((!(sLogOK os)) || (!(vecOK xs))) with cd3 | cd3
  · rw [cd3]
    show Code.wp _ _ _ _ _
    refine wp_seq ?_
    refine deedL [.s1 16 fun x_ W => ∃ (v16 : Value), x_ = v16 ∧ OwnRow RL 67 12 W 0 v16 [] ∧ Above w2.heap.size v16, .s2 16 4 fun x_ y_ _ => ∃ (v16 : Value), x_ = v16 ∧ y_ = v16, .eq 5 (.int .i64 1), .w (Below w2.heap.size w2)] 48 [[3], [0], []] [] [2, 0, 1, 3] hM hN hD (by kernel_rfl) ⟨⟨Below.refl _ _, below_drew (Below.refl _ _)⟩, trivial⟩ ⟨fun _ _ _ hb h => by obtain ⟨v16, e_, h1_, h2_⟩ := h; exact ⟨v16, e_, h1_.below hb, h2_⟩, fun _ _ _ _ hb h => h, fun _ _ hb h => below_step h hb, trivial⟩ (fun hgrow => ⟨fun _ _ h => rbuild0 hgrow rfl rfl Try.underlying27 sz67 h.1.size (fun y_ _ u_ v_ => ⟨y_, rfl, u_, v_⟩),
      ?_,
      fun _ _ _ => rv rfl (x_assign rfl rfl) rfl, trivial⟩) ?_
    · rintro a_ W ⟨h0, -⟩
      obtain ⟨v16, e0, ho0, hb0⟩ := h0
      exact rv rfl (x_assign rfl e0) ⟨_, e0, rfl⟩
    clear s0 s3 s15
    clear hN hD
    rintro a4 w4 hN hD ⟨s5, ⟨v16, s16, HOV, bv16⟩, q4, hGR, -⟩
    obtain ⟨v16_, e_, s4⟩ := q4
    cases s16.symm.trans e_
    replace bv16 := Above.le bv16 HB.size
    replace HB := below_step HB hGR
    replace HBX3 := blk_below HBX3 hGR
    clear hGR
    show Code.wp _ _ _ _ _
    refine wp_ret (then_ret ?_)
    refine bodyPost_ret (fn := Try.f24) (results_list (rs := [.tmp 4, .tmp 5]) (vs := [v16, .int .i64 1]) rfl (by simp) (vtmp s4 (vtmp s5 .nil))) hD ?_
    have hb9 : ¬ (sLogOK os = true ∧ vecOK xs = true) := by have := cd3; simp at this ⊢; intro h; simpa [h] using this
    have HIN := Inn.nil w4 w.heap.size
    have cv16 := bv16
    obtain ⟨A9, c9, hv9, hc9, ho9⟩ := own_L HOV cv16 HIN
    have hq9 : ([] : List LO).map LO.o = sSince os xs := by unfold sSince; rw [if_neg hb9]; rfl
    rw [hv9]
    rw [if_neg hb9]
    exact ⟨A9, c9, [], by rw [← hq9]; rfl, ho9, hq9, HB⟩
  · rw [cd3]
    show Code.wp _ _ _ _ _
    have hgd := cd3
    have hsl : sLogOK os = true := by cases h : sLogOK os <;> simp [h] at hgd ⊢
    have hvo : vecOK xs = true := by cases h : vecOK xs <;> simp [h] at hgd ⊢
    have hfit : Fit os := Fit.of os (log_same os ▸ hsl)
    have hx16 := (vecOK_iff.1 hvo).1
    have hol := hfit.len
    refine wp_skip ?_
    show Code.wp _ _ _ _ _
    refine wp_seq ?_
    refine deedL [.s1 17 fun x_ W => ∃ (v17 : Value), x_ = v17 ∧ OwnRow RL 67 12 W 0 v17 [] ∧ Above w2.heap.size v17, .s2 17 6 fun x_ y_ _ => ∃ (v17 : Value), x_ = v17 ∧ y_ = v17, .eq 0 (.slice A os.length c), .eq 3 (.pointer (some ⟨g3, 0, none⟩)), .w (Below w2.heap.size w2)] 48 [[4], [0]] [] [0, 1, 2, 3, 4] hM hN hD (by kernel_rfl) ⟨s0, s3, ⟨Below.refl _ _, below_drew (Below.refl _ _)⟩, trivial⟩ ⟨fun _ _ _ hb h => by obtain ⟨v17, e_, h1_, h2_⟩ := h; exact ⟨v17, e_, h1_.below hb, h2_⟩, fun _ _ _ _ hb h => h, fun _ _ hb h => below_step h hb, trivial⟩ (fun hgrow => ⟨fun _ _ h => rbuild0 hgrow rfl rfl Try.underlying27 sz67 h.1.size (fun y_ _ u_ v_ => ⟨y_, rfl, u_, v_⟩),
      ?_, trivial⟩) ?_
    · rintro a_ W ⟨h0, -⟩
      obtain ⟨v17, e0, ho0, hb0⟩ := h0
      exact rv rfl (x_assign rfl e0) ⟨_, e0, rfl⟩
    clear s0 s3 s15
    clear hN hD
    rintro a5 w5 hN hD ⟨⟨v17, s17, HOV, bv17⟩, q6, s0, s3, hGR, -⟩
    obtain ⟨v17_, e_, s6⟩ := q6
    cases s17.symm.trans e_
    replace bv17 := Above.le bv17 HB.size
    replace HB := below_step HB hGR
    replace HBX3 := blk_below HBX3 hGR
    clear hGR
    show Code.wp _ _ _ _ _
    refine wp_seq ?_
    refine wp_seq ?_
    refine deedL [.eq 7 (.int .i64 0), .eq 0 (.slice A os.length c), .eq 3 (.pointer (some ⟨g3, 0, none⟩)), .eq 6 v17, .w (Below w5.heap.size w5)] 48 [[]] [] [0, 1, 2, 3, 4] hM hN hD (by kernel_rfl) ⟨s0, s3, s6, ⟨Below.refl _ _, below_drew (Below.refl _ _)⟩, trivial⟩ ⟨fun _ _ hb h => below_step h hb, trivial⟩ (fun hgrow => ⟨fun _ _ _ => rv rfl (x_assign rfl rfl) rfl, trivial⟩) ?_
    clear s0 s3 s6
    clear hN hD
    rintro a6 w6 hN hD ⟨s7, s0, s3, s6, hGR, -⟩
    replace HB := below_step HB hGR
    replace HBX3 := blk_below HBX3 hGR
    replace HOV := HOV.below hGR
    clear hGR
    show Code.wp _ _ _ _ _
    refine wp_block ?_
    have HIN := Inn.nil w6 w.heap.size
    have HLW : w.heap.size ≤ w.heap.size := Nat.le_refl _
    refine wp_loopN (fun n_ q_ w_ => ∃ (i : Int) (v : Value) (ys : List LO), (q_.tmps.size = 48) ∧ (q_.defers = []) ∧ (sl q_ 0 = .slice A os.length c) ∧ (sl q_ 3 = .pointer (some ⟨g3, 0, none⟩)) ∧ (sl q_ 6 = v) ∧ (sl q_ 7 = .int .i64 i) ∧ (Below w.heap.size w w_) ∧ (w_.heap[g3]? = some (.cells ([.slice E xs.length d]).toArray 41 (0, 0))) ∧ (OwnRow RL 67 12 w_ 0 v ys) ∧ (Inn w_ ys (w.heap.size)) ∧ (0 ≤ i) ∧ (i ≤ os.length) ∧ (Above w.heap.size v) ∧ (Above w.heap.size v) ∧ (ys.map LO.o = since (os.take i.toNat) xs) ∧ (n_ = (os.length - i).toNat)) ((fun (i : Int) (v : Value) (ys : List LO) => (os.length - i).toNat) 0 v17 []) ?_ ?_
    · exact ⟨0, v17, [], hN, hD, s0, s3, s6, s7, HB, HBX3, HOV, HIN, (by omega), (by omega), bv17, bv17, (by simp [since]), rfl⟩
    clear s0 s3 s6 s7 HB HBX3 HOV HIN hN hD
    rintro n_7 a7 w7 ⟨i, v, ys, hN, hD, s0, s3, s6, s7, HB, HBX3, HOV, HIN, hi0, hi1, bv, cv, hym, hmeas⟩
    refine wp_seq ?_
    refine wp_seq ?_
    refine deedL [.eq 18 (.int .i64 i), .eq 19 (.slice A os.length c), .eq 20 (.int .i64 (os.length : Int)), .eq 21 (.bool (decide (i < (os.length : Int)))), .eq 0 (.slice A os.length c), .eq 3 (.pointer (some ⟨g3, 0, none⟩)), .eq 6 v, .eq 7 (.int .i64 i), .w (Below w7.heap.size w7)] 48 [[7], [4], [1], [0, 2]] [] [3, 4, 5, 6, 7, 8] hM hN hD (by kernel_rfl) ⟨s0, s3, s6, s7, ⟨Below.refl _ _, below_drew (Below.refl _ _)⟩, trivial⟩ ⟨fun _ _ hb h => below_step h hb, trivial⟩ (fun hgrow => ⟨fun _ _ h => rv rfl (x_move rfl h.1) rfl,
      fun _ _ h => rv rfl (x_move rfl h.1) rfl,
      fun _ _ h => rv rfl (x_len_slice rfl Try.underlying27 h.1) rfl,
      fun _ _ h => rv rfl (x_lss rfl h.1 h.2.1) rfl, trivial⟩) ?_
    clear s0 s3 s6 s7
    clear hN hD
    rintro a8 w8 hN hD ⟨s21, s0, s3, s6, s7, hGR, -⟩
    replace HB := below_step HB hGR
    replace HBX3 := blk_below HBX3 hGR
    replace HOV := HOV.below hGR
    replace HIN := HIN.below hGR
    clear hGR
    show Code.wp _ _ _ _ _
    refine wp_cond (t := decide (i < (os.length : Int))) s21 ?_
    rcases Bool.eq_false_or_eq_true (decide (i < (os.length : Int))) with cd9 | cd9
    · rw [cd9]
      show Code.wp _ _ _ _ _
      have pd9 := of_decide_eq_true cd9
      have hi2 := pd9
      refine wp_skip ?_
      show Code.wp _ _ _ _ _
      refine wp_seq ?_
      refine wp_block ?_
      refine wp_seq ?_
      have hfo := hfit.fine (List.mem_of_getElem? (go_of hi0 hi2))
      refine deedL (.eq 24 (.slice A os.length c) :: .eq 25 (.int .i64 i) :: .eq 26 (.pointer (some ((adr A).add (i.toNat * 12)))) :: .eq 27 (.pointer (some (((adr A).add (i.toNat * 12)).add 1))) :: .eq 28 (.int .i64 ((go_ os i).seq)) :: .eq 29 (.pointer (some ⟨g3, 0, none⟩)) :: .eq 30 (.slice E xs.length d) :: .eq 31 (.slice A os.length c) :: .eq 32 (.int .i64 i) :: .eq 33 (.pointer (some ((adr A).add (i.toNat * 12)))) :: .eq 34 (.pointer (some ((adr A).add (i.toNat * 12)))) :: .eq 35 (.int .i64 ((go_ os i).actor)) :: .eq 36 (.pointer (some ((adr E).add (((go_ os i).actor).toNat * 1)))) :: .eq 37 (.int .i64 (gi xs ((go_ os i).actor))) :: .eq 38 (.bool (decide (gi xs ((go_ os i).actor) < (go_ os i).seq))) :: .eq 0 (.slice A os.length c) :: .eq 3 (.pointer (some ⟨g3, 0, none⟩)) :: .eq 6 v :: .eq 7 (.int .i64 i) :: .w (Below w8.heap.size w8) :: []) 48 ([15] :: [18] :: [0, 1] :: [2] :: [3, 19] :: [16] :: [5, 19] :: [15] :: [18] :: [7, 8] :: [9] :: [10, 19] :: [6, 11] :: [12, 19] :: [4, 13] :: []) [] [14, 15, 16, 17, 18, 19] hM hN hD (by kernel_rfl) ⟨s0, s3, s6, s7, ⟨Below.refl _ _, below_drew (Below.refl _ _)⟩, trivial⟩ ⟨fun _ _ hb h => below_step h hb, trivial⟩ (fun hgrow => ⟨fun _ _ h => rv rfl (x_move rfl h.1) rfl,
        fun _ _ h => rv rfl (x_move rfl h.1) rfl,
        fun _ _ h => rv rfl (x_index_at rfl h.1 h.2.1 Try.underlying27 sz67 (by omega) (by omega) (RO.ad HR i (by omega) (by omega))) rfl,
        fun _ _ h => rv rfl (x_field rfl h.1 Try.underlying67 rfl sz3 (by decide) rfl) rfl,
        fun _ _ h => rv rfl (x_load1 rfl h.1 Try.underlying3 rfl (RO.cell HR (below_step HB h.2.1) (by omega) (by omega) (j := 1) rfl)) rfl,
        fun _ _ h => rv rfl (x_field rfl h.1 Try.underlying41 rfl sz24 (by decide) rfl) rfl,
        fun _ _ h => rv rfl (x_load1 rfl h.1 Try.underlying24 rfl (blk_one (L := [.slice E xs.length d]) (blk_below HBX3 h.2.1) 0 rfl)) rfl,
        fun _ _ h => rv rfl (x_move rfl h.1) rfl,
        fun _ _ h => rv rfl (x_move rfl h.1) rfl,
        fun _ _ h => rv rfl (x_index_at rfl h.1 h.2.1 Try.underlying27 sz67 (by omega) (by omega) (RO.ad HR i (by omega) (by omega))) rfl,
        fun _ _ h => rv rfl (x_field rfl h.1 Try.underlying67 rfl sz3 (by decide) rfl) rfl,
        fun _ _ h => rv rfl (x_load1 rfl h.1 Try.underlying3 rfl (RO.cell0 HR (below_step HB h.2.1) (by omega) (by omega))) rfl,
        fun _ _ h => rv rfl (x_index_at rfl h.1 h.2.1 Try.underlying24 sz3 hfo.a0 (by have := hfo.a1; omega) (RI.ad HV ((go_ os i).actor) hfo.a0 (by have := hfo.a1; omega))) rfl,
        fun _ _ h => rv rfl (x_load1 rfl h.1 Try.underlying3 rfl (RI.at_ HV (below_step HB h.2.1) hfo.a0 (by have := hfo.a1; omega))) rfl,
        fun _ _ h => rv rfl (x_gtr rfl h.1 h.2.1) rfl, trivial⟩) ?_
      clear s0 s3 s6 s7 s21
      clear hN hD
      rintro a10 w10 hN hD ⟨s38, s0, s3, s6, s7, hGR, -⟩
      replace HB := below_step HB hGR
      replace HBX3 := blk_below HBX3 hGR
      replace HOV := HOV.below hGR
      replace HIN := HIN.below hGR
      clear hGR
      show Code.wp _ _ _ _ _
      refine wp_cond (t := decide (gi xs ((go_ os i).actor) < (go_ os i).seq)) s38 ?_
      rcases Bool.eq_false_or_eq_true (decide (gi xs ((go_ os i).actor) < (go_ os i).seq)) with cd11 | cd11
      · rw [cd11]
        show Code.wp _ _ _ _ _
        have pd11 := of_decide_eq_true cd11
        have hd := cd11
        have hdl := hfit.deps (List.mem_of_getElem? (go_of hi0 hi2))
        have hyl := congrArg List.length hym
        rw [List.length_map] at hyl
        have hyl2 := since_le (os.take i.toNat) xs
        have hyl3 : (os.take i.toNat).length ≤ os.length := by rw [List.length_take]; omega
        have HLO := HB.size
        refine deedL (.eq 39 v :: .eq 40 (.slice A os.length c) :: .eq 41 (.int .i64 i) :: .eq 42 (.pointer (some ((adr A).add (i.toNat * 12)))) :: .eq 43 (.agg (opc (go_ os i) (D i.toNat) (C i.toNat)).toArray) :: (.s1 44 fun x_ W => ∃ (A44 : Option Addr) (c44 : Nat), x_ = .agg (opc (go_ os i) A44 c44).toArray ∧ OwnI W A44 ((go_ os i).deps) (w10.heap.size) W.heap.size ∧ (go_ os i).deps.length ≤ c44) :: (.s2 44 45 fun x_ y_ W => ∃ (A44 : Option Addr) (c44 : Nat), x_ = .agg (opc (go_ os i) A44 c44).toArray ∧ NewL (opc (go_ os i) A44 c44) 67 y_ W) :: (.s1 46 fun x_ W => ∃ (v46 : Value) (A44 : Option Addr) (c44 : Nat), x_ = v46 ∧ OwnRow RL 67 12 W 0 v46 (ys ++ [LO.mk (go_ os i) A44 c44]) ∧ Inn W (ys ++ [LO.mk (go_ os i) A44 c44]) (w.heap.size) ∧ Above (w.heap.size) v46) :: (.s2 46 6 fun x_ y_ _ => ∃ (v46 : Value), x_ = v46 ∧ y_ = v46) :: .eq 0 (.slice A os.length c) :: .eq 3 (.pointer (some ⟨g3, 0, none⟩)) :: .eq 6 v :: .eq 7 (.int .i64 i) :: (.w (Kx (fun k => some k = v.ownBlock) w10)) :: (.w fun W => OwnRow RL 67 12 W 0 v ys) :: []) 48 [[11], [9], [12], [1, 2], [3, 13], [4, 13], [5], [0, 5, 6, 14, 13], [7]] [[], [], [], [], [], [], [], [5, 6, 8, 14], [11]] [7, 8, 9, 10, 12, 13] hM hN hD (by kernel_rfl) ⟨s0, s3, s6, s7, ⟨Kx.refl _ _, Kx.drew _ _⟩, ⟨HOV, HOV.below (below_drew (Below.refl _ _))⟩, trivial⟩ ⟨fun _ _ _ hb h => by obtain ⟨A44, c44, e_, z0, z1⟩ := h; exact ⟨_, _, e_, (z0.below hb).wide (Nat.le_refl _) hb.size, z1⟩, fun _ _ _ _ hb h => by obtain ⟨a_, b_, e_, z⟩ := h; exact ⟨a_, b_, e_, z.grow hb⟩, fun _ _ _ hb h => by obtain ⟨a_, b_, c_, e_, h1_, h2_, h3_⟩ := h; exact ⟨a_, b_, c_, e_, h1_.below hb, h2_.below hb, h3_⟩, fun _ _ _ _ hb h => h, fun _ _ hb h => h.step hb, fun _ _ hb h => h.below hb, trivial⟩ (fun hgrow => ⟨fun _ _ h => rv rfl (x_move rfl h.1) rfl,
          fun _ _ h => rv rfl (x_move rfl h.1) rfl,
          fun _ _ h => rv rfl (x_move rfl h.1) rfl,
          fun _ _ h => rv rfl (x_index_at rfl h.1 h.2.1 Try.underlying27 sz67 (by omega) (by omega) (RO.ad HR i (by omega) (by omega))) rfl,
          fun _ _ h => rv rfl (x_loadS rfl h.1 Try.underlying67 (opc (go_ os i) (D i.toNat) (C i.toNat)) sz67 (RO.cells HR (Kx.below HB h.2.1 HB.size (fun k e => bv k e.symm)) (by omega) (by omega))) rfl,
          fun _ _ h => rc hgrow rfl Try.func58 (by kernel_rfl) rfl rfl (args1 h.1) (sCopy_calls (go_ os i) (D i.toNat) (C i.toNat) _ (RI.below (RO.deps HR (by omega) (by omega)) (Kx.below HB h.2.1 HB.size (fun k e => bv k e.symm))) (by omega) (by omega)) (fun _ _ hR => by obtain ⟨A44, c44, e_, z0, z1, hb⟩ := hR; exact ⟨_, e_, hb, A44, c44, rfl, (z0.wide h.2.1.size (Nat.le_refl _)), z1⟩),
          ?_,
          ?_,
          ?_, trivial⟩) ?_
        · rintro a_ W ⟨h5, -⟩
          obtain ⟨A44, c44, e5, HOI_, HCC_⟩ := h5
          exact rbuild1 hgrow rfl rfl Try.underlying27 zi67 (by decide) (by decide) e5 rfl rfl (fun _ _ z => ⟨_, _, e5, z⟩)
        · rintro a_ W ⟨h0, h5, h6, h14, h13, -⟩
          obtain ⟨A44, c44, ec_, HOI_, HCC_⟩ := h5
          obtain ⟨A2_, c2_, ed_, hn_⟩ := h6
          cases ec_.symm.trans ed_
          exact rappCopy (lo := w.heap.size) (p := (go_ os i)) (A := A44) (c := c44) rfl rfl Try.underlying27 inf67 rfl (by decide) (by decide) h0 hn_ HOV h14 HIN HOI_ HCC_ (by omega) cv HLO h13 (fun v1_ W2_ u1 u2 u3 u4 => owe_keep ⟨fun h => u4, trivial⟩ ⟨v1_, A44, c44, rfl, u1, u2, u3⟩)
        · rintro a_ W ⟨h7, -⟩
          obtain ⟨v46, A44, c44, e7, HO_, HI_, hb7⟩ := h7
          exact rv rfl (x_assign rfl e7) ⟨_, e7, rfl⟩
        clear s0 s3 s6 s7 s38
        clear hN hD
        rintro a12 w12 hN hD ⟨⟨v46, A44, c44, s46, HOVN, HINN, cv46⟩, q6, s0, s3, s7, hGR, -⟩
        obtain ⟨v46_, e_, s6⟩ := q6
        cases s46.symm.trans e_
        have NB := Kx.below HB hGR HB.size (fun k e => bv k e.symm)
        have NBX3 := blk_kx HBX3 hGR (own_blk HOV HBX3 rfl)
        clear HIN
        replace HB := NB
        replace HBX3 := NBX3
        clear NB NBX3
        replace HOV := HOVN
        clear HOVN
        have HIN := HINN
        clear HINN
        have bv46 := Above.le cv46 HLW
        clear hGR
        show Code.wp _ _ _ _ _
        refine deedL [.eq 22 (.int .i64 i), .eq 23 (.int .i64 (i + 1)), .eq 7 (.int .i64 (i + 1)), .eq 0 (.slice A os.length c), .eq 3 (.pointer (some ⟨g3, 0, none⟩)), .eq 6 v46, .eq 7 (.int .i64 i), .w (Below w12.heap.size w12)] 48 [[6], [0], [1]] [[], [], [6]] [2, 3, 4, 5, 7] hM hN hD (by kernel_rfl) ⟨s0, s3, s6, s7, ⟨Below.refl _ _, below_drew (Below.refl _ _)⟩, trivial⟩ ⟨fun _ _ hb h => below_step h hb, trivial⟩ (fun hgrow => ⟨fun _ _ h => rv rfl (x_move rfl h.1) rfl,
          fun _ _ h => rv rfl (x_add' rfl h.1 rfl (by omega)) rfl,
          fun _ _ h => rv rfl (x_assign rfl h.1) rfl, trivial⟩) ?_
        clear s0 s3 s7 s6
        clear hN hD
        rintro a13 w13 hN hD ⟨s7, s0, s3, s6, hGR, -⟩
        replace HB := below_step HB hGR
        replace HBX3 := blk_below HBX3 hGR
        replace HOV := HOV.below hGR
        replace HIN := HIN.below hGR
        clear hGR
        show ∃ m, m < n_7 ∧ _
        exact ⟨_, (by omega), ⟨(i + 1), v46, (ys ++ [LO.mk (go_ os i) A44 c44]), hN, hD, s0, s3, s6, s7, HB, HBX3, HOV, HIN, (by omega), (by omega), bv46, cv46, (by rw [since_t hi0 hi2 hd, List.map_append, hym]; rfl), rfl⟩⟩
      · rw [cd11]
        show Code.wp _ _ _ _ _
        have pd11 := of_decide_eq_false cd11
        have hd := cd11
        refine wp_skip ?_
        show Code.wp _ _ _ _ _
        refine deedL [.eq 22 (.int .i64 i), .eq 23 (.int .i64 (i + 1)), .eq 7 (.int .i64 (i + 1)), .eq 0 (.slice A os.length c), .eq 3 (.pointer (some ⟨g3, 0, none⟩)), .eq 6 v, .eq 7 (.int .i64 i), .w (Below w10.heap.size w10)] 48 [[6], [0], [1]] [[], [], [6]] [2, 3, 4, 5, 7] hM hN hD (by kernel_rfl) ⟨s0, s3, s6, s7, ⟨Below.refl _ _, below_drew (Below.refl _ _)⟩, trivial⟩ ⟨fun _ _ hb h => below_step h hb, trivial⟩ (fun hgrow => ⟨fun _ _ h => rv rfl (x_move rfl h.1) rfl,
          fun _ _ h => rv rfl (x_add' rfl h.1 rfl (by omega)) rfl,
          fun _ _ h => rv rfl (x_assign rfl h.1) rfl, trivial⟩) ?_
        clear s0 s3 s6 s7 s38
        clear hN hD
        rintro a14 w14 hN hD ⟨s7, s0, s3, s6, hGR, -⟩
        replace HB := below_step HB hGR
        replace HBX3 := blk_below HBX3 hGR
        replace HOV := HOV.below hGR
        replace HIN := HIN.below hGR
        clear hGR
        show ∃ m, m < n_7 ∧ _
        exact ⟨_, (by omega), ⟨(i + 1), v, ys, hN, hD, s0, s3, s6, s7, HB, HBX3, HOV, HIN, (by omega), (by omega), bv, cv, (by rw [since_f hi0 hi2 hd]; exact hym), rfl⟩⟩
    · rw [cd9]
      show Code.wp _ _ _ _ _
      have pd9 := of_decide_eq_false cd9
      refine wp_exit (then_exit (then_exit (at_exit ?_)))
      show Code.wp _ _ _ _ _
      refine wp_seq ?_
      refine deedL [.eq 47 v, .eq 4 v, .eq 5 (.int .i64 0), .eq 6 v, .w (Below w8.heap.size w8)] 48 [[3], [0], []] [] [1, 2, 3, 4] hM hN hD (by kernel_rfl) ⟨s6, ⟨Below.refl _ _, below_drew (Below.refl _ _)⟩, trivial⟩ ⟨fun _ _ hb h => below_step h hb, trivial⟩ (fun hgrow => ⟨fun _ _ h => rv rfl (x_move rfl h.1) rfl,
        fun _ _ h => rv rfl (x_assign rfl h.1) rfl,
        fun _ _ _ => rv rfl (x_assign rfl rfl) rfl, trivial⟩) ?_
      clear s0 s3 s6 s7 s21
      clear hN hD
      rintro a15 w15 hN hD ⟨s4, s5, s6, hGR, -⟩
      replace HB := below_step HB hGR
      replace HBX3 := blk_below HBX3 hGR
      replace HOV := HOV.below hGR
      replace HIN := HIN.below hGR
      clear hGR
      show Code.wp _ _ _ _ _
      refine wp_ret ?_
      refine bodyPost_ret (fn := Try.f24) (results_list (rs := [.tmp 4, .tmp 5]) (vs := [v, .int .i64 0]) rfl (by simp) (vtmp s4 (vtmp s5 .nil))) hD ?_
      obtain ⟨A9, c9, hv9, hc9, ho9⟩ := own_L HOV cv HIN
      have hq9 : ys.map LO.o = sSince os xs := by unfold sSince; rw [if_pos ⟨hsl, hvo⟩, hym, List.take_of_length_le (by omega)]
      rw [hv9]
      rw [if_pos ⟨hsl, hvo⟩]
      exact ⟨A9, c9, ys, by rw [len_of' hq9], ho9, hq9, HB⟩
end Go.Proofs.Ytideafkiaipnoaa.Q

/- Functions walked. -/
namespace Go.Proofs.Ytideafkiaipnoaa.Q
open Go Go.RowKit Go.Proofs.YtideafkiaipnoaaW.PrintWords Go.Proofs.YtideafkiaipnoaaW.PrintLast Go.Proofs.Ytideafkiaipnoaa.Deed
set_option maxRecDepth 100000
set_option linter.unusedVariables false
set_option linter.unusedSimpArgs false
set_option maxHeartbeats 2000000 in
theorem iSince_calls (A : Option Addr) (os : List Op) (D : Nat → Option Addr) (C : Nat → Nat) (c : Nat) (E : Option Addr) (xs : List Int) (d : Nat) (w : World) (HR : RO w A os D C) (HV : RI w E xs) : Calls Try.prog 26 #[.slice A os.length c, .agg #[Value.slice E xs.length d]] w fun e w' => ∃ A' c' ys, e = .returned (.tuple #[.slice A' (sSince os xs).length c', .int .i64 (if sLogOK os = true ∧ vecOK xs = true then 0 else 1)]) ∧ OwnAt eLO w' A' ys w.heap.size w'.heap.size ∧ ys.map LO.o = sSince os xs ∧ Below w.heap.size w w' := by
  refine calls_of_wp Try.func26 rfl ?_
  refine enter_ (N := 54) rfl ?_
  rintro a0 hN hD ⟨s0, s1, -⟩
  have HB : Below w.heap.size w w := Below.refl _ _
  refine wp_seq ?_
  refine deedL [.s1 3 (NewB w.heap.size [.slice E xs.length d] 41), .eq 4 (.slice none 0 0), .eq 5 (.int .i64 0), .eq 0 (.slice A os.length c), .eq 1 (.agg #[Value.slice E xs.length d]), .w (Below w.heap.size w)] 54 [[5, 4], [], []] [] [0, 3, 4, 5] hM hN hD (by kernel_rfl) ⟨s0, s1, ⟨Below.refl _ _, below_drew (Below.refl _ _)⟩, trivial⟩ ⟨fun _ _ _ hb h => h.grow hb, fun _ _ hb h => below_step h hb, trivial⟩ (fun hgrow => ⟨fun _ _ h => rbox hgrow rfl (x_box rfl h.2.1) h.1.size (fun _ _ z => z),
    fun _ _ _ => rv rfl (x_assign rfl rfl) rfl,
    fun _ _ _ => rv rfl (x_assign rfl rfl) rfl, trivial⟩) ?_
  clear s0 s1
  clear hN hD
  rintro a1 w1 hN hD ⟨⟨g3, s3, lg3, HBX3⟩, s0, s1, hGR, -⟩
  replace HB := below_step HB hGR
  clear hGR
  show Code.wp _ _ _ _ _
  refine wp_seq ?_
  refine deedL [.eq 13 (.slice A os.length c), .s1 14 fun x_ W => ∃ (pb1 : Value), x_ = .tuple #[pb1, .bool (iLogOK os)] ∧ (iLogOK os = true → ∃ w9 g vs, pb1 = .pointer (some ⟨g, 0, none⟩) ∧ Below w.heap.size w w9 ∧ BookAt w9 (okW w9 W) W g vs (bk (los os D C os.length))), .s2 14 12 fun x_ y_ _ => ∃ (pb1 : Value), x_ = .tuple #[pb1, .bool (iLogOK os)] ∧ y_ = .tuple #[pb1, .bool (iLogOK os)], .s2 14 15 fun x_ y_ _ => ∃ (pb1 : Value), x_ = .tuple #[pb1, .bool (iLogOK os)] ∧ y_ = pb1, .eq 16 (.bool (iLogOK os)), .s2 14 6 fun x_ y_ _ => ∃ (pb1 : Value), x_ = .tuple #[pb1, .bool (iLogOK os)] ∧ y_ = pb1, .eq 7 (.bool (iLogOK os)), .eq 0 (.slice A os.length c), .eq 3 (.pointer (some ⟨g3, 0, none⟩)), .w (Below w1.heap.size w1)] 54 [[7], [0, 9], [1], [2], [2], [3], [4]] [] [6, 1, 5, 7, 8, 9] hM hN hD (by kernel_rfl) ⟨s0, s3, ⟨Below.refl _ _, below_drew (Below.refl _ _)⟩, trivial⟩ ⟨fun _ _ _ hb h => by obtain ⟨pb1, e_, z0⟩ := h; exact ⟨_, e_, bkstep z0 hb⟩, fun _ _ _ _ hb h => h, fun _ _ _ _ hb h => h, fun _ _ _ _ hb h => h, fun _ _ hb h => below_step h hb, trivial⟩ (fun hgrow => ⟨fun _ _ h => rv rfl (x_move rfl h.1) rfl,
    fun _ _ h => rc hgrow rfl Try.func50 (by kernel_rfl) rfl rfl (args1 h.1) (read_calls A os D C c _ (RO.below HR (below_step HB h.2.1))) (fun _ _ hR => by obtain ⟨pb1, e_, hbk_, hb⟩ := hR; exact ⟨_, e_, hb, pb1, rfl, (fun u => by obtain ⟨g, vs, u1, u2⟩ := hbk_ u; exact ⟨_, g, vs, u1, (below_step HB h.2.1), u2⟩)⟩),
    ?_,
    ?_,
    ?_,
    ?_,
    fun _ _ h => rv rfl (x_assign rfl h.1) rfl, trivial⟩) ?_
  · rintro a_ W ⟨h1, -⟩
    obtain ⟨pb1, e1, HRB1⟩ := h1
    exact rv rfl (x_move rfl e1) ⟨_, e1, rfl⟩
  · rintro a_ W ⟨h2, -⟩
    obtain ⟨pb1, r2, e2⟩ := h2
    exact rv rfl (x_extract rfl e2 rfl) ⟨_, r2, rfl⟩
  · rintro a_ W ⟨h2, -⟩
    obtain ⟨pb1, r2, e2⟩ := h2
    exact rv rfl (x_extract rfl e2 rfl) rfl
  · rintro a_ W ⟨h3, -⟩
    obtain ⟨pb1, r3, e3⟩ := h3
    exact rv rfl (x_assign rfl e3) ⟨_, r3, rfl⟩
  clear s0 s1 s3
  clear hN hD
  rintro a2 w2 hN hD ⟨s7, ⟨pb1, s14, HRB1⟩, q6, s0, s3, hGR, -⟩
  obtain ⟨pb1_, e_, s6⟩ := q6
  cases s14.symm.trans e_
  replace HB := below_step HB hGR
  replace HBX3 := blk_below HBX3 hGR
  clear hGR
  show Code.wp _ _ _ _ _
  refine wp_seq ?_
  refine wp_seq ?_
  refine deedL [.eq 17 (.bool (iLogOK os)), .eq 18 (.bool (!(iLogOK os))), .eq 19 (.bool (!(iLogOK os))), .gv (((!(iLogOK os)) == false)) 20 (.agg #[Value.slice E xs.length d]), .gv (((!(iLogOK os)) == false)) 21 (.bool (vecOK xs)), .gv (((!(iLogOK os)) == false)) 22 (.bool (!(vecOK xs))), .eq 23 (.bool ((!(iLogOK os)) || (!(vecOK xs)))), .eq 3 (.pointer (some ⟨g3, 0, none⟩)), .eq 6 pb1, .eq 7 (.bool (iLogOK os)), .w (Below w2.heap.size w2)] 54 [[9], [0], [1], [2, 7, 10], [2, 3, 10], [2, 4], [2, 5]] [] [6, 7, 8, 9, 10] hM hN hD (by kernel_rfl) ⟨s3, s6, s7, ⟨Below.refl _ _, below_drew (Below.refl _ _)⟩, trivial⟩ ⟨fun _ _ hb h => below_step h hb, trivial⟩ (fun hgrow => ⟨fun _ _ h => rv rfl (x_move rfl h.1) rfl,
    fun _ _ h => rv rfl (x_not rfl h.1) rfl,
    fun _ _ h => rv rfl (x_move rfl h.1) rfl,
    fun _ _ h => rb rfl rfl h.1 (fun hgt => x_loadS rfl h.2.1 Try.underlying41 [.slice E xs.length d] sz41 (blk_list (L := [.slice E xs.length d]) (blk_below HBX3 h.2.2.1) 0 rfl)) (fun _ z => z),
    fun _ _ h => rcb hgrow rfl rfl h.1 Try.func60 (by kernel_rfl) rfl rfl (fun hgt => args1 (h.2.1.1 hgt)) (fun hgt => iVecOK_calls E xs d _ (RI.below HV (below_step HB h.2.2.1))) (fun _ _ _ h => h) (fun _ _ z => z),
    fun _ _ h => rb rfl rfl h.1 (fun hgt => x_not rfl (h.2.1.1 hgt)) (fun _ z => z),
    fun _ _ h => rv rfl (x_or rfl rfl h.1 (fun hc => h.2.1.1 (beq_iff_eq.2 hc))) rfl, trivial⟩) ?_
  clear s0 s3 s6 s7
  clear hN hD
  rintro a3 w3 hN hD ⟨s23, s3, s6, s7, hGR, -⟩
  replace HB := below_step HB hGR
  replace HBX3 := blk_below HBX3 hGR
  replace HRB1 := bkstep HRB1 hGR
  clear hGR
  show Code.wp _ _ _ _ _
  refine wp_cond (t := (!(iLogOK os)) || (!(vecOK xs))) s23 ?_
  rcases Bool.eq_false_or_eq_true ((!(iLogOK os)) || (!(vecOK xs))) with cd4 | cd4
  · rw [cd4]
    show Code.wp _ _ _ _ _
    refine wp_seq ?_
    refine deedL [.eq 4 (.slice none 0 0), .eq 5 (.int .i64 1), .w (Below w3.heap.size w3)] 54 [[], []] [] [0, 1, 2] hM hN hD (by kernel_rfl) ⟨⟨Below.refl _ _, below_drew (Below.refl _ _)⟩, trivial⟩ ⟨fun _ _ hb h => below_step h hb, trivial⟩ (fun hgrow => ⟨fun _ _ _ => rv rfl (x_assign rfl rfl) rfl,
      fun _ _ _ => rv rfl (x_assign rfl rfl) rfl, trivial⟩) ?_
    clear s3 s6 s7 s23
    clear hN hD
    rintro a5 w5 hN hD ⟨s4, s5, hGR, -⟩
    replace HB := below_step HB hGR
    replace HBX3 := blk_below HBX3 hGR
    replace HRB1 := bkstep HRB1 hGR
    clear hGR
    show Code.wp _ _ _ _ _
    refine wp_ret (then_ret ?_)
    refine bodyPost_ret (fn := Try.f26) (results_list (rs := [.tmp 4, .tmp 5]) (vs := [.slice none 0 0, .int .i64 1]) rfl (by simp) (vtmp s4 (vtmp s5 .nil))) hD ?_
    have hb9 : ¬ (sLogOK os = true ∧ vecOK xs = true) := by have := cd4; rw [← log_same] at this; simp at this ⊢; intro h; simpa [h] using this
    rw [if_neg hb9]
    exact ⟨none, 0, [], by unfold sSince; rw [if_neg hb9]; rfl, ⟨.inl rfl, by simp, by simp, by simp⟩, by unfold sSince; rw [if_neg hb9]; rfl, HB⟩
  · rw [cd4]
    show Code.wp _ _ _ _ _
    have hgd := cd4
    have hil : iLogOK os = true := by cases h : iLogOK os <;> simp [h] at hgd ⊢
    have hvo : vecOK xs = true := by cases h : vecOK xs <;> simp [h] at hgd ⊢
    have hsl : sLogOK os = true := log_same os ▸ hil
    have hfit : Fit os := Fit.of os hil
    have hx16 := (vecOK_iff.1 hvo).1
    have hol := hfit.len
    obtain ⟨w9, gb1, vs1, rfl, HB9, HBK1⟩ := HRB1 hil
    obtain ⟨wb, hwb⟩ : ∃ wb, wb = w3 := ⟨_, rfl⟩
    have HBP : BookAt w9 (okW w9 wb) wb gb1 vs1 (bk (los os D C os.length)) := by rw [hwb]; exact HBK1
    have HB1 : Below wb.heap.size wb w3 := by rw [hwb]; exact Below.refl _ _
    have HBW : Below w.heap.size w wb := by rw [hwb]; exact HB
    have HLW : w.heap.size ≤ wb.heap.size := HBW.size
    clear HBK1 hwb
    refine wp_skip ?_
    show Code.wp _ _ _ _ _
    refine wp_seq ?_
    refine deedL [.eq 8 (.slice none 0 0), .eq 3 (.pointer (some ⟨g3, 0, none⟩)), .eq 6 (.pointer (some ⟨gb1, 0, none⟩)), .w (Below w3.heap.size w3)] 54 [[]] [] [0, 1, 2, 3] hM hN hD (by kernel_rfl) ⟨s3, s6, ⟨Below.refl _ _, below_drew (Below.refl _ _)⟩, trivial⟩ ⟨fun _ _ hb h => below_step h hb, trivial⟩ (fun hgrow => ⟨fun _ _ _ => rv rfl (x_assign rfl rfl) rfl, trivial⟩) ?_
    clear s3 s6 s7 s23
    clear hN hD
    rintro a6 w6 hN hD ⟨s8, s3, s6, hGR, -⟩
    replace HB := below_step HB hGR
    replace HBX3 := blk_below HBX3 hGR
    replace HB1 := below_step HB1 hGR
    clear hGR
    show Code.wp _ _ _ _ _
    refine wp_seq ?_
    refine wp_seq ?_
    refine deedL [.eq 24 (.int .i64 0), .eq 3 (.pointer (some ⟨g3, 0, none⟩)), .eq 6 (.pointer (some ⟨gb1, 0, none⟩)), .eq 8 (.slice none 0 0), .w (Below w6.heap.size w6)] 54 [[]] [] [0, 1, 2, 3, 4] hM hN hD (by kernel_rfl) ⟨s3, s6, s8, ⟨Below.refl _ _, below_drew (Below.refl _ _)⟩, trivial⟩ ⟨fun _ _ hb h => below_step h hb, trivial⟩ (fun hgrow => ⟨fun _ _ _ => rv rfl (x_move rfl rfl) rfl, trivial⟩) ?_
    clear s3 s6 s8
    clear hN hD
    rintro a7 w7 hN hD ⟨s24, s3, s6, s8, hGR, -⟩
    replace HB := below_step HB hGR
    replace HBX3 := blk_below HBX3 hGR
    replace HB1 := below_step HB1 hGR
    clear hGR
    show Code.wp _ _ _ _ _
    refine wp_block ?_
    have HIN := Inn.nil w7 wb.heap.size
    have HOV : OwnRow RL 67 12 w7 0 (.slice none 0 0) [] := OwnRow.none_ _ _ _ _ _
    refine wp_loopN (fun n_ q_ w_ => ∃ (a : Int) (v : Value) (ys : List LO), (q_.tmps.size = 54) ∧ (q_.defers = []) ∧ (sl q_ 3 = .pointer (some ⟨g3, 0, none⟩)) ∧ (sl q_ 6 = .pointer (some ⟨gb1, 0, none⟩)) ∧ (sl q_ 8 = v) ∧ (sl q_ 24 = .int .i64 a) ∧ (Below w.heap.size w w_) ∧ (w_.heap[g3]? = some (.cells ([.slice E xs.length d]).toArray 41 (0, 0))) ∧ (Below wb.heap.size wb w_) ∧ (OwnRow RL 67 12 w_ 0 v ys) ∧ (Inn w_ ys (wb.heap.size)) ∧ (0 ≤ a) ∧ (a ≤ 16) ∧ (Above w.heap.size v) ∧ (Above wb.heap.size v) ∧ (ys.map LO.o = upA os xs a.toNat) ∧ (n_ = (16 - a).toNat)) ((fun (a : Int) (v : Value) (ys : List LO) => (16 - a).toNat) 0 (.slice none 0 0) []) ?_ ?_
    · exact ⟨0, (.slice none 0 0), [], hN, hD, s3, s6, s8, s24, HB, HBX3, HB1, HOV, HIN, (by omega), (by omega), (Above.nil _), (Above.nil _), rfl, rfl⟩
    clear s3 s6 s8 s24 HB HBX3 HB1 HIN HOV hN hD
    rintro n_8 a8 w8 ⟨a, v, ys, hN, hD, s3, s6, s8, s24, HB, HBX3, HB1, HOV, HIN, ha0, ha1, bv, cv, hym, hmeas⟩
    refine wp_seq ?_
    refine deedL [.eq 25 (.bool (decide (a < 16))), .eq 3 (.pointer (some ⟨g3, 0, none⟩)), .eq 6 (.pointer (some ⟨gb1, 0, none⟩)), .eq 8 v, .eq 24 (.int .i64 a), .w (Below w8.heap.size w8)] 54 [[4]] [] [0, 1, 2, 3, 4, 5] hM hN hD (by kernel_rfl) ⟨s3, s6, s8, s24, ⟨Below.refl _ _, below_drew (Below.refl _ _)⟩, trivial⟩ ⟨fun _ _ hb h => below_step h hb, trivial⟩ (fun hgrow => ⟨fun _ _ h => rv rfl (x_lss rfl h.1 rfl) rfl, trivial⟩) ?_
    clear s3 s6 s8 s24
    clear hN hD
    rintro a9 w9 hN hD ⟨s25, s3, s6, s8, s24, hGR, -⟩
    replace HB := below_step HB hGR
    replace HBX3 := blk_below HBX3 hGR
    replace HB1 := below_step HB1 hGR
    replace HOV := HOV.below hGR
    replace HIN := HIN.below hGR
    clear hGR
    show Code.wp _ _ _ _ _
    refine wp_seq ?_
    refine wp_cond (t := decide (a < 16)) s25 ?_
    rcases Bool.eq_false_or_eq_true (decide (a < 16)) with cd10 | cd10
    · rw [cd10]
      show Code.wp _ _ _ _ _
      have pd10 := of_decide_eq_true cd10
      have ha2 := pd10
      have hoal := oa_le os a
      have hlal := la_len os D C a
      refine wp_skip ?_
      show Code.wp _ _ _ _ _
      refine wp_seq ?_
      refine wp_block ?_
      refine wp_seq ?_
      refine deedL [.eq 26 (.int .i64 a), .eq 9 (.int .i64 a), .eq 3 (.pointer (some ⟨g3, 0, none⟩)), .eq 6 (.pointer (some ⟨gb1, 0, none⟩)), .eq 8 v, .eq 24 (.int .i64 a), .w (Below w9.heap.size w9)] 54 [[5], [0]] [] [1, 2, 3, 4, 5, 6] hM hN hD (by kernel_rfl) ⟨s3, s6, s8, s24, ⟨Below.refl _ _, below_drew (Below.refl _ _)⟩, trivial⟩ ⟨fun _ _ hb h => below_step h hb, trivial⟩ (fun hgrow => ⟨fun _ _ h => rv rfl (x_move rfl h.1) rfl,
        fun _ _ h => rv rfl (x_assign rfl h.1) rfl, trivial⟩) ?_
      clear s3 s6 s8 s24 s25
      clear hN hD
      rintro a11 w11 hN hD ⟨s9, s3, s6, s8, s24, hGR, -⟩
      replace HB := below_step HB hGR
      replace HBX3 := blk_below HBX3 hGR
      replace HB1 := below_step HB1 hGR
      replace HOV := HOV.below hGR
      replace HIN := HIN.below hGR
      clear hGR
      show Code.wp _ _ _ _ _
      refine wp_seq ?_
      obtain ⟨Aa, ca, hva, HRa, HCa, hca⟩ := book_rv HBP HR HBW hfit ha0 ha2
      refine deedL [.eq 27 (.pointer (some ⟨gb1, 0, none⟩)), .eq 28 (.int .i64 a), .eq 29 (.pointer (some ⟨gb1, 0, none⟩)), .eq 30 (.pointer (some ⟨gb1, 0, none⟩)), .eq 31 (.pointer (some ⟨gb1, a.toNat, none⟩)), .eq 32 (.slice Aa ((la os D C a).length) ca), .eq 33 (.int .i64 ((la os D C a).length)), .eq 34 (.int .i64 0), .eq 3 (.pointer (some ⟨g3, 0, none⟩)), .eq 6 (.pointer (some ⟨gb1, 0, none⟩)), .eq 8 v, .eq 9 (.int .i64 a), .eq 24 (.int .i64 a), .w (Below w11.heap.size w11)] 54 [[9], [11], [0], [2], [3, 1], [4, 13], [5], []] [] [5, 6, 7, 8, 9, 10, 11, 12, 13] hM hN hD (by kernel_rfl) ⟨s3, s6, s8, s9, s24, ⟨Below.refl _ _, below_drew (Below.refl _ _)⟩, trivial⟩ ⟨fun _ _ hb h => below_step h hb, trivial⟩ (fun hgrow => ⟨fun _ _ h => rv rfl (x_move rfl h.1) rfl,
        fun _ _ h => rv rfl (x_move rfl h.1) rfl,
        fun _ _ h => rv rfl (x_nil rfl h.1) rfl,
        fun _ _ h => rv rfl (x_field rfl h.1 Try.underlying75 rfl sz72 (by decide) rfl) rfl,
        fun _ _ h => rv rfl (x_index_array rfl h.1 h.2.1 Try.underlying72 sz27 (by omega) (by omega) (by rw [add_mk]; first | rfl | simp)) rfl,
        fun _ _ h => rv rfl (x_load1 rfl h.1 Try.underlying27 rfl (by have h_ := HBP.cof (i := a.toNat) (by omega); rw [hva] at h_; exact cell_below h_ (below_step HB1 h.2.1))) rfl,
        fun _ _ h => rv rfl (x_len_slice rfl Try.underlying27 h.1) rfl,
        fun _ _ _ => rv rfl (x_move rfl rfl) rfl, trivial⟩) ?_
      clear s3 s6 s8 s24 s9
      clear hN hD
      rintro a12 w12 hN hD ⟨s32, s33, s34, s3, s6, s8, s9, s24, hGR, -⟩
      replace HB := below_step HB hGR
      replace HBX3 := blk_below HBX3 hGR
      replace HB1 := below_step HB1 hGR
      replace HOV := HOV.below hGR
      replace HIN := HIN.below hGR
      clear hGR
      show Code.wp _ _ _ _ _
      refine wp_block ?_
      refine wp_loopN (fun n_ q_ w_ => ∃ (j : Int) (v : Value) (ys : List LO), (q_.tmps.size = 54) ∧ (q_.defers = []) ∧ (sl q_ 3 = .pointer (some ⟨g3, 0, none⟩)) ∧ (sl q_ 6 = .pointer (some ⟨gb1, 0, none⟩)) ∧ (sl q_ 8 = v) ∧ (sl q_ 9 = .int .i64 a) ∧ (sl q_ 24 = .int .i64 a) ∧ (sl q_ 32 = .slice Aa ((la os D C a).length) ca) ∧ (sl q_ 33 = .int .i64 ((la os D C a).length)) ∧ (sl q_ 34 = .int .i64 j) ∧ (Below w.heap.size w w_) ∧ (w_.heap[g3]? = some (.cells ([.slice E xs.length d]).toArray 41 (0, 0))) ∧ (Below wb.heap.size wb w_) ∧ (OwnRow RL 67 12 w_ 0 v ys) ∧ (Inn w_ ys (wb.heap.size)) ∧ (0 ≤ j) ∧ (j ≤ (la os D C a).length) ∧ (Above w.heap.size v) ∧ (Above wb.heap.size v) ∧ (ys.map LO.o = upA os xs a.toNat ++ since ((oa os a).take j.toNat) xs) ∧ (n_ = ((la os D C a).length - j).toNat)) ((fun (j : Int) (v : Value) (ys : List LO) => ((la os D C a).length - j).toNat) 0 v ys) ?_ ?_
      · exact ⟨0, v, ys, hN, hD, s3, s6, s8, s9, s24, s32, s33, s34, HB, HBX3, HB1, HOV, HIN, (by omega), (by omega), bv, cv, (by rw [hym]; simp [since]), rfl⟩
      clear s3 s6 s8 s9 s24 s32 s33 s34 HB HBX3 HB1 HOV HIN hN hD
      rintro n_13 a13 w13 ⟨j, v, ys, hN, hD, s3, s6, s8, s9, s24, s32, s33, s34, HB, HBX3, HB1, HOV, HIN, hj0, hj1, bv, cv, hym, hmeas⟩
      refine wp_seq ?_
      refine deedL [.eq 35 (.bool (decide (j < (la os D C a).length))), .eq 3 (.pointer (some ⟨g3, 0, none⟩)), .eq 6 (.pointer (some ⟨gb1, 0, none⟩)), .eq 8 v, .eq 9 (.int .i64 a), .eq 24 (.int .i64 a), .eq 32 (.slice Aa ((la os D C a).length) ca), .eq 33 (.int .i64 ((la os D C a).length)), .eq 34 (.int .i64 j), .w (Below w13.heap.size w13)] 54 [[8, 7]] [] [0, 1, 2, 3, 4, 5, 6, 7, 8, 9] hM hN hD (by kernel_rfl) ⟨s3, s6, s8, s9, s24, s32, s33, s34, ⟨Below.refl _ _, below_drew (Below.refl _ _)⟩, trivial⟩ ⟨fun _ _ hb h => below_step h hb, trivial⟩ (fun hgrow => ⟨fun _ _ h => rv rfl (x_lss rfl h.1 h.2.1) rfl, trivial⟩) ?_
      clear s3 s6 s8 s9 s24 s32 s33 s34
      clear hN hD
      rintro a14 w14 hN hD ⟨s35, s3, s6, s8, s9, s24, s32, s33, s34, hGR, -⟩
      replace HB := below_step HB hGR
      replace HBX3 := blk_below HBX3 hGR
      replace HB1 := below_step HB1 hGR
      replace HOV := HOV.below hGR
      replace HIN := HIN.below hGR
      clear hGR
      show Code.wp _ _ _ _ _
      refine wp_seq ?_
      refine wp_cond (t := decide (j < (la os D C a).length)) s35 ?_
      rcases Bool.eq_false_or_eq_true (decide (j < (la os D C a).length)) with cd15 | cd15
      · rw [cd15]
        show Code.wp _ _ _ _ _
        have pd15 := of_decide_eq_true cd15
        have hj2 := pd15
        have hj3 : j < (oa os a).length := by rw [← la_len os D C a]; exact hj2
        have hgo : (gd (la os D C a) j).o = go_ (oa os a) j := by rw [gd_go, la_o]
        refine wp_skip ?_
        show Code.wp _ _ _ _ _
        refine wp_seq ?_
        refine wp_block ?_
        refine wp_seq ?_
        refine deedL [.eq 36 (.pointer (some ((adr Aa).add (j.toNat * 12)))), .eq 37 (.agg (ecLO (gd (la os D C a) j)).toArray), .s1 11 (NewB w14.heap.size [.int .i64 0, .int .i64 0, .int .i64 0, .slice none 0 0, .int .i64 0, .int .i64 0, .int .i64 0, .int .i64 0, .int .i64 0, .int .i64 0, .string ⟨#[]⟩, .string ⟨#[]⟩] 67), .s1 11 (NewB w14.heap.size (ecLO (gd (la os D C a) j)) 67), .eq 3 (.pointer (some ⟨g3, 0, none⟩)), .eq 6 (.pointer (some ⟨gb1, 0, none⟩)), .eq 8 v, .eq 9 (.int .i64 a), .eq 24 (.int .i64 a), .eq 32 (.slice Aa ((la os D C a).length) ca), .eq 33 (.int .i64 ((la os D C a).length)), .eq 34 (.int .i64 j), .w (Below w14.heap.size w14)] 54 [[9, 11], [0, 12], [12], [2, 1, 12]] [[], [], [], [2]] [3, 4, 5, 6, 7, 8, 9, 10, 11, 12] hM hN hD (by kernel_rfl) ⟨s3, s6, s8, s9, s24, s32, s33, s34, ⟨Below.refl _ _, below_drew (Below.refl _ _)⟩, trivial⟩ ⟨fun _ _ _ hb h => h.grow hb, fun _ _ _ hb h => h.grow hb, fun _ _ hb h => below_step h hb, trivial⟩ (fun hgrow => ⟨fun _ _ h => rv rfl (x_index_at rfl h.1 h.2.1 Try.underlying27 sz67 (by omega) (by omega) (RV.ad HRa j (by omega) (by omega))) rfl,
          fun _ _ h => rv rfl (x_loadS rfl h.1 Try.underlying67 (ecLO (gd (la os D C a) j)) sz67 (RV.cells HRa (below_step HB1 h.2.1) (by omega) (by omega))) rfl,
          fun _ _ h => rbox hgrow rfl (x_alloc rfl zr67) h.1.size (fun _ _ z => z),
          ?_, trivial⟩) ?_
        · rintro a_ W ⟨h2, h1, h12, -⟩
          obtain ⟨g11, e3, l3, hb3⟩ := h2
          exact rstoreS rfl rfl e3 h1 (by simp [Value.oneCell']) sz67 hb3 rfl ⟨_, e3, l3, blk_stored (cs := (ecLO (gd (la os D C a) j))) 0 _ [.int .i64 0, .int .i64 0, .int .i64 0, .slice none 0 0, .int .i64 0, .int .i64 0, .int .i64 0, .int .i64 0, .int .i64 0, .int .i64 0, .string ⟨#[]⟩, .string ⟨#[]⟩] hb3 (of_decide_eq_true rfl)⟩ ⟨fun h => below_cells h l3, trivial⟩
        clear s3 s6 s8 s9 s24 s32 s33 s34 s35
        clear hN hD
        rintro a16 w16 hN hD ⟨⟨g11, s11, lg11, HBX11⟩, s3, s6, s8, s9, s24, s32, s33, s34, hGR, -⟩
        have lx11 := lg11
        have hv11 := fun k hk => own_lt HOV.choose_spec.1 k hk
        replace lg11 := Nat.le_trans HB.size lg11
        replace HB := below_step HB hGR
        replace HBX3 := blk_below HBX3 hGR
        replace HB1 := below_step HB1 hGR
        replace HOV := HOV.below hGR
        replace HIN := HIN.below hGR
        clear hGR
        show Code.wp _ _ _ _ _
        refine wp_seq ?_
        refine deedL (.eq 38 (.pointer (some ⟨g11, 1, none⟩)) :: .eq 39 (.int .i64 ((gd (la os D C a) j).o.seq)) :: .eq 40 (.pointer (some ⟨g3, 0, none⟩)) :: .eq 41 (.slice E xs.length d) :: .eq 42 (.int .i64 a) :: .eq 43 (.pointer (some ((adr E).add (a.toNat * 1)))) :: .eq 44 (.int .i64 (gi xs a)) :: .eq 45 (.bool (decide (gi xs a < (gd (la os D C a) j).o.seq))) :: .eq 3 (.pointer (some ⟨g3, 0, none⟩)) :: .eq 6 (.pointer (some ⟨gb1, 0, none⟩)) :: .eq 8 v :: .eq 9 (.int .i64 a) :: .eq 11 (.pointer (some ⟨g11, 0, none⟩)) :: .eq 24 (.int .i64 a) :: .eq 32 (.slice Aa ((la os D C a).length) ca) :: .eq 33 (.int .i64 ((la os D C a).length)) :: .eq 34 (.int .i64 j) :: .w (Below w16.heap.size w16) :: []) 54 [[12], [0, 17], [8], [2, 17], [11], [3, 4], [5, 17], [1, 6]] [] [7, 8, 9, 10, 11, 12, 13, 14, 15, 16, 17] hM hN hD (by kernel_rfl) ⟨s3, s6, s8, s9, s11, s24, s32, s33, s34, ⟨Below.refl _ _, below_drew (Below.refl _ _)⟩, trivial⟩ ⟨fun _ _ hb h => below_step h hb, trivial⟩ (fun hgrow => ⟨fun _ _ h => rv rfl (x_field rfl h.1 Try.underlying67 rfl sz3 (by decide) rfl) rfl,
          fun _ _ h => rv rfl (x_load1 rfl h.1 Try.underlying3 rfl (blk_one (L := ecLO (gd (la os D C a) j)) (blk_below HBX11 h.2.1) 1 rfl)) rfl,
          fun _ _ h => rv rfl (x_field rfl h.1 Try.underlying41 rfl sz24 (by decide) rfl) rfl,
          fun _ _ h => rv rfl (x_load1 rfl h.1 Try.underlying24 rfl (blk_one (L := [.slice E xs.length d]) (blk_below HBX3 h.2.1) 0 rfl)) rfl,
          fun _ _ h => rv rfl (x_move rfl h.1) rfl,
          fun _ _ h => rv rfl (x_index_at rfl h.1 h.2.1 Try.underlying24 sz3 ha0 (by omega) (RI.ad HV a ha0 (by omega))) rfl,
          fun _ _ h => rv rfl (x_load1 rfl h.1 Try.underlying3 rfl (RI.at_ HV (below_step HB h.2.1) ha0 (by omega))) rfl,
          fun _ _ h => rv rfl (x_gtr rfl h.1 h.2.1) rfl, trivial⟩) ?_
        clear s3 s6 s8 s9 s24 s32 s33 s34 s11
        clear hN hD
        rintro a17 w17 hN hD ⟨s45, s3, s6, s8, s9, s11, s24, s32, s33, s34, hGR, -⟩
        replace HB := below_step HB hGR
        replace HBX3 := blk_below HBX3 hGR
        replace HB1 := below_step HB1 hGR
        replace HOV := HOV.below hGR
        replace HIN := HIN.below hGR
        replace HBX11 := blk_below HBX11 hGR
        clear hGR
        show Code.wp _ _ _ _ _
        refine wp_cond (t := decide (gi xs a < (gd (la os D C a) j).o.seq)) s45 ?_
        rcases Bool.eq_false_or_eq_true (decide (gi xs a < (gd (la os D C a) j).o.seq)) with cd18 | cd18
        · rw [cd18]
          show Code.wp _ _ _ _ _
          have pd18 := of_decide_eq_true cd18
          have hd2 : decide (gi xs (go_ (oa os a) j).actor < (go_ (oa os a) j).seq) = true := by rw [oa_actor hj0 hj3, ← hgo]; exact cd18
          have hdl := hfit.deps (by rw [hgo]; exact oa_mem hj0 hj3 : (gd (la os D C a) j).o ∈ os)
          have hyl := congrArg List.length hym
          rw [List.length_map, List.length_append] at hyl
          have hyl2 := since_le ((oa os a).take j.toNat) xs
          have hyl3 : ((oa os a).take j.toNat).length ≤ os.length := by rw [List.length_take]; have := oa_le os a; omega
          have hyl4 := upA_le (os := os) (xs := xs) a.toNat
          have hyl5 : a.toNat * os.length ≤ 16 * 1024 := Nat.mul_le_mul (by omega) hfit.len
          have HLO := HB1.size
          refine deedL (.eq 46 v :: .eq 47 (.agg (ecLO (gd (la os D C a) j)).toArray) :: (.s1 48 fun x_ W => ∃ (A48 : Option Addr) (c48 : Nat), x_ = .agg (opc (gd (la os D C a) j).o A48 c48).toArray ∧ OwnI W A48 ((gd (la os D C a) j).o.deps) (w17.heap.size) W.heap.size ∧ (gd (la os D C a) j).o.deps.length ≤ c48) :: (.s2 48 49 fun x_ y_ W => ∃ (A48 : Option Addr) (c48 : Nat), x_ = .agg (opc ((gd (la os D C a) j).o) A48 c48).toArray ∧ NewL (opc ((gd (la os D C a) j).o) A48 c48) 67 y_ W) :: (.s1 50 fun x_ W => ∃ (v50 : Value) (A48 : Option Addr) (c48 : Nat), x_ = v50 ∧ OwnRow RL 67 12 W 0 v50 (ys ++ [LO.mk ((gd (la os D C a) j).o) A48 c48]) ∧ Inn W (ys ++ [LO.mk ((gd (la os D C a) j).o) A48 c48]) (wb.heap.size) ∧ Above (wb.heap.size) v50) :: (.s2 50 8 fun x_ y_ _ => ∃ (v50 : Value), x_ = v50 ∧ y_ = v50) :: .eq 3 (.pointer (some ⟨g3, 0, none⟩)) :: .eq 6 (.pointer (some ⟨gb1, 0, none⟩)) :: .eq 8 v :: .eq 9 (.int .i64 a) :: .eq 11 (.pointer (some ⟨g11, 0, none⟩)) :: .eq 24 (.int .i64 a) :: .eq 32 (.slice Aa ((la os D C a).length) ca) :: .eq 33 (.int .i64 ((la os D C a).length)) :: .eq 34 (.int .i64 j) :: (.w (Kx (fun k => some k = v.ownBlock) w17)) :: (.w fun W => OwnRow RL 67 12 W 0 v ys) :: []) 54 [[8], [10, 15], [1, 15], [2], [0, 2, 3, 16, 15], [4]] [[], [], [], [], [2, 3, 5, 16], [8]] [4, 5, 6, 7, 9, 10, 11, 12, 13, 14, 15] hM hN hD (by kernel_rfl) ⟨s3, s6, s8, s9, s11, s24, s32, s33, s34, ⟨Kx.refl _ _, Kx.drew _ _⟩, ⟨HOV, HOV.below (below_drew (Below.refl _ _))⟩, trivial⟩ ⟨fun _ _ _ hb h => by obtain ⟨A48, c48, e_, z0, z1⟩ := h; exact ⟨_, _, e_, (z0.below hb).wide (Nat.le_refl _) hb.size, z1⟩, fun _ _ _ _ hb h => by obtain ⟨a_, b_, e_, z⟩ := h; exact ⟨a_, b_, e_, z.grow hb⟩, fun _ _ _ hb h => by obtain ⟨a_, b_, c_, e_, h1_, h2_, h3_⟩ := h; exact ⟨a_, b_, c_, e_, h1_.below hb, h2_.below hb, h3_⟩, fun _ _ _ _ hb h => h, fun _ _ hb h => h.step hb, fun _ _ hb h => h.below hb, trivial⟩ (fun hgrow => ⟨fun _ _ h => rv rfl (x_move rfl h.1) rfl,
            fun _ _ h => rv rfl (x_loadS rfl h.1 Try.underlying67 (ecLO (gd (la os D C a) j)) sz67 (blk_list (L := ecLO (gd (la os D C a) j)) (blk_kx HBX11 h.2.1 (fun e => by have := hv11 _ e.symm; omega)) 0 rfl)) rfl,
            fun _ _ h => rc hgrow rfl Try.func61 (by kernel_rfl) rfl rfl (args1 h.1) (iCopy_calls (gd (la os D C a) j).o (gd (la os D C a) j).A (gd (la os D C a) j).c _ (RI.below (RV.inn HRa (by omega) (by omega) rfl) (Kx.below HB1 h.2.1 HB1.size (fun k e => cv k e.symm))) (by omega) (by omega)) (fun _ _ hR => by obtain ⟨A48, c48, e_, z0, z1, hb⟩ := hR; exact ⟨_, e_, hb, A48, c48, rfl, (z0.wide h.2.1.size (Nat.le_refl _)), z1⟩),
            ?_,
            ?_,
            ?_, trivial⟩) ?_
          · rintro a_ W ⟨h2, -⟩
            obtain ⟨A48, c48, e2, HOI_, HCC_⟩ := h2
            exact rbuild1 hgrow rfl rfl Try.underlying27 zi67 (by decide) (by decide) e2 rfl rfl (fun _ _ z => ⟨_, _, e2, z⟩)
          · rintro a_ W ⟨h0, h2, h3, h16, h15, -⟩
            obtain ⟨A48, c48, ec_, HOI_, HCC_⟩ := h2
            obtain ⟨A2_, c2_, ed_, hn_⟩ := h3
            cases ec_.symm.trans ed_
            exact rappCopy (lo := wb.heap.size) (p := ((gd (la os D C a) j).o)) (A := A48) (c := c48) rfl rfl Try.underlying27 inf67 rfl (by decide) (by decide) h0 hn_ HOV h16 HIN HOI_ HCC_ (by omega) cv HLO h15 (fun v1_ W2_ u1 u2 u3 u4 => owe_keep ⟨fun h => u4, trivial⟩ ⟨v1_, A48, c48, rfl, u1, u2, u3⟩)
          · rintro a_ W ⟨h4, -⟩
            obtain ⟨v50, A48, c48, e4, HO_, HI_, hb4⟩ := h4
            exact rv rfl (x_assign rfl e4) ⟨_, e4, rfl⟩
          clear s3 s6 s8 s9 s11 s24 s32 s33 s34 s45
          clear hN hD
          rintro a19 w19 hN hD ⟨⟨v50, A48, c48, s50, HOVN, HINN, cv50⟩, q8, s3, s6, s9, s11, s24, s32, s33, s34, hGR, -⟩
          obtain ⟨v50_, e_, s8⟩ := q8
          cases s50.symm.trans e_
          have NB := Kx.below HB hGR HB.size (fun k e => bv k e.symm)
          have NBX3 := blk_kx HBX3 hGR (own_blk HOV HBX3 rfl)
          have NB1 := Kx.below HB1 hGR HB1.size (fun k e => cv k e.symm)
          clear HIN
          clear HBX11
          replace HB := NB
          replace HBX3 := NBX3
          replace HB1 := NB1
          clear NB NBX3 NB1
          replace HOV := HOVN
          clear HOVN
          have HIN := HINN
          clear HINN
          have bv50 := Above.le cv50 HLW
          clear hGR
          show Code.wp _ _ _ _ _
          refine deedL [.eq 51 (.int .i64 (j + 1)), .eq 34 (.int .i64 (j + 1)), .eq 3 (.pointer (some ⟨g3, 0, none⟩)), .eq 6 (.pointer (some ⟨gb1, 0, none⟩)), .eq 8 v50, .eq 9 (.int .i64 a), .eq 24 (.int .i64 a), .eq 32 (.slice Aa ((la os D C a).length) ca), .eq 33 (.int .i64 ((la os D C a).length)), .eq 34 (.int .i64 j), .w (Below w19.heap.size w19)] 54 [[9], [0]] [[], [9]] [1, 2, 3, 4, 5, 6, 7, 8, 10] hM hN hD (by kernel_rfl) ⟨s3, s6, s8, s9, s24, s32, s33, s34, ⟨Below.refl _ _, below_drew (Below.refl _ _)⟩, trivial⟩ ⟨fun _ _ hb h => below_step h hb, trivial⟩ (fun hgrow => ⟨fun _ _ h => rv rfl (x_add' rfl h.1 rfl (by omega)) rfl,
            fun _ _ h => rv rfl (x_move rfl h.1) rfl, trivial⟩) ?_
          clear s3 s6 s9 s11 s24 s32 s33 s34 s8
          clear hN hD
          rintro a20 w20 hN hD ⟨s34, s3, s6, s8, s9, s24, s32, s33, hGR, -⟩
          replace HB := below_step HB hGR
          replace HBX3 := blk_below HBX3 hGR
          replace HB1 := below_step HB1 hGR
          replace HOV := HOV.below hGR
          replace HIN := HIN.below hGR
          clear hGR
          show ∃ m, m < n_13 ∧ _
          exact ⟨_, (by omega), ⟨(j + 1), v50, (ys ++ [LO.mk ((gd (la os D C a) j).o) A48 c48]), hN, hD, s3, s6, s8, s9, s24, s32, s33, s34, HB, HBX3, HB1, HOV, HIN, (by omega), (by omega), bv50, cv50, (by rw [since_t hj0 hj3 hd2, ← List.append_assoc, ← hym, List.map_append, ← hgo]; rfl), rfl⟩⟩
        · rw [cd18]
          show Code.wp _ _ _ _ _
          have pd18 := of_decide_eq_false cd18
          have hd2 : decide (gi xs (go_ (oa os a) j).actor < (go_ (oa os a) j).seq) = false := by rw [oa_actor hj0 hj3, ← hgo]; exact cd18
          refine wp_skip ?_
          show Code.wp _ _ _ _ _
          refine deedL [.eq 51 (.int .i64 (j + 1)), .eq 34 (.int .i64 (j + 1)), .eq 3 (.pointer (some ⟨g3, 0, none⟩)), .eq 6 (.pointer (some ⟨gb1, 0, none⟩)), .eq 8 v, .eq 9 (.int .i64 a), .eq 24 (.int .i64 a), .eq 32 (.slice Aa ((la os D C a).length) ca), .eq 33 (.int .i64 ((la os D C a).length)), .eq 34 (.int .i64 j), .w (Below w17.heap.size w17)] 54 [[9], [0]] [[], [9]] [1, 2, 3, 4, 5, 6, 7, 8, 10] hM hN hD (by kernel_rfl) ⟨s3, s6, s8, s9, s24, s32, s33, s34, ⟨Below.refl _ _, below_drew (Below.refl _ _)⟩, trivial⟩ ⟨fun _ _ hb h => below_step h hb, trivial⟩ (fun hgrow => ⟨fun _ _ h => rv rfl (x_add' rfl h.1 rfl (by omega)) rfl,
            fun _ _ h => rv rfl (x_move rfl h.1) rfl, trivial⟩) ?_
          clear s3 s6 s8 s9 s11 s24 s32 s33 s34 s45
          clear hN hD
          rintro a21 w21 hN hD ⟨s34, s3, s6, s8, s9, s24, s32, s33, hGR, -⟩
          replace HB := below_step HB hGR
          replace HBX3 := blk_below HBX3 hGR
          replace HB1 := below_step HB1 hGR
          replace HOV := HOV.below hGR
          replace HIN := HIN.below hGR
          replace HBX11 := blk_below HBX11 hGR
          clear hGR
          show ∃ m, m < n_13 ∧ _
          exact ⟨_, (by omega), ⟨(j + 1), v, ys, hN, hD, s3, s6, s8, s9, s24, s32, s33, s34, HB, HBX3, HB1, HOV, HIN, (by omega), (by omega), bv, cv, (by rw [since_f hj0 hj3 hd2]; exact hym), rfl⟩⟩
      · rw [cd15]
        show Code.wp _ _ _ _ _
        have pd15 := of_decide_eq_false cd15
        refine wp_exit (then_exit (then_exit (at_exit ?_)))
        show Code.wp _ _ _ _ _
        refine deedL [.eq 52 (.int .i64 (a + 1)), .eq 24 (.int .i64 (a + 1)), .eq 3 (.pointer (some ⟨g3, 0, none⟩)), .eq 6 (.pointer (some ⟨gb1, 0, none⟩)), .eq 8 v, .eq 24 (.int .i64 a), .w (Below w14.heap.size w14)] 54 [[5], [0]] [[], [5]] [1, 2, 3, 4, 6] hM hN hD (by kernel_rfl) ⟨s3, s6, s8, s24, ⟨Below.refl _ _, below_drew (Below.refl _ _)⟩, trivial⟩ ⟨fun _ _ hb h => below_step h hb, trivial⟩ (fun hgrow => ⟨fun _ _ h => rv rfl (x_add' rfl h.1 rfl (by omega)) rfl,
          fun _ _ h => rv rfl (x_move rfl h.1) rfl, trivial⟩) ?_
        clear s3 s6 s8 s9 s24 s32 s33 s34 s35
        clear hN hD
        rintro a22 w22 hN hD ⟨s24, s3, s6, s8, hGR, -⟩
        replace HB := below_step HB hGR
        replace HBX3 := blk_below HBX3 hGR
        replace HB1 := below_step HB1 hGR
        replace HOV := HOV.below hGR
        replace HIN := HIN.below hGR
        clear hGR
        show ∃ m, m < n_8 ∧ _
        exact ⟨_, (by omega), ⟨(a + 1), v, ys, hN, hD, s3, s6, s8, s24, HB, HBX3, HB1, HOV, HIN, (by omega), (by omega), bv, cv, (by rw [upA_step ha0, hym, List.take_of_length_le (by rw [← la_len os D C a]; omega)]), rfl⟩⟩
    · rw [cd10]
      show Code.wp _ _ _ _ _
      have pd10 := of_decide_eq_false cd10
      refine wp_exit (then_exit (then_exit (at_exit ?_)))
      show Code.wp _ _ _ _ _
      refine wp_seq ?_
      refine deedL [.eq 53 v, .eq 4 v, .eq 5 (.int .i64 0), .eq 8 v, .w (Below w9.heap.size w9)] 54 [[3], [0], []] [] [1, 2, 3, 4] hM hN hD (by kernel_rfl) ⟨s8, ⟨Below.refl _ _, below_drew (Below.refl _ _)⟩, trivial⟩ ⟨fun _ _ hb h => below_step h hb, trivial⟩ (fun hgrow => ⟨fun _ _ h => rv rfl (x_move rfl h.1) rfl,
        fun _ _ h => rv rfl (x_assign rfl h.1) rfl,
        fun _ _ _ => rv rfl (x_assign rfl rfl) rfl, trivial⟩) ?_
      clear s3 s6 s8 s24 s25
      clear hN hD
      rintro a23 w23 hN hD ⟨s4, s5, s8, hGR, -⟩
      replace HB := below_step HB hGR
      replace HBX3 := blk_below HBX3 hGR
      replace HB1 := below_step HB1 hGR
      replace HOV := HOV.below hGR
      replace HIN := HIN.below hGR
      clear hGR
      show Code.wp _ _ _ _ _
      refine wp_ret ?_
      refine bodyPost_ret (fn := Try.f26) (results_list (rs := [.tmp 4, .tmp 5]) (vs := [v, .int .i64 0]) rfl (by simp) (vtmp s4 (vtmp s5 .nil))) hD ?_
      obtain ⟨A9, c9, hv9, hc9, ho9⟩ := own_L HOV cv HIN
      have hq9 : ys.map LO.o = sSince os xs := by unfold sSince; rw [if_pos ⟨hsl, hvo⟩, hym, show a.toNat = 16 by omega, upA_all hfit]
      rw [hv9, if_pos ⟨hsl, hvo⟩]
      exact ⟨A9, c9, ys, by rw [len_of' hq9], ho9.wide HLW (Nat.le_refl _), hq9, HB⟩
end Go.Proofs.Ytideafkiaipnoaa.Q

/- LogSince, both sides, as the law calls them. -/
namespace Go.Proofs.Ytideafkiaipnoaa.Q
set_option linter.unusedVariables false
set_option linter.unusedSimpArgs false
open Go Go.RowKit Go.Proofs.YtideafkiaipnoaaW.PrintWords Go.Proofs.Ytideafkiaipnoaa.Deed
section
variable (A : Option Addr) (ys : List LO) (c : Nat) (os : List Op) (E : Option Addr) (xs : List Int) (d : Nat) (w : World) (hm : ys.map LO.o = os) (HR : RV eLO w A ys) (HC : Caps ys) (HV : RI w E xs)
include hm HR HC HV
theorem sSince_L : Calls Try.prog 24 #[.slice A os.length c, .agg #[.slice E xs.length d]] w fun e w' => ∃ A' c' zs, e = .returned (.tuple #[.slice A' (sSince os xs).length c', .int .i64 (if sLogOK os = true ∧ vecOK xs = true then 0 else 1)]) ∧ OwnAt eLO w' A' zs w.heap.size w'.heap.size ∧ zs.map LO.o = sSince os xs ∧ Below w.heap.size w w' := by
  subst hm
  exact sSince_calls A (ys.map LO.o) (dA ys) (dC ys) c E xs d w (RO_of HR HC) HV
theorem iSince_L : Calls Try.prog 26 #[.slice A os.length c, .agg #[.slice E xs.length d]] w fun e w' => ∃ A' c' zs, e = .returned (.tuple #[.slice A' (sSince os xs).length c', .int .i64 (if sLogOK os = true ∧ vecOK xs = true then 0 else 1)]) ∧ OwnAt eLO w' A' zs w.heap.size w'.heap.size ∧ zs.map LO.o = sSince os xs ∧ Below w.heap.size w w' := by
  subst hm
  exact iSince_calls A (ys.map LO.o) (dA ys) (dC ys) c E xs d w (RO_of HR HC) HV
end
theorem tot_sub {ls os : List Op} (h : ls.Sublist os) : tot ls ≤ tot os := by
  induction h with
  | slnil => exact Int.le_refl _
  | cons x _ ih =>
    have : 0 ≤ wt x := by unfold wt; omega
    simp only [tot]; omega
  | cons_cons x _ ih => simp only [tot]; omega
theorem sSince_sub (os : List Op) (xs : List Int) : (sSince os xs).Sublist os := by
  unfold sSince
  split
  · exact List.filter_sublist
  · exact List.nil_sublist _
/-- What a part of a log weighs. -/
theorem part_cnt {ys ls : List LO} {os : List Op} (hy : ys.map LO.o = os) (hs : os.Sublist (ls.map LO.o)) : cntL mLO ys ≤ 11 * ls.length + tot (ls.map LO.o) := by
  have h1 := cnt_tot ys
  rw [hy] at h1
  have h2 := tot_sub hs
  have h3 := hs.length_le
  rw [List.length_map] at h3
  have h4 := len_of' hy
  omega
theorem part_len {ls : List LO} {os : List Op} (hs : os.Sublist (ls.map LO.o)) : os.length ≤ ls.length := by
  have := hs.length_le
  rwa [List.length_map] at this
theorem part_deps {ls : List LO} {os : List Op} {n : Nat} (hs : os.Sublist (ls.map LO.o)) (h : ∀ x ∈ ls, x.o.deps.length ≤ n) : ∀ o ∈ os, o.deps.length ≤ n := by
  intro o ho
  obtain ⟨x, hx, rfl⟩ := List.mem_map.1 (hs.subset ho)
  exact h x hx
end Go.Proofs.Ytideafkiaipnoaa.Q

/- Functions walked. -/
namespace Go.Proofs.Ytideafkiaipnoaa.Q
open Go Go.RowKit Go.Proofs.YtideafkiaipnoaaW.PrintWords Go.Proofs.YtideafkiaipnoaaW.PrintLast Go.Proofs.Ytideafkiaipnoaa.Deed
set_option maxRecDepth 100000
set_option linter.unusedVariables false
set_option linter.unusedSimpArgs false
theorem toV_L (A : Option Addr) (xs : List Int) (c : Nat) (w : World) (HR : RI w A xs) (hn : xs.length ≤ 1048576) : Calls Try.prog 25 #[.agg #[.slice A xs.length c]] w fun e w' => ∃ A' c', e = .returned (.agg #[.slice A' xs.length c']) ∧ OwnI w' A' xs w.heap.size w'.heap.size ∧ Below w.heap.size w w' := by
  refine (toV_calls A xs c w HR hn).mono ?_
  rintro e w' ⟨g, rfl, h1, h2, hb⟩
  exact ⟨_, _, rfl, OwnI.of_IB h2 h1 (blk_lt h2), hb⟩
set_option maxHeartbeats 2000000 in
theorem markV_L (A : Option Addr) (xs : List Int) (c : Nat) (k : Int) (lo hi : Nat) (w : World) (HOW : OwnI w A xs lo hi) (hk0 : 0 ≤ k) (hk1 : k + xs.length ≤ 4503599627370496) : Calls Try.prog 28 #[.agg #[Value.slice A xs.length c], .int .i64 k] w fun e w' => e = .returned (.int .i64 (k + xs.length)) ∧ OwnI w' A (mk k xs.length) lo hi ∧ Kx (Mine lo hi) w w' := by
  refine calls_of_wp Try.func28 rfl ?_
  refine enter_ (N := 10) rfl ?_
  rintro a0 hN hD ⟨s0, s1, -⟩
  have HKX : Kx (Mine lo hi) w w := Kx.refl _ _
  refine wp_seq ?_
  refine deedL [.s1 2 (NewB w.heap.size [.slice A xs.length c] 41), .eq 4 (.int .i64 0), .eq 0 (.agg #[Value.slice A xs.length c]), .eq 1 (.int .i64 k), .w (Below w.heap.size w)] 10 [[4, 2], []] [] [0, 2, 3, 4] hM hN hD (by kernel_rfl) ⟨s0, s1, ⟨Below.refl _ _, below_drew (Below.refl _ _)⟩, trivial⟩ ⟨fun _ _ _ hb h => h.grow hb, fun _ _ hb h => below_step h hb, trivial⟩ (fun hgrow => ⟨fun _ _ h => rbox hgrow rfl (x_box rfl h.2.1) h.1.size (fun _ _ z => z),
    fun _ _ _ => rv rfl (x_assign rfl rfl) rfl, trivial⟩) ?_
  clear s0 s1
  clear hN hD
  rintro a1 w1 hN hD ⟨⟨g2, s2, lg2, HBX2⟩, s0, s1, hGR, -⟩
  replace HOW := HOW.below hGR
  replace HKX := HKX.step hGR
  clear hGR
  show Code.wp _ _ _ _ _
  refine wp_seq ?_
  refine deedL [.eq 5 (.pointer (some ⟨g2, 0, none⟩)), .eq 6 (.slice A xs.length c), .eq 7 (.int .i64 k), .s1 8 fun x_ W => x_ = .int .i64 (k + (xs.length : Int)) ∧ OwnI W A (mk k xs.length) lo hi ∧ Kx (Mine lo hi) w1 W, .eq 1 (.int .i64 (k + (xs.length : Int))), .eq 1 (.int .i64 k), .eq 2 (.pointer (some ⟨g2, 0, none⟩)), .w (Below w1.heap.size w1)] 10 [[6], [0, 7], [5], [1, 2, 7], [3]] [[], [], [], [7], [5]] [4, 3, 6] hM hN hD (by kernel_rfl) ⟨s1, s2, ⟨Below.refl _ _, below_drew (Below.refl _ _)⟩, trivial⟩ ⟨fun _ _ _ hb h => ⟨h.1, h.2.1.below hb, h.2.2.step hb⟩, fun _ _ hb h => below_step h hb, trivial⟩ (fun hgrow => ⟨fun _ _ h => rv rfl (x_field rfl h.1 Try.underlying41 rfl sz24 (by decide) rfl) rfl,
    fun _ _ h => rv rfl (x_load1 rfl h.1 Try.underlying24 rfl (blk_one (L := [.slice A xs.length c]) (blk_below HBX2 h.2.1) 0 rfl)) rfl,
    fun _ _ h => rv rfl (x_move rfl h.1) rfl,
    ?_,
    ?_, trivial⟩) ?_
  · rintro a_ W ⟨h1, h2, h7, -⟩
    have hm_ := HOW.below h7
    exact runs_call Try.func19 (by kernel_rfl) rfl _ (wanted_none rfl) rfl (args2 h1 h2) ((markI_L A xs c k lo hi W hm_ hk0 hk1).mono fun e W2 hR => by obtain ⟨u1, u2, u3⟩ := hR; exact ⟨_, u1, owe_keep trivial ⟨rfl, u2, kx_tr (kx_of_below h7 _) u3⟩⟩)
  · rintro a_ W ⟨h3, -⟩
    obtain ⟨e3, how_, hkx_⟩ := h3
    exact rv rfl (x_assign rfl e3) rfl
  clear s0 s1 s2
  clear hN hD
  clear HOW
  clear HBX2
  rintro a2 w2 hN hD ⟨s1, ⟨s8, HOWN, hkx⟩, s2, -⟩
  replace HKX := (kx_tr HKX hkx)
  have HOW := HOWN
  clear HOWN
  show Code.wp _ _ _ _ _
  refine wp_seq ?_
  refine deedL [.eq 9 (.int .i64 (k + (xs.length : Int))), .eq 4 (.int .i64 (k + (xs.length : Int))), .eq 1 (.int .i64 (k + (xs.length : Int))), .w (Below w2.heap.size w2)] 10 [[2], [0]] [] [1, 2, 3] hM hN hD (by kernel_rfl) ⟨s1, ⟨Below.refl _ _, below_drew (Below.refl _ _)⟩, trivial⟩ ⟨fun _ _ hb h => below_step h hb, trivial⟩ (fun hgrow => ⟨fun _ _ h => rv rfl (x_move rfl h.1) rfl,
    fun _ _ h => rv rfl (x_assign rfl h.1) rfl, trivial⟩) ?_
  clear s2 s1
  clear hN hD
  rintro a3 w3 hN hD ⟨s4, s1, hGR, -⟩
  replace HKX := HKX.step hGR
  replace HOW := HOW.below hGR
  clear hGR
  show Code.wp _ _ _ _ _
  refine wp_ret ?_
  refine bodyPost_ret (results_single rfl (vtmp s4 .nil)) hD ?_
  exact ⟨rfl, HOW, HKX⟩
end Go.Proofs.Ytideafkiaipnoaa.Q

/- Functions walked. -/
namespace Go.Proofs.Ytideafkiaipnoaa.Q
open Go Go.RowKit Go.Proofs.YtideafkiaipnoaaW.PrintWords Go.Proofs.YtideafkiaipnoaaW.PrintLast Go.Proofs.Ytideafkiaipnoaa.Deed
set_option maxRecDepth 100000
set_option linter.unusedVariables false
set_option linter.unusedSimpArgs false
set_option maxHeartbeats 2000000 in
theorem lawLogSince_calls (A0_ : Option Addr) (l0 : List LO) (c0_ : Nat) (A1_ : Option Addr) (l1 : List Int) (c1_ : Nat) (w : World) (HR0 : RV eLO w A0_ l0) (HC0 : Caps l0) (HH0 : Held (l0.map LO.o)) (HR1 : RI w A1_ l1) (HH1 : l1.length ≤ 9223372036854775807) : Calls Try.prog 5 #[.slice A0_ l0.length c0_, .agg #[Value.slice A1_ l1.length c1_]] w fun e w' => e = .returned (.bool true) ∧ Below w.heap.size w w' := by
  refine calls_of_wp Try.func5 rfl ?_
  refine enter_ (N := 119) rfl ?_
  rintro a0 hN hD ⟨s0, s1, -⟩
  have HB : Below w.heap.size w w := Below.refl _ _
  refine wp_seq ?_
  refine deedL [.s1 3 (NewB w.heap.size [.slice A1_ l1.length c1_] 37), .eq 4 (.bool false), .eq 0 (.slice A0_ l0.length c0_), .eq 1 (.agg #[Value.slice A1_ l1.length c1_]), .w (Below w.heap.size w)] 119 [[4, 3], []] [] [0, 2, 3, 4] hM hN hD (by kernel_rfl) ⟨s0, s1, ⟨Below.refl _ _, below_drew (Below.refl _ _)⟩, trivial⟩ ⟨fun _ _ _ hb h => h.grow hb, fun _ _ hb h => below_step h hb, trivial⟩ (fun hgrow => ⟨fun _ _ h => rbox hgrow rfl (x_box rfl h.2.1) h.1.size (fun _ _ z => z),
    fun _ _ _ => rv rfl (x_assign rfl rfl) rfl, trivial⟩) ?_
  clear s0 s1
  clear hN hD
  rintro a1 w1 hN hD ⟨⟨g3, s3, lg3, HBX3⟩, s0, s1, hGR, -⟩
  have lb_g3 := lg3
  replace HB := below_step HB hGR
  have ub_g3 : g3 < w1.heap.size := blk_lt HBX3
  have zsw1 : w.heap.size ≤ w1.heap.size := hGR.size
  clear hGR
  show Code.wp _ _ _ _ _
  refine wp_seq ?_
  refine deedL [.eq 5 (.int .i64 1048576), .eq 0 (.slice A0_ l0.length c0_), .eq 3 (.pointer (some ⟨g3, 0, none⟩)), .w (Below w1.heap.size w1)] 119 [[]] [] [0, 1, 2, 3] hM hN hD (by kernel_rfl) ⟨s0, s3, ⟨Below.refl _ _, below_drew (Below.refl _ _)⟩, trivial⟩ ⟨fun _ _ hb h => below_step h hb, trivial⟩ (fun hgrow => ⟨fun _ _ _ => rv rfl (x_assign rfl rfl) rfl, trivial⟩) ?_
  clear s0 s1 s3
  clear hN hD
  rintro a2 w2 hN hD ⟨s5, s0, s3, hGR, -⟩
  replace HB := below_step HB hGR
  replace HBX3 := blk_below HBX3 hGR
  have zsw2 : w1.heap.size ≤ w2.heap.size := hGR.size
  clear hGR
  show Code.wp _ _ _ _ _
  refine wp_seq ?_
  refine deedL [.eq 17 (.slice A0_ l0.length c0_), .eq 18 (.int .i64 1048576), .s1 19 fun x_ W => ∃ (r0 : Int), x_ = .int .i64 r0 ∧ (0 ≤ r0 → (l0.length : Int) + tot (l0.map LO.o) + r0 ≤ 1048576), .s2 19 5 fun x_ y_ _ => ∃ (r0 : Int), x_ = .int .i64 r0 ∧ y_ = .int .i64 r0, .eq 0 (.slice A0_ l0.length c0_), .eq 3 (.pointer (some ⟨g3, 0, none⟩)), .eq 5 (.int .i64 1048576), .w (Below w2.heap.size w2)] 119 [[4], [6], [0, 1, 7], [2]] [[], [], [], [6]] [2, 3, 4, 5, 7] hM hN hD (by kernel_rfl) ⟨s0, s3, s5, ⟨Below.refl _ _, below_drew (Below.refl _ _)⟩, trivial⟩ ⟨fun _ _ _ hb h => by obtain ⟨r0, e_, z0⟩ := h; exact ⟨_, e_, z0⟩, fun _ _ _ _ hb h => h, fun _ _ hb h => below_step h hb, trivial⟩ (fun hgrow => ⟨fun _ _ h => rv rfl (x_move rfl h.1) rfl,
    fun _ _ h => rv rfl (x_move rfl h.1) rfl,
    fun _ _ h => rc hgrow rfl Try.func12 (by kernel_rfl) rfl rfl (args2 h.1 h.2.1) (szOpS_L A0_ l0 c0_ 1048576 _ (RV.below HR0 (below_step HB h.2.2.1)) HC0 HH0 (by omega) (by omega)) (fun _ _ hR => by obtain ⟨r0, e_, z0, hb⟩ := hR; exact ⟨_, e_, hb, r0, rfl, z0⟩),
    ?_, trivial⟩) ?_
  · rintro a_ W ⟨h2, -⟩
    obtain ⟨r0, e2, HLr0⟩ := h2
    exact rv rfl (x_assign rfl e2) ⟨_, e2, rfl⟩
  clear s0 s3 s5
  clear hN hD
  rintro a3 w3 hN hD ⟨⟨r0, s19, HLr0⟩, q5, s0, s3, hGR, -⟩
  obtain ⟨r0_, e_, s5⟩ := q5
  cases s19.symm.trans e_
  have lr0 := HLr0
  clear HLr0
  replace HB := below_step HB hGR
  replace HBX3 := blk_below HBX3 hGR
  have zsw3 : w2.heap.size ≤ w3.heap.size := hGR.size
  clear hGR
  show Code.wp _ _ _ _ _
  refine wp_seq ?_
  refine wp_seq ?_
  refine deedL [.eq 20 (.int .i64 r0), .eq 21 (.bool (decide (r0 < 0))), .eq 0 (.slice A0_ l0.length c0_), .eq 3 (.pointer (some ⟨g3, 0, none⟩)), .eq 5 (.int .i64 r0), .w (Below w3.heap.size w3)] 119 [[4], [0]] [] [1, 2, 3, 4, 5] hM hN hD (by kernel_rfl) ⟨s0, s3, s5, ⟨Below.refl _ _, below_drew (Below.refl _ _)⟩, trivial⟩ ⟨fun _ _ hb h => below_step h hb, trivial⟩ (fun hgrow => ⟨fun _ _ h => rv rfl (x_move rfl h.1) rfl,
    fun _ _ h => rv rfl (x_lss rfl h.1 rfl) rfl, trivial⟩) ?_
  clear s0 s3 s5
  clear hN hD
  rintro a4 w4 hN hD ⟨s21, s0, s3, s5, hGR, -⟩
  replace HB := below_step HB hGR
  replace HBX3 := blk_below HBX3 hGR
  have zsw4 : w3.heap.size ≤ w4.heap.size := hGR.size
  clear hGR
  show Code.wp _ _ _ _ _
  refine wp_cond (t := decide (r0 < 0)) s21 ?_
  rcases Bool.eq_false_or_eq_true (decide (r0 < 0)) with cd5 | cd5
  · rw [cd5]
    show Code.wp _ _ _ _ _
    have pd5 := of_decide_eq_true cd5
    refine wp_seq ?_
    refine deedL [.eq 4 (.bool true), .w (Below w4.heap.size w4)] 119 [[]] [] [0, 1] hM hN hD (by kernel_rfl) ⟨⟨Below.refl _ _, below_drew (Below.refl _ _)⟩, trivial⟩ ⟨fun _ _ hb h => below_step h hb, trivial⟩ (fun hgrow => ⟨fun _ _ _ => rv rfl (x_assign rfl rfl) rfl, trivial⟩) ?_
    clear s0 s3 s5 s21
    clear hN hD
    rintro a6 w6 hN hD ⟨s4, hGR, -⟩
    replace HB := below_step HB hGR
    replace HBX3 := blk_below HBX3 hGR
    have zsw6 : w4.heap.size ≤ w6.heap.size := hGR.size
    clear hGR
    show Code.wp _ _ _ _ _
    refine wp_ret (then_ret ?_)
    refine bodyPost_ret (results_single rfl (vtmp s4 .nil)) hD ?_
    exact ⟨rfl, HB⟩
  · rw [cd5]
    show Code.wp _ _ _ _ _
    have pd5 := of_decide_eq_false cd5
    have hsz0 := lr0 (by omega)
    have htn0 := tot_nn (l0.map LO.o)
    have hxn0 : l0.length ≤ 1048576 := by omega
    have hdl0 : ∀ x ∈ l0, x.o.deps.length ≤ 1048576 := dep_le' (by omega)
    refine wp_skip ?_
    show Code.wp _ _ _ _ _
    refine wp_seq ?_
    refine deedL [.eq 22 (.agg #[Value.slice A1_ l1.length c1_]), .eq 23 (.int .i64 r0), .eq 24 (.int .i64 (szV l1.length r0)), .eq 5 (.int .i64 (szV l1.length r0)), .eq 0 (.slice A0_ l0.length c0_), .eq 3 (.pointer (some ⟨g3, 0, none⟩)), .eq 5 (.int .i64 r0), .w (Below w4.heap.size w4)] 119 [[5, 7], [6], [0, 1], [2]] [[], [], [], [6]] [3, 4, 5, 7] hM hN hD (by kernel_rfl) ⟨s0, s3, s5, ⟨Below.refl _ _, below_drew (Below.refl _ _)⟩, trivial⟩ ⟨fun _ _ hb h => below_step h hb, trivial⟩ (fun hgrow => ⟨fun _ _ h => rv rfl (x_loadS rfl h.1 Try.underlying37 [.slice A1_ l1.length c1_] sz37 (blk_list (L := [.slice A1_ l1.length c1_]) (blk_below HBX3 h.2.1) 0 rfl)) rfl,
      fun _ _ h => rv rfl (x_move rfl h.1) rfl,
      fun _ _ h => rc hgrow rfl Try.func23 (by kernel_rfl) rfl rfl (args2 h.1 h.2.1) (szV_calls l1.length r0 _ A1_ c1_ (by omega) (by omega) HH1) (fun _ _ h => ⟨_, h.1, h.2, rfl⟩),
      fun _ _ h => rv rfl (x_assign rfl h.1) rfl, trivial⟩) ?_
    clear s0 s3 s5 s21
    clear hN hD
    rintro a7 w7 hN hD ⟨s5, s0, s3, hGR, -⟩
    replace HB := below_step HB hGR
    replace HBX3 := blk_below HBX3 hGR
    have zsw7 : w4.heap.size ≤ w7.heap.size := hGR.size
    clear hGR
    show Code.wp _ _ _ _ _
    refine wp_seq ?_
    refine wp_seq ?_
    refine deedL [.eq 25 (.int .i64 (szV l1.length r0)), .eq 26 (.bool (decide (szV l1.length r0 < 0))), .eq 0 (.slice A0_ l0.length c0_), .eq 3 (.pointer (some ⟨g3, 0, none⟩)), .eq 5 (.int .i64 (szV l1.length r0)), .w (Below w7.heap.size w7)] 119 [[4], [0]] [] [1, 2, 3, 4, 5] hM hN hD (by kernel_rfl) ⟨s0, s3, s5, ⟨Below.refl _ _, below_drew (Below.refl _ _)⟩, trivial⟩ ⟨fun _ _ hb h => below_step h hb, trivial⟩ (fun hgrow => ⟨fun _ _ h => rv rfl (x_move rfl h.1) rfl,
      fun _ _ h => rv rfl (x_lss rfl h.1 rfl) rfl, trivial⟩) ?_
    clear s0 s3 s5
    clear hN hD
    rintro a8 w8 hN hD ⟨s26, s0, s3, s5, hGR, -⟩
    replace HB := below_step HB hGR
    replace HBX3 := blk_below HBX3 hGR
    have zsw8 : w7.heap.size ≤ w8.heap.size := hGR.size
    clear hGR
    show Code.wp _ _ _ _ _
    refine wp_cond (t := decide (szV l1.length r0 < 0)) s26 ?_
    rcases Bool.eq_false_or_eq_true (decide (szV l1.length r0 < 0)) with cd9 | cd9
    · rw [cd9]
      show Code.wp _ _ _ _ _
      have pd9 := of_decide_eq_true cd9
      refine wp_seq ?_
      refine deedL [.eq 4 (.bool true), .w (Below w8.heap.size w8)] 119 [[]] [] [0, 1] hM hN hD (by kernel_rfl) ⟨⟨Below.refl _ _, below_drew (Below.refl _ _)⟩, trivial⟩ ⟨fun _ _ hb h => below_step h hb, trivial⟩ (fun hgrow => ⟨fun _ _ _ => rv rfl (x_assign rfl rfl) rfl, trivial⟩) ?_
      clear s0 s3 s5 s26
      clear hN hD
      rintro a10 w10 hN hD ⟨s4, hGR, -⟩
      replace HB := below_step HB hGR
      replace HBX3 := blk_below HBX3 hGR
      have zsw10 : w8.heap.size ≤ w10.heap.size := hGR.size
      clear hGR
      show Code.wp _ _ _ _ _
      refine wp_ret (then_ret ?_)
      refine bodyPost_ret (results_single rfl (vtmp s4 .nil)) hD ?_
      exact ⟨rfl, HB⟩
    · rw [cd9]
      show Code.wp _ _ _ _ _
      have pd9 := of_decide_eq_false cd9
      have hsz1 := (szV_le (n := l1.length) (left := r0) (by omega)).2 (by omega)
      have hxn1 : l1.length ≤ 1048576 := by omega
      refine wp_skip ?_
      show Code.wp _ _ _ _ _
      refine wp_seq ?_
      have hBw8 := HB
      refine deedL [.eq 28 (.slice A0_ l0.length c0_), .s1 29 fun x_ W => ∃ (A29 : Option Addr) (c29 : Nat) (y29 : List LO), x_ = .slice A29 ((l0.map LO.o).length) c29 ∧ OwnAt eLO W A29 y29 (w8.heap.size) W.heap.size ∧ y29.map LO.o = l0.map LO.o ∧ Caps y29, .eq 30 (.agg #[Value.slice A1_ l1.length c1_]), .s1 31 fun x_ W => ∃ (A31 : Option Addr) (c31 : Nat), x_ = .agg #[Value.slice A31 l1.length c31] ∧ OwnI W A31 l1 (w8.heap.size) W.heap.size, .s1 32 fun x_ W => ∃ (A32_0 : Option Addr) (c32_0 : Nat) (y32_0 : List LO), x_ = .tuple #[Value.slice A32_0 ((sSince (l0.map LO.o) l1).length) c32_0, Value.int .i64 ((if sLogOK (l0.map LO.o) = true ∧ vecOK l1 = true then 0 else 1) : Int)] ∧ OwnAt eLO W A32_0 y32_0 (w8.heap.size) W.heap.size ∧ y32_0.map LO.o = sSince (l0.map LO.o) l1, .s2 32 27 fun x_ y_ _ => ∃ (A32_0 : Option Addr) (c32_0 : Nat), x_ = .tuple #[Value.slice A32_0 ((sSince (l0.map LO.o) l1).length) c32_0, Value.int .i64 ((if sLogOK (l0.map LO.o) = true ∧ vecOK l1 = true then 0 else 1) : Int)] ∧ y_ = .tuple #[Value.slice A32_0 ((sSince (l0.map LO.o) l1).length) c32_0, Value.int .i64 ((if sLogOK (l0.map LO.o) = true ∧ vecOK l1 = true then 0 else 1) : Int)], .s2 32 33 fun x_ y_ _ => ∃ (A32_0 : Option Addr) (c32_0 : Nat), x_ = .tuple #[Value.slice A32_0 ((sSince (l0.map LO.o) l1).length) c32_0, Value.int .i64 ((if sLogOK (l0.map LO.o) = true ∧ vecOK l1 = true then 0 else 1) : Int)] ∧ y_ = .slice A32_0 ((sSince (l0.map LO.o) l1).length) c32_0, .eq 34 (.int .i64 ((if sLogOK (l0.map LO.o) = true ∧ vecOK l1 = true then 0 else 1) : Int)), .s2 32 6 fun x_ y_ _ => ∃ (A32_0 : Option Addr) (c32_0 : Nat), x_ = .tuple #[Value.slice A32_0 ((sSince (l0.map LO.o) l1).length) c32_0, Value.int .i64 ((if sLogOK (l0.map LO.o) = true ∧ vecOK l1 = true then 0 else 1) : Int)] ∧ y_ = .slice A32_0 ((sSince (l0.map LO.o) l1).length) c32_0, .eq 7 (.int .i64 ((if sLogOK (l0.map LO.o) = true ∧ vecOK l1 = true then 0 else 1) : Int)), .eq 0 (.slice A0_ l0.length c0_), .eq 3 (.pointer (some ⟨g3, 0, none⟩)), .w (Below w8.heap.size w8)] 119 [[10], [0, 12], [11, 12], [2, 12], [1, 3, 12], [4], [5], [5], [6], [7]] [] [9, 1, 3, 4, 8, 10, 11, 12] hM hN hD (by kernel_rfl) ⟨s0, s3, ⟨Below.refl _ _, below_drew (Below.refl _ _)⟩, trivial⟩ ⟨fun _ _ _ hb h => by obtain ⟨A29, c29, y29, e_, z0, z1, z2⟩ := h; exact ⟨_, _, _, e_, (z0.below hb).wide (Nat.le_refl _) hb.size, z1, z2⟩, fun _ _ _ hb h => by obtain ⟨A31, c31, e_, z0⟩ := h; exact ⟨_, _, e_, (z0.below hb).wide (Nat.le_refl _) hb.size⟩, fun _ _ _ hb h => by obtain ⟨A32_0, c32_0, y32_0, e_, z0, z1⟩ := h; exact ⟨_, _, _, e_, (z0.below hb).wide (Nat.le_refl _) hb.size, z1⟩, fun _ _ _ _ hb h => h, fun _ _ _ _ hb h => h, fun _ _ _ _ hb h => h, fun _ _ hb h => below_step h hb, trivial⟩ (fun hgrow => ⟨fun _ _ h => rv rfl (x_move rfl h.1) rfl,
        fun _ _ h => rc hgrow rfl Try.func14 (by kernel_rfl) rfl rfl (args1 h.1) (toOpS_L A0_ l0 c0_ _ (RV.below HR0 (below_step HB h.2.1)) hxn0 hdl0) (fun _ _ hR => by obtain ⟨A29, c29, y29, e_, z0, z1, z2, hb⟩ := hR; exact ⟨_, e_, hb, A29, c29, y29, rfl, (z0.wide h.2.1.size (Nat.le_refl _)), z1, z2⟩),
        fun _ _ h => rv rfl (x_loadS rfl h.1 Try.underlying37 [.slice A1_ l1.length c1_] sz37 (blk_list (L := [.slice A1_ l1.length c1_]) (blk_below HBX3 h.2.1) 0 rfl)) rfl,
        fun _ _ h => rc hgrow rfl Try.func25 (by kernel_rfl) rfl rfl (args1 h.1) (toV_L A1_ l1 c1_ _ (RI.below HR1 (below_step HB h.2.1)) hxn1) (fun _ _ hR => by obtain ⟨A31, c31, e_, z0, hb⟩ := hR; exact ⟨_, e_, hb, A31, c31, rfl, (z0.wide h.2.1.size (Nat.le_refl _))⟩),
        ?_,
        ?_,
        ?_,
        ?_,
        ?_,
        fun _ _ h => rv rfl (x_assign rfl h.1) rfl, trivial⟩) ?_
      · rintro a_ W ⟨h1, h3, h12, -⟩
        obtain ⟨A29, c29, y29, e1, HOX29, HYM29, HYC29⟩ := h1
        obtain ⟨A31, c31, e3, HOX31⟩ := h3
        exact rc hgrow rfl Try.func24 (by kernel_rfl) rfl rfl (args2 e1 e3) (sSince_L A29 y29 c29 (l0.map LO.o) A31 l1 c31 _ HYM29 HOX29.RV HYC29 HOX31.RI) (fun _ _ hR => by obtain ⟨A32_0, c32_0, y32_0, e_, z0, z1, hb⟩ := hR; exact ⟨_, e_, hb, A32_0, c32_0, y32_0, rfl, (z0.wide h12.size (Nat.le_refl _)), z1⟩)
      · rintro a_ W ⟨h4, -⟩
        obtain ⟨A32_0, c32_0, y32_0, e4, HOX32_0, HYM32_0⟩ := h4
        exact rv rfl (x_move rfl e4) ⟨_, _, e4, rfl⟩
      · rintro a_ W ⟨h5, -⟩
        obtain ⟨A32_0, c32_0, r5, e5⟩ := h5
        exact rv rfl (x_extract rfl e5 rfl) ⟨_, _, r5, rfl⟩
      · rintro a_ W ⟨h5, -⟩
        obtain ⟨A32_0, c32_0, r5, e5⟩ := h5
        exact rv rfl (x_extract rfl e5 rfl) rfl
      · rintro a_ W ⟨h6, -⟩
        obtain ⟨A32_0, c32_0, r6, e6⟩ := h6
        exact rv rfl (x_assign rfl e6) ⟨_, _, r6, rfl⟩
      clear s0 s3 s5 s26
      clear hN hD
      rintro a11 w11 hN hD ⟨s7, ⟨A29, c29, y29, s29, HOX29, HYM29, HYC29⟩, ⟨A31, c31, s31, HOX31⟩, ⟨A32_0, c32_0, y32_0, s32, HOX32_0, HYM32_0⟩, q6, s0, s3, hGR, -⟩
      obtain ⟨A32_0_, c32_0_, e_, s6⟩ := q6
      cases s32.symm.trans e_
      replace HB := below_step HB hGR
      replace HBX3 := blk_below HBX3 hGR
      clear HOX29
      clear HOX31
      have cl_OX32_0 := cntL_pos (M := mLO) y32_0
      have cu_OX32_0 : cntL mLO y32_0 ≤ 1000000000 := by have := part_cnt HYM32_0 (sSince_sub (l0.map LO.o) l1); omega
      have zzOX32_0 : w.heap.size ≤ w8.heap.size := hBw8.size
      have zsw11 : w8.heap.size ≤ w11.heap.size := hGR.size
      clear hGR
      have HB5 := Below.refl w11.heap.size w11
      have HWOX32_0 := HOX32_0.RV
      clear HOX32_0
      show Code.wp _ _ _ _ _
      refine wp_seq ?_
      have hBw11 := HB
      refine deedL [.eq 35 (.slice A0_ l0.length c0_), .s1 36 fun x_ W => ∃ (A36 : Option Addr) (c36 : Nat) (y36 : List LO), x_ = .slice A36 ((l0.map LO.o).length) c36 ∧ OwnAt eLO W A36 y36 (w11.heap.size) W.heap.size ∧ y36.map LO.o = l0.map LO.o ∧ Caps y36, .s2 36 8 fun x_ y_ _ => ∃ (A36 : Option Addr) (c36 : Nat), x_ = .slice A36 ((l0.map LO.o).length) c36 ∧ y_ = .slice A36 ((l0.map LO.o).length) c36, .eq 0 (.slice A0_ l0.length c0_), .eq 3 (.pointer (some ⟨g3, 0, none⟩)), .eq 6 (.slice A32_0 ((sSince (l0.map LO.o) l1).length) c32_0), .eq 7 (.int .i64 ((if sLogOK (l0.map LO.o) = true ∧ vecOK l1 = true then 0 else 1) : Int)), .w (Below w11.heap.size w11)] 119 [[3], [0, 7], [1]] [] [1, 2, 3, 4, 5, 6, 7] hM hN hD (by kernel_rfl) ⟨s0, s3, s6, s7, ⟨Below.refl _ _, below_drew (Below.refl _ _)⟩, trivial⟩ ⟨fun _ _ _ hb h => by obtain ⟨A36, c36, y36, e_, z0, z1, z2⟩ := h; exact ⟨_, _, _, e_, (z0.below hb).wide (Nat.le_refl _) hb.size, z1, z2⟩, fun _ _ _ _ hb h => h, fun _ _ hb h => below_step h hb, trivial⟩ (fun hgrow => ⟨fun _ _ h => rv rfl (x_move rfl h.1) rfl,
        fun _ _ h => rc hgrow rfl Try.func14 (by kernel_rfl) rfl rfl (args1 h.1) (toOpS_L A0_ l0 c0_ _ (RV.below HR0 (below_step HB h.2.1)) hxn0 hdl0) (fun _ _ hR => by obtain ⟨A36, c36, y36, e_, z0, z1, z2, hb⟩ := hR; exact ⟨_, e_, hb, A36, c36, y36, rfl, (z0.wide h.2.1.size (Nat.le_refl _)), z1, z2⟩),
        ?_, trivial⟩) ?_
      · rintro a_ W ⟨h1, -⟩
        obtain ⟨A36, c36, y36, e1, HOX36, HYM36, HYC36⟩ := h1
        exact rv rfl (x_assign rfl e1) ⟨_, _, e1, rfl⟩
      clear s0 s3 s6 s7
      clear hN hD
      rintro a12 w12 hN hD ⟨⟨A36, c36, y36, s36, HOX36, HYM36, HYC36⟩, q8, s0, s3, s6, s7, hGR, -⟩
      obtain ⟨A36_, c36_, e_, s8⟩ := q8
      cases s36.symm.trans e_
      replace HB := below_step HB hGR
      replace HBX3 := blk_below HBX3 hGR
      replace HYM29 := HYM29
      replace HYC29 := HYC29
      replace HYM32_0 := HYM32_0
      replace HB5 := below_step HB5 hGR
      have cl_OX36 := cntL_pos (M := mLO) y36
      have cu_OX36 : cntL mLO y36 ≤ 1000000000 := by have h1_ := cnt_tot y36; rw [HYM36] at h1_; have h2_ := len_of HYM36; omega
      have zzOX36 : w.heap.size ≤ w11.heap.size := hBw11.size
      have zsw12 : w11.heap.size ≤ w12.heap.size := hGR.size
      clear hGR
      show Code.wp _ _ _ _ _
      refine wp_seq ?_
      have hBw12 := HB
      refine deedL [.eq 37 (.agg #[Value.slice A1_ l1.length c1_]), .s1 38 fun x_ W => ∃ (A38 : Option Addr) (c38 : Nat), x_ = .agg #[Value.slice A38 l1.length c38] ∧ OwnI W A38 l1 (w12.heap.size) W.heap.size, .s1 9 (NewB w12.heap.size [.slice none 0 0] 41), .s2 38 9 fun x_ y_ W => ∃ (A38 : Option Addr) (c38 : Nat), x_ = .agg #[Value.slice A38 l1.length c38] ∧ NewB w12.heap.size [.slice A38 l1.length c38] 41 y_ W, .eq 0 (.slice A0_ l0.length c0_), .eq 3 (.pointer (some ⟨g3, 0, none⟩)), .eq 6 (.slice A32_0 ((sSince (l0.map LO.o) l1).length) c32_0), .eq 7 (.int .i64 ((if sLogOK (l0.map LO.o) = true ∧ vecOK l1 = true then 0 else 1) : Int)), .eq 8 (.slice A36 ((l0.map LO.o).length) c36), .w (Below w12.heap.size w12)] 119 [[5, 9], [0, 9], [9], [2, 1, 9]] [[], [], [], [2]] [1, 3, 4, 5, 6, 7, 8, 9] hM hN hD (by kernel_rfl) ⟨s0, s3, s6, s7, s8, ⟨Below.refl _ _, below_drew (Below.refl _ _)⟩, trivial⟩ ⟨fun _ _ _ hb h => by obtain ⟨A38, c38, e_, z0⟩ := h; exact ⟨_, _, e_, (z0.below hb).wide (Nat.le_refl _) hb.size⟩, fun _ _ _ hb h => h.grow hb, fun _ _ _ _ hb h => by obtain ⟨A38, c38, e_, h_⟩ := h; exact ⟨_, _, e_, h_.grow hb⟩, fun _ _ hb h => below_step h hb, trivial⟩ (fun hgrow => ⟨fun _ _ h => rv rfl (x_loadS rfl h.1 Try.underlying37 [.slice A1_ l1.length c1_] sz37 (blk_list (L := [.slice A1_ l1.length c1_]) (blk_below HBX3 h.2.1) 0 rfl)) rfl,
        fun _ _ h => rc hgrow rfl Try.func25 (by kernel_rfl) rfl rfl (args1 h.1) (toV_L A1_ l1 c1_ _ (RI.below HR1 (below_step HB h.2.1)) hxn1) (fun _ _ hR => by obtain ⟨A38, c38, e_, z0, hb⟩ := hR; exact ⟨_, e_, hb, A38, c38, rfl, (z0.wide h.2.1.size (Nat.le_refl _))⟩),
        fun _ _ h => rbox hgrow rfl (x_alloc rfl zr41) h.1.size (fun _ _ z => z),
        ?_, trivial⟩) ?_
      · rintro a_ W ⟨h2, h1, h9, -⟩
        obtain ⟨A38, c38, e1, HOX38⟩ := h1
        obtain ⟨g9, e3, l3, hb3⟩ := h2
        exact rstoreS rfl rfl e3 e1 (by simp [Value.oneCell']) sz41 hb3 rfl ⟨_, _, e1, ⟨_, e3, l3, blk_stored (cs := [.slice A38 l1.length c38]) 0 _ [.slice none 0 0] hb3 (of_decide_eq_true rfl)⟩⟩ ⟨fun h => by obtain ⟨A38, c38, e_, z0⟩ := h; exact ⟨_, _, e_, (z0.far hb3 rfl (kx_cells (fun k => k = g9) rfl)).wide (Nat.le_refl _) (kx_cells (fun k => k = g9) rfl).size⟩, fun h => below_cells h l3, trivial⟩
      clear s0 s3 s6 s7 s8
      clear hN hD
      rintro a13 w13 hN hD ⟨⟨A38, c38, s38, HOX38⟩, qs3, s0, s3, s6, s7, s8, hGR, -⟩
      obtain ⟨A38_, c38_, e_, g9, s9, lg9, HBX9⟩ := qs3
      cases s38.symm.trans e_
      have lb_g9 := lg9
      replace lg9 := Nat.le_trans HB.size lg9
      replace HB := below_step HB hGR
      replace HBX3 := blk_below HBX3 hGR
      replace HYM29 := HYM29
      replace HYC29 := HYC29
      replace HYM32_0 := HYM32_0
      replace HB5 := below_step HB5 hGR
      replace HOX36 := HOX36.below hGR
      replace HYM36 := HYM36
      replace HYC36 := HYC36
      have ub_g9 : g9 < w13.heap.size := blk_lt HBX9
      have zzOX38 : w.heap.size ≤ w12.heap.size := hBw12.size
      have zsw13 : w12.heap.size ≤ w13.heap.size := hGR.size
      clear hGR
      show Code.wp _ _ _ _ _
      refine wp_seq ?_
      have hBw13 := HB
      refine deedL (.eq 40 (.slice A36 ((l0.map LO.o).length) c36) :: .eq 41 (.agg #[Value.slice A38 l1.length c38]) :: (.s1 42 fun x_ W => ∃ (A42_0 : Option Addr) (c42_0 : Nat) (y42_0 : List LO), x_ = .tuple #[Value.slice A42_0 ((sSince (l0.map LO.o) l1).length) c42_0, Value.int .i64 ((if sLogOK (l0.map LO.o) = true ∧ vecOK l1 = true then 0 else 1) : Int)] ∧ OwnAt eLO W A42_0 y42_0 (w13.heap.size) W.heap.size ∧ y42_0.map LO.o = sSince (l0.map LO.o) l1) :: (.s2 42 39 fun x_ y_ _ => ∃ (A42_0 : Option Addr) (c42_0 : Nat), x_ = .tuple #[Value.slice A42_0 ((sSince (l0.map LO.o) l1).length) c42_0, Value.int .i64 ((if sLogOK (l0.map LO.o) = true ∧ vecOK l1 = true then 0 else 1) : Int)] ∧ y_ = .tuple #[Value.slice A42_0 ((sSince (l0.map LO.o) l1).length) c42_0, Value.int .i64 ((if sLogOK (l0.map LO.o) = true ∧ vecOK l1 = true then 0 else 1) : Int)]) :: (.s2 42 43 fun x_ y_ _ => ∃ (A42_0 : Option Addr) (c42_0 : Nat), x_ = .tuple #[Value.slice A42_0 ((sSince (l0.map LO.o) l1).length) c42_0, Value.int .i64 ((if sLogOK (l0.map LO.o) = true ∧ vecOK l1 = true then 0 else 1) : Int)] ∧ y_ = .slice A42_0 ((sSince (l0.map LO.o) l1).length) c42_0) :: .eq 44 (.int .i64 ((if sLogOK (l0.map LO.o) = true ∧ vecOK l1 = true then 0 else 1) : Int)) :: (.s2 42 10 fun x_ y_ _ => ∃ (A42_0 : Option Addr) (c42_0 : Nat), x_ = .tuple #[Value.slice A42_0 ((sSince (l0.map LO.o) l1).length) c42_0, Value.int .i64 ((if sLogOK (l0.map LO.o) = true ∧ vecOK l1 = true then 0 else 1) : Int)] ∧ y_ = .slice A42_0 ((sSince (l0.map LO.o) l1).length) c42_0) :: .eq 11 (.int .i64 ((if sLogOK (l0.map LO.o) = true ∧ vecOK l1 = true then 0 else 1) : Int)) :: .eq 0 (.slice A0_ l0.length c0_) :: .eq 3 (.pointer (some ⟨g3, 0, none⟩)) :: .eq 6 (.slice A32_0 ((sSince (l0.map LO.o) l1).length) c32_0) :: .eq 7 (.int .i64 ((if sLogOK (l0.map LO.o) = true ∧ vecOK l1 = true then 0 else 1) : Int)) :: .eq 8 (.slice A36 ((l0.map LO.o).length) c36) :: .eq 9 (.pointer (some ⟨g9, 0, none⟩)) :: .w (Below w13.heap.size w13) :: []) 119 [[12], [13, 14], [0, 1, 14], [2], [3], [3], [4], [5]] [] [7, 2, 6, 8, 9, 10, 11, 12, 13, 14] hM hN hD (by kernel_rfl) ⟨s0, s3, s6, s7, s8, s9, ⟨Below.refl _ _, below_drew (Below.refl _ _)⟩, trivial⟩ ⟨fun _ _ _ hb h => by obtain ⟨A42_0, c42_0, y42_0, e_, z0, z1⟩ := h; exact ⟨_, _, _, e_, (z0.below hb).wide (Nat.le_refl _) hb.size, z1⟩, fun _ _ _ _ hb h => h, fun _ _ _ _ hb h => h, fun _ _ _ _ hb h => h, fun _ _ hb h => below_step h hb, trivial⟩ (fun hgrow => ⟨fun _ _ h => rv rfl (x_move rfl h.1) rfl,
        fun _ _ h => rv rfl (x_loadS rfl h.1 Try.underlying41 [.slice A38 l1.length c38] sz41 (blk_list (L := [.slice A38 l1.length c38]) (blk_below HBX9 h.2.1) 0 rfl)) rfl,
        fun _ _ h => rc hgrow rfl Try.func26 (by kernel_rfl) rfl rfl (args2 h.1 h.2.1) (iSince_L A36 y36 c36 (l0.map LO.o) A38 l1 c38 _ (HYM36) (HOX36.below h.2.2.1).RV (HYC36) (HOX38.below h.2.2.1).RI) (fun _ _ hR => by obtain ⟨A42_0, c42_0, y42_0, e_, z0, z1, hb⟩ := hR; exact ⟨_, e_, hb, A42_0, c42_0, y42_0, rfl, (z0.wide h.2.2.1.size (Nat.le_refl _)), z1⟩),
        ?_,
        ?_,
        ?_,
        ?_,
        fun _ _ h => rv rfl (x_assign rfl h.1) rfl, trivial⟩) ?_
      · rintro a_ W ⟨h2, -⟩
        obtain ⟨A42_0, c42_0, y42_0, e2, HOX42_0, HYM42_0⟩ := h2
        exact rv rfl (x_move rfl e2) ⟨_, _, e2, rfl⟩
      · rintro a_ W ⟨h3, -⟩
        obtain ⟨A42_0, c42_0, r3, e3⟩ := h3
        exact rv rfl (x_extract rfl e3 rfl) ⟨_, _, r3, rfl⟩
      · rintro a_ W ⟨h3, -⟩
        obtain ⟨A42_0, c42_0, r3, e3⟩ := h3
        exact rv rfl (x_extract rfl e3 rfl) rfl
      · rintro a_ W ⟨h4, -⟩
        obtain ⟨A42_0, c42_0, r4, e4⟩ := h4
        exact rv rfl (x_assign rfl e4) ⟨_, _, r4, rfl⟩
      clear s0 s3 s6 s7 s8 s9
      clear hN hD
      rintro a14 w14 hN hD ⟨s11, ⟨A42_0, c42_0, y42_0, s42, HOX42_0, HYM42_0⟩, q10, s0, s3, s6, s7, s8, s9, hGR, -⟩
      obtain ⟨A42_0_, c42_0_, e_, s10⟩ := q10
      cases s42.symm.trans e_
      replace HB := below_step HB hGR
      replace HBX3 := blk_below HBX3 hGR
      replace HYM29 := HYM29
      replace HYC29 := HYC29
      replace HYM32_0 := HYM32_0
      replace HB5 := below_step HB5 hGR
      replace HOX36 := HOX36.below hGR
      replace HYM36 := HYM36
      replace HYC36 := HYC36
      replace HOX38 := HOX38.below hGR
      replace HBX9 := blk_below HBX9 hGR
      have cl_OX42_0 := cntL_pos (M := mLO) y42_0
      have cu_OX42_0 : cntL mLO y42_0 ≤ 1000000000 := by have := part_cnt HYM42_0 (sSince_sub (l0.map LO.o) l1); omega
      have zzOX42_0 : w.heap.size ≤ w13.heap.size := hBw13.size
      have zsw14 : w13.heap.size ≤ w14.heap.size := hGR.size
      clear hGR
      show Code.wp _ _ _ _ _
      refine wp_seq ?_
      refine wp_seq ?_
      refine deedL (.eq 45 (.slice A42_0 ((sSince (l0.map LO.o) l1).length) c42_0) :: .eq 46 (.slice A32_0 ((sSince (l0.map LO.o) l1).length) c32_0) :: .eq 47 (.bool (eqB (sSince (l0.map LO.o) l1) (sSince (l0.map LO.o) l1))) :: .eq 48 (.bool (!(eqB (sSince (l0.map LO.o) l1) (sSince (l0.map LO.o) l1)))) :: .eq 49 (.bool (!(eqB (sSince (l0.map LO.o) l1) (sSince (l0.map LO.o) l1)))) :: .gv (((!(eqB (sSince (l0.map LO.o) l1) (sSince (l0.map LO.o) l1))) == false)) 50 (.int .i64 ((if sLogOK (l0.map LO.o) = true ∧ vecOK l1 = true then 0 else 1) : Int)) :: .gv (((!(eqB (sSince (l0.map LO.o) l1) (sSince (l0.map LO.o) l1))) == false)) 51 (.int .i64 ((if sLogOK (l0.map LO.o) = true ∧ vecOK l1 = true then 0 else 1) : Int)) :: .gv (((!(eqB (sSince (l0.map LO.o) l1) (sSince (l0.map LO.o) l1))) == false)) 52 (.bool (((if sLogOK (l0.map LO.o) = true ∧ vecOK l1 = true then 0 else 1) : Int) != ((if sLogOK (l0.map LO.o) = true ∧ vecOK l1 = true then 0 else 1) : Int))) :: .eq 53 (.bool ((!(eqB (sSince (l0.map LO.o) l1) (sSince (l0.map LO.o) l1))) || (((if sLogOK (l0.map LO.o) = true ∧ vecOK l1 = true then 0 else 1) : Int) != ((if sLogOK (l0.map LO.o) = true ∧ vecOK l1 = true then 0 else 1) : Int)))) :: .eq 0 (.slice A0_ l0.length c0_) :: .eq 3 (.pointer (some ⟨g3, 0, none⟩)) :: .eq 6 (.slice A32_0 ((sSince (l0.map LO.o) l1).length) c32_0) :: .eq 7 (.int .i64 ((if sLogOK (l0.map LO.o) = true ∧ vecOK l1 = true then 0 else 1) : Int)) :: .eq 8 (.slice A36 ((l0.map LO.o).length) c36) :: .eq 9 (.pointer (some ⟨g9, 0, none⟩)) :: .eq 10 (.slice A42_0 ((sSince (l0.map LO.o) l1).length) c42_0) :: .eq 11 (.int .i64 ((if sLogOK (l0.map LO.o) = true ∧ vecOK l1 = true then 0 else 1) : Int)) :: .w (Below w14.heap.size w14) :: []) 119 [[15], [11], [0, 1, 17], [2], [3], [4, 16], [4, 12], [4, 5, 6], [4, 7]] [] [8, 9, 10, 11, 12, 13, 14, 15, 16, 17] hM hN hD (by kernel_rfl) ⟨s0, s3, s6, s7, s8, s9, s10, s11, ⟨Below.refl _ _, below_drew (Below.refl _ _)⟩, trivial⟩ ⟨fun _ _ hb h => below_step h hb, trivial⟩ (fun hgrow => ⟨fun _ _ h => rv rfl (x_move rfl h.1) rfl,
        fun _ _ h => rv rfl (x_move rfl h.1) rfl,
        fun _ _ h => rc hgrow rfl Try.func17 (by kernel_rfl) rfl rfl (args2 h.1 h.2.1) (eqOpS_L A42_0 y42_0 c42_0 (sSince (l0.map LO.o) l1) A32_0 y32_0 c32_0 (sSince (l0.map LO.o) l1) _ (HYM42_0) (HYM32_0) (HOX42_0.below h.2.2.1).RV (RV.below HWOX32_0 (below_step HB5 h.2.2.1)) (by have := part_len (sSince_sub (l0.map LO.o) l1); omega) (by exact fun o ho => Nat.le_trans (part_deps (sSince_sub (l0.map LO.o) l1) hdl0 o ho) (by decide))) (fun _ _ h => ⟨_, h.1, h.2, rfl⟩),
        fun _ _ h => rv rfl (x_not rfl h.1) rfl,
        fun _ _ h => rv rfl (x_move rfl h.1) rfl,
        fun _ _ h => rb rfl rfl h.1 (fun hgt => x_move rfl h.2.1) (fun _ z => z),
        fun _ _ h => rb rfl rfl h.1 (fun hgt => x_move rfl h.2.1) (fun _ z => z),
        fun _ _ h => rb rfl rfl h.1 (fun hgt => x_neq rfl (h.2.1.1 hgt) (h.2.2.1.1 hgt)) (fun _ z => z),
        fun _ _ h => rv rfl (x_or rfl rfl h.1 (fun hc => h.2.1.1 (beq_iff_eq.2 hc))) rfl, trivial⟩) ?_
      clear s0 s3 s6 s7 s8 s9 s10 s11
      clear hN hD
      rintro a15 w15 hN hD ⟨s53, s0, s3, s6, s7, s8, s9, s10, s11, hGR, -⟩
      replace HB := below_step HB hGR
      replace HBX3 := blk_below HBX3 hGR
      replace HYM29 := HYM29
      replace HYC29 := HYC29
      replace HYM32_0 := HYM32_0
      replace HB5 := below_step HB5 hGR
      replace HOX36 := HOX36.below hGR
      replace HYM36 := HYM36
      replace HYC36 := HYC36
      replace HOX38 := HOX38.below hGR
      replace HBX9 := blk_below HBX9 hGR
      replace HOX42_0 := HOX42_0.below hGR
      replace HYM42_0 := HYM42_0
      have zsw15 : w14.heap.size ≤ w15.heap.size := hGR.size
      clear hGR
      show Code.wp _ _ _ _ _
      refine wp_cond (t := (!(eqB (sSince (l0.map LO.o) l1) (sSince (l0.map LO.o) l1))) || (((if sLogOK (l0.map LO.o) = true ∧ vecOK l1 = true then 0 else 1) : Int) != ((if sLogOK (l0.map LO.o) = true ∧ vecOK l1 = true then 0 else 1) : Int))) s53 ?_
      rw [show ((!(eqB (sSince (l0.map LO.o) l1) (sSince (l0.map LO.o) l1))) || (((if sLogOK (l0.map LO.o) = true ∧ vecOK l1 = true then 0 else 1) : Int) != ((if sLogOK (l0.map LO.o) = true ∧ vecOK l1 = true then 0 else 1) : Int))) = false from (by have hpOX36 := cntL_pos (M := mLO) y36; have hpOX42_0 := cntL_pos (M := mLO) y42_0; simp [eqB, cnt_mkL] <;> omega)]
      show Code.wp _ _ _ _ _
      refine wp_skip ?_
      show Code.wp _ _ _ _ _
      refine wp_seq ?_
      refine wp_seq ?_
      have hBw15 := HB
      refine deedL [.eq 54 (.slice A36 ((l0.map LO.o).length) c36), .eq 55 (.slice A0_ l0.length c0_), .s1 56 fun x_ W => ∃ (A56 : Option Addr) (c56 : Nat) (y56 : List LO), x_ = .slice A56 ((l0.map LO.o).length) c56 ∧ OwnAt eLO W A56 y56 (w15.heap.size) W.heap.size ∧ y56.map LO.o = l0.map LO.o ∧ Caps y56, .eq 57 (.bool (eqB (l0.map LO.o) (l0.map LO.o))), .eq 58 (.bool (!(eqB (l0.map LO.o) (l0.map LO.o)))), .eq 0 (.slice A0_ l0.length c0_), .eq 3 (.pointer (some ⟨g3, 0, none⟩)), .eq 6 (.slice A32_0 ((sSince (l0.map LO.o) l1).length) c32_0), .eq 7 (.int .i64 ((if sLogOK (l0.map LO.o) = true ∧ vecOK l1 = true then 0 else 1) : Int)), .eq 8 (.slice A36 ((l0.map LO.o).length) c36), .eq 9 (.pointer (some ⟨g9, 0, none⟩)), .eq 10 (.slice A42_0 ((sSince (l0.map LO.o) l1).length) c42_0), .eq 11 (.int .i64 ((if sLogOK (l0.map LO.o) = true ∧ vecOK l1 = true then 0 else 1) : Int)), .w (Below w15.heap.size w15)] 119 [[9], [5], [1, 13], [0, 2, 13], [3]] [] [4, 2, 5, 6, 7, 8, 9, 10, 11, 12, 13] hM hN hD (by kernel_rfl) ⟨s0, s3, s6, s7, s8, s9, s10, s11, ⟨Below.refl _ _, below_drew (Below.refl _ _)⟩, trivial⟩ ⟨fun _ _ _ hb h => by obtain ⟨A56, c56, y56, e_, z0, z1, z2⟩ := h; exact ⟨_, _, _, e_, (z0.below hb).wide (Nat.le_refl _) hb.size, z1, z2⟩, fun _ _ hb h => below_step h hb, trivial⟩ (fun hgrow => ⟨fun _ _ h => rv rfl (x_move rfl h.1) rfl,
        fun _ _ h => rv rfl (x_move rfl h.1) rfl,
        fun _ _ h => rc hgrow rfl Try.func14 (by kernel_rfl) rfl rfl (args1 h.1) (toOpS_L A0_ l0 c0_ _ (RV.below HR0 (below_step HB h.2.1)) hxn0 hdl0) (fun _ _ hR => by obtain ⟨A56, c56, y56, e_, z0, z1, z2, hb⟩ := hR; exact ⟨_, e_, hb, A56, c56, y56, rfl, (z0.wide h.2.1.size (Nat.le_refl _)), z1, z2⟩),
        ?_,
        fun _ _ h => rv rfl (x_not rfl h.1) rfl, trivial⟩) ?_
      · rintro a_ W ⟨h0, h2, h13, -⟩
        obtain ⟨A56, c56, y56, e2, HOX56, HYM56, HYC56⟩ := h2
        exact rc hgrow rfl Try.func17 (by kernel_rfl) rfl rfl (args2 h0 e2) (eqOpS_L A36 y36 c36 (l0.map LO.o) A56 y56 c56 (l0.map LO.o) _ (HYM36) HYM56 (HOX36.below h13).RV HOX56.RV (by simp only [List.length_map]; omega) (by intro o ho; obtain ⟨x, hx, rfl⟩ := List.mem_map.1 ho; have := hdl0 x hx; omega)) (fun _ _ h => ⟨_, h.1, h.2, rfl⟩)
      clear s0 s3 s6 s7 s8 s9 s10 s11 s53
      clear hN hD
      rintro a17 w17 hN hD ⟨s58, ⟨A56, c56, y56, s56, HOX56, HYM56, HYC56⟩, s0, s3, s6, s7, s8, s9, s10, s11, hGR, -⟩
      replace HB := below_step HB hGR
      replace HBX3 := blk_below HBX3 hGR
      replace HYM29 := HYM29
      replace HYC29 := HYC29
      replace HYM32_0 := HYM32_0
      replace HB5 := below_step HB5 hGR
      replace HOX36 := HOX36.below hGR
      replace HYM36 := HYM36
      replace HYC36 := HYC36
      replace HOX38 := HOX38.below hGR
      replace HBX9 := blk_below HBX9 hGR
      replace HOX42_0 := HOX42_0.below hGR
      replace HYM42_0 := HYM42_0
      clear HOX56
      have zsw17 : w15.heap.size ≤ w17.heap.size := hGR.size
      clear hGR
      show Code.wp _ _ _ _ _
      refine wp_cond (t := !(eqB (l0.map LO.o) (l0.map LO.o))) s58 ?_
      rw [show (!(eqB (l0.map LO.o) (l0.map LO.o))) = false from (by have hpOX36 := cntL_pos (M := mLO) y36; have hpOX42_0 := cntL_pos (M := mLO) y42_0; simp [eqB, cnt_mkL] <;> omega)]
      show Code.wp _ _ _ _ _
      refine wp_skip ?_
      show Code.wp _ _ _ _ _
      refine wp_seq ?_
      refine wp_seq ?_
      have hBw17 := HB
      refine deedL [.eq 59 (.agg #[Value.slice A38 l1.length c38]), .eq 60 (.agg #[Value.slice A1_ l1.length c1_]), .s1 61 fun x_ W => ∃ (A61 : Option Addr) (c61 : Nat), x_ = .agg #[Value.slice A61 l1.length c61] ∧ OwnI W A61 l1 (w17.heap.size) W.heap.size, .eq 62 (.bool (l1 == l1)), .eq 63 (.bool (!(l1 == l1))), .eq 0 (.slice A0_ l0.length c0_), .eq 3 (.pointer (some ⟨g3, 0, none⟩)), .eq 6 (.slice A32_0 ((sSince (l0.map LO.o) l1).length) c32_0), .eq 7 (.int .i64 ((if sLogOK (l0.map LO.o) = true ∧ vecOK l1 = true then 0 else 1) : Int)), .eq 8 (.slice A36 ((l0.map LO.o).length) c36), .eq 9 (.pointer (some ⟨g9, 0, none⟩)), .eq 10 (.slice A42_0 ((sSince (l0.map LO.o) l1).length) c42_0), .eq 11 (.int .i64 ((if sLogOK (l0.map LO.o) = true ∧ vecOK l1 = true then 0 else 1) : Int)), .w (Below w17.heap.size w17)] 119 [[10, 13], [6, 13], [1, 13], [0, 2, 13], [3]] [] [4, 2, 5, 6, 7, 8, 9, 10, 11, 12, 13] hM hN hD (by kernel_rfl) ⟨s0, s3, s6, s7, s8, s9, s10, s11, ⟨Below.refl _ _, below_drew (Below.refl _ _)⟩, trivial⟩ ⟨fun _ _ _ hb h => by obtain ⟨A61, c61, e_, z0⟩ := h; exact ⟨_, _, e_, (z0.below hb).wide (Nat.le_refl _) hb.size⟩, fun _ _ hb h => below_step h hb, trivial⟩ (fun hgrow => ⟨fun _ _ h => rv rfl (x_loadS rfl h.1 Try.underlying41 [.slice A38 l1.length c38] sz41 (blk_list (L := [.slice A38 l1.length c38]) (blk_below HBX9 h.2.1) 0 rfl)) rfl,
        fun _ _ h => rv rfl (x_loadS rfl h.1 Try.underlying37 [.slice A1_ l1.length c1_] sz37 (blk_list (L := [.slice A1_ l1.length c1_]) (blk_below HBX3 h.2.1) 0 rfl)) rfl,
        fun _ _ h => rc hgrow rfl Try.func25 (by kernel_rfl) rfl rfl (args1 h.1) (toV_L A1_ l1 c1_ _ (RI.below HR1 (below_step HB h.2.1)) hxn1) (fun _ _ hR => by obtain ⟨A61, c61, e_, z0, hb⟩ := hR; exact ⟨_, e_, hb, A61, c61, rfl, (z0.wide h.2.1.size (Nat.le_refl _))⟩),
        ?_,
        fun _ _ h => rv rfl (x_not rfl h.1) rfl, trivial⟩) ?_
      · rintro a_ W ⟨h0, h2, h13, -⟩
        obtain ⟨A61, c61, e2, HOX61⟩ := h2
        exact rc hgrow rfl Try.func27 (by kernel_rfl) rfl rfl (args2 h0 e2) (eqV_calls A38 l1 c38 A61 l1 c61 _ (HOX38.below h13).RI HOX61.RI (by omega)) (fun _ _ h => ⟨_, h.1, h.2, rfl⟩)
      clear s0 s3 s6 s7 s8 s9 s10 s11 s58
      clear hN hD
      rintro a19 w19 hN hD ⟨s63, ⟨A61, c61, s61, HOX61⟩, s0, s3, s6, s7, s8, s9, s10, s11, hGR, -⟩
      replace HB := below_step HB hGR
      replace HBX3 := blk_below HBX3 hGR
      replace HYM29 := HYM29
      replace HYC29 := HYC29
      replace HYM32_0 := HYM32_0
      replace HB5 := below_step HB5 hGR
      replace HOX36 := HOX36.below hGR
      replace HYM36 := HYM36
      replace HYC36 := HYC36
      replace HOX38 := HOX38.below hGR
      replace HBX9 := blk_below HBX9 hGR
      replace HOX42_0 := HOX42_0.below hGR
      replace HYM42_0 := HYM42_0
      replace HYM56 := HYM56
      replace HYC56 := HYC56
      clear HOX61
      have zsw19 : w17.heap.size ≤ w19.heap.size := hGR.size
      clear hGR
      show Code.wp _ _ _ _ _
      refine wp_cond (t := !(l1 == l1)) s63 ?_
      rw [show (!(l1 == l1)) = false from (by have hpOX36 := cntL_pos (M := mLO) y36; have hpOX42_0 := cntL_pos (M := mLO) y42_0; simp [eqB, cnt_mkL] <;> omega)]
      show Code.wp _ _ _ _ _
      refine wp_skip ?_
      show Code.wp _ _ _ _ _
      refine wp_seq ?_
      refine deedL [.eq 12 (.int .i64 1), .eq 0 (.slice A0_ l0.length c0_), .eq 3 (.pointer (some ⟨g3, 0, none⟩)), .eq 6 (.slice A32_0 ((sSince (l0.map LO.o) l1).length) c32_0), .eq 7 (.int .i64 ((if sLogOK (l0.map LO.o) = true ∧ vecOK l1 = true then 0 else 1) : Int)), .eq 8 (.slice A36 ((l0.map LO.o).length) c36), .eq 9 (.pointer (some ⟨g9, 0, none⟩)), .eq 10 (.slice A42_0 ((sSince (l0.map LO.o) l1).length) c42_0), .eq 11 (.int .i64 ((if sLogOK (l0.map LO.o) = true ∧ vecOK l1 = true then 0 else 1) : Int)), .w (Below w19.heap.size w19)] 119 [[]] [] [0, 1, 2, 3, 4, 5, 6, 7, 8, 9] hM hN hD (by kernel_rfl) ⟨s0, s3, s6, s7, s8, s9, s10, s11, ⟨Below.refl _ _, below_drew (Below.refl _ _)⟩, trivial⟩ ⟨fun _ _ hb h => below_step h hb, trivial⟩ (fun hgrow => ⟨fun _ _ _ => rv rfl (x_assign rfl rfl) rfl, trivial⟩) ?_
      clear s0 s3 s6 s7 s8 s9 s10 s11 s63
      clear hN hD
      rintro a21 w21 hN hD ⟨s12, s0, s3, s6, s7, s8, s9, s10, s11, hGR, -⟩
      replace HB := below_step HB hGR
      replace HBX3 := blk_below HBX3 hGR
      replace HYM29 := HYM29
      replace HYC29 := HYC29
      replace HYM32_0 := HYM32_0
      replace HB5 := below_step HB5 hGR
      replace HOX36 := HOX36.below hGR
      replace HYM36 := HYM36
      replace HYC36 := HYC36
      replace HOX38 := HOX38.below hGR
      replace HBX9 := blk_below HBX9 hGR
      replace HOX42_0 := HOX42_0.below hGR
      replace HYM42_0 := HYM42_0
      replace HYM56 := HYM56
      replace HYC56 := HYC56
      have zsw21 : w19.heap.size ≤ w21.heap.size := hGR.size
      clear hGR
      show Code.wp _ _ _ _ _
      refine wp_seq ?_
      refine deedL [.eq 64 (.slice A36 ((l0.map LO.o).length) c36), .eq 65 (.int .i64 1), .s1 66 fun x_ W => x_ = .int .i64 (1 + cntL mLO y36) ∧ OwnAt eLO W A36 (mkL mLO y36 1) (w11.heap.size) (w12.heap.size) ∧ Kx (Mine (w11.heap.size) (w12.heap.size)) w21 W, .eq 12 (.int .i64 (1 + cntL mLO y36)), .eq 0 (.slice A0_ l0.length c0_), .eq 3 (.pointer (some ⟨g3, 0, none⟩)), .eq 6 (.slice A32_0 ((sSince (l0.map LO.o) l1).length) c32_0), .eq 7 (.int .i64 ((if sLogOK (l0.map LO.o) = true ∧ vecOK l1 = true then 0 else 1) : Int)), .eq 8 (.slice A36 ((l0.map LO.o).length) c36), .eq 9 (.pointer (some ⟨g9, 0, none⟩)), .eq 10 (.slice A42_0 ((sSince (l0.map LO.o) l1).length) c42_0), .eq 11 (.int .i64 ((if sLogOK (l0.map LO.o) = true ∧ vecOK l1 = true then 0 else 1) : Int)), .eq 12 (.int .i64 1), .w (Below w21.heap.size w21)] 119 [[8], [12], [0, 1, 13], [2]] [[], [], [13], [12]] [3, 2, 4, 5, 6, 7, 8, 9, 10, 11] hM hN hD (by kernel_rfl) ⟨s0, s3, s6, s7, s8, s9, s10, s11, s12, ⟨Below.refl _ _, below_drew (Below.refl _ _)⟩, trivial⟩ ⟨fun _ _ _ hb h => ⟨h.1, h.2.1.below hb, h.2.2.step hb⟩, fun _ _ hb h => below_step h hb, trivial⟩ (fun hgrow => ⟨fun _ _ h => rv rfl (x_move rfl h.1) rfl,
        fun _ _ h => rv rfl (x_move rfl h.1) rfl,
        ?_,
        ?_, trivial⟩) ?_
      · rintro a_ W ⟨h0, h1, h13, -⟩
        have hm_ := HOX36.below h13
        exact runs_call Try.func18 (by kernel_rfl) rfl _ (wanted_none rfl) rfl (args2 h0 h1) ((markOpS_L A36 y36 c36 (l0.map LO.o) 1 (w11.heap.size) (w12.heap.size) W HYM36 hm_ (by omega) (by have h1_ := cnt_tot y36; rw [HYM36] at h1_; have h2_ := len_of HYM36; omega) (by simp only [List.length_map]; omega)).mono fun e W2 hR => by obtain ⟨u1, u2, u3⟩ := hR; exact ⟨_, u1, owe_keep trivial ⟨rfl, u2, kx_tr (kx_of_below h13 _) u3⟩⟩)
      · rintro a_ W ⟨h2, -⟩
        obtain ⟨e2, how_, hkx_⟩ := h2
        exact rv rfl (x_assign rfl e2) rfl
      clear s0 s3 s6 s7 s8 s9 s10 s11 s12
      clear hN hD
      clear HOX36
      rintro a22 w22 hN hD ⟨s12, ⟨s66, HOWN, hkx⟩, s0, s3, s6, s7, s8, s9, s10, s11, -⟩
      replace HB := Kx.below HB hkx HB.size (fun k e => Nat.le_trans zzOX36 e.1)
      replace HBX3 := blk_kx HBX3 hkx (fun e => by have h1_ := e.1; have h2_ := e.2; omega)
      replace HYM29 := HYM29
      replace HYC29 := HYC29
      replace HYM32_0 := HYM32_0
      replace HB5 := Kx.below HB5 hkx HB5.size (fun k e => Nat.le_trans (by omega) e.1)
      replace HYM36 := HYM36
      replace HYC36 := HYC36
      replace HOX38 := HOX38.kx hkx (fun i u v e => by have := e.1; have := e.2; omega)
      replace HBX9 := blk_kx HBX9 hkx (fun e => by have h1_ := e.1; have h2_ := e.2; omega)
      replace HOX42_0 := HOX42_0.kx hkx (fun i u v e => by have := e.1; have := e.2; omega)
      replace HYM42_0 := HYM42_0
      replace HYM56 := HYM56
      replace HYC56 := HYC56
      have HOX36 := HOWN
      have zsw22 : w21.heap.size ≤ w22.heap.size := hkx.size
      clear HOWN hkx
      show Code.wp _ _ _ _ _
      refine wp_seq ?_
      refine deedL [.eq 67 (.agg #[Value.slice A38 l1.length c38]), .eq 68 (.int .i64 (1 + cntL mLO y36)), .s1 69 fun x_ W => x_ = .int .i64 (1 + cntL mLO y36 + (l1.length : Int)) ∧ OwnI W A38 (mk (1 + cntL mLO y36) l1.length) (w12.heap.size) (w13.heap.size) ∧ Kx (Mine (w12.heap.size) (w13.heap.size)) w22 W, .eq 12 (.int .i64 (1 + cntL mLO y36 + (l1.length : Int))), .eq 0 (.slice A0_ l0.length c0_), .eq 3 (.pointer (some ⟨g3, 0, none⟩)), .eq 6 (.slice A32_0 ((sSince (l0.map LO.o) l1).length) c32_0), .eq 7 (.int .i64 ((if sLogOK (l0.map LO.o) = true ∧ vecOK l1 = true then 0 else 1) : Int)), .eq 9 (.pointer (some ⟨g9, 0, none⟩)), .eq 10 (.slice A42_0 ((sSince (l0.map LO.o) l1).length) c42_0), .eq 11 (.int .i64 ((if sLogOK (l0.map LO.o) = true ∧ vecOK l1 = true then 0 else 1) : Int)), .eq 12 (.int .i64 (1 + cntL mLO y36)), .w (Below w22.heap.size w22)] 119 [[8, 12], [11], [0, 1, 12], [2]] [[], [], [12], [11]] [3, 2, 4, 5, 6, 7, 8, 9, 10] hM hN hD (by kernel_rfl) ⟨s0, s3, s6, s7, s9, s10, s11, s12, ⟨Below.refl _ _, below_drew (Below.refl _ _)⟩, trivial⟩ ⟨fun _ _ _ hb h => ⟨h.1, h.2.1.below hb, h.2.2.step hb⟩, fun _ _ hb h => below_step h hb, trivial⟩ (fun hgrow => ⟨fun _ _ h => rv rfl (x_loadS rfl h.1 Try.underlying41 [.slice A38 l1.length c38] sz41 (blk_list (L := [.slice A38 l1.length c38]) (blk_below HBX9 h.2.1) 0 rfl)) rfl,
        fun _ _ h => rv rfl (x_move rfl h.1) rfl,
        ?_,
        ?_, trivial⟩) ?_
      · rintro a_ W ⟨h0, h1, h12, -⟩
        have hm_ := HOX38.below h12
        exact runs_call Try.func28 (by kernel_rfl) rfl _ (wanted_none rfl) rfl (args2 h0 h1) ((markV_L A38 l1 c38 (1 + cntL mLO y36) (w12.heap.size) (w13.heap.size) W hm_ (by omega) (by omega)).mono fun e W2 hR => by obtain ⟨u1, u2, u3⟩ := hR; exact ⟨_, u1, owe_keep trivial ⟨rfl, u2, kx_tr (kx_of_below h12 _) u3⟩⟩)
      · rintro a_ W ⟨h2, -⟩
        obtain ⟨e2, how_, hkx_⟩ := h2
        exact rv rfl (x_assign rfl e2) rfl
      clear s0 s3 s6 s7 s8 s9 s10 s11 s12
      clear hN hD
      clear HOX38
      clear HBX9
      rintro a23 w23 hN hD ⟨s12, ⟨s69, HOWN, hkx⟩, s0, s3, s6, s7, s9, s10, s11, -⟩
      replace HB := Kx.below HB hkx HB.size (fun k e => Nat.le_trans zzOX38 e.1)
      replace HBX3 := blk_kx HBX3 hkx (fun e => by have h1_ := e.1; have h2_ := e.2; omega)
      replace HYM29 := HYM29
      replace HYC29 := HYC29
      replace HYM32_0 := HYM32_0
      replace HB5 := Kx.below HB5 hkx HB5.size (fun k e => Nat.le_trans (by omega) e.1)
      replace HYM36 := HYM36
      replace HYC36 := HYC36
      replace HOX42_0 := HOX42_0.kx hkx (fun i u v e => by have := e.1; have := e.2; omega)
      replace HYM42_0 := HYM42_0
      replace HYM56 := HYM56
      replace HYC56 := HYC56
      replace HOX36 := HOX36.kx hkx (fun i u v e => by have := e.1; have := e.2; omega)
      have HOX38 := HOWN
      have zsw23 : w22.heap.size ≤ w23.heap.size := hkx.size
      clear HOWN hkx
      show Code.wp _ _ _ _ _
      refine wp_seq ?_
      refine wp_seq ?_
      refine deedL (.eq 70 (.int .i64 (1 + cntL mLO y36 + (l1.length : Int))) :: .eq 71 (.bool (decide (1 + cntL mLO y36 + (l1.length : Int) < 0))) :: .eq 72 (.bool (decide (1 + cntL mLO y36 + (l1.length : Int) < 0))) :: .gv (((decide (1 + cntL mLO y36 + (l1.length : Int) < 0)) == false)) 73 (.slice A42_0 ((sSince (l0.map LO.o) l1).length) c42_0) :: .gv (((decide (1 + cntL mLO y36 + (l1.length : Int) < 0)) == false)) 74 (.slice A32_0 ((sSince (l0.map LO.o) l1).length) c32_0) :: .gv (((decide (1 + cntL mLO y36 + (l1.length : Int) < 0)) == false)) 75 (.bool (eqB (sSince (l0.map LO.o) l1) (sSince (l0.map LO.o) l1))) :: .gv (((decide (1 + cntL mLO y36 + (l1.length : Int) < 0)) == false)) 76 (.bool (!(eqB (sSince (l0.map LO.o) l1) (sSince (l0.map LO.o) l1)))) :: .eq 77 (.bool ((decide (1 + cntL mLO y36 + (l1.length : Int) < 0)) || (!(eqB (sSince (l0.map LO.o) l1) (sSince (l0.map LO.o) l1))))) :: .eq 78 (.bool ((decide (1 + cntL mLO y36 + (l1.length : Int) < 0)) || (!(eqB (sSince (l0.map LO.o) l1) (sSince (l0.map LO.o) l1))))) :: .gv ((((decide (1 + cntL mLO y36 + (l1.length : Int) < 0)) || (!(eqB (sSince (l0.map LO.o) l1) (sSince (l0.map LO.o) l1)))) == false)) 79 (.int .i64 ((if sLogOK (l0.map LO.o) = true ∧ vecOK l1 = true then 0 else 1) : Int)) :: .gv ((((decide (1 + cntL mLO y36 + (l1.length : Int) < 0)) || (!(eqB (sSince (l0.map LO.o) l1) (sSince (l0.map LO.o) l1)))) == false)) 80 (.int .i64 ((if sLogOK (l0.map LO.o) = true ∧ vecOK l1 = true then 0 else 1) : Int)) :: .gv ((((decide (1 + cntL mLO y36 + (l1.length : Int) < 0)) || (!(eqB (sSince (l0.map LO.o) l1) (sSince (l0.map LO.o) l1)))) == false)) 81 (.bool (((if sLogOK (l0.map LO.o) = true ∧ vecOK l1 = true then 0 else 1) : Int) != ((if sLogOK (l0.map LO.o) = true ∧ vecOK l1 = true then 0 else 1) : Int))) :: .eq 82 (.bool (((decide (1 + cntL mLO y36 + (l1.length : Int) < 0)) || (!(eqB (sSince (l0.map LO.o) l1) (sSince (l0.map LO.o) l1)))) || (((if sLogOK (l0.map LO.o) = true ∧ vecOK l1 = true then 0 else 1) : Int) != ((if sLogOK (l0.map LO.o) = true ∧ vecOK l1 = true then 0 else 1) : Int)))) :: .eq 0 (.slice A0_ l0.length c0_) :: .eq 3 (.pointer (some ⟨g3, 0, none⟩)) :: .eq 6 (.slice A32_0 ((sSince (l0.map LO.o) l1).length) c32_0) :: .eq 7 (.int .i64 ((if sLogOK (l0.map LO.o) = true ∧ vecOK l1 = true then 0 else 1) : Int)) :: .eq 10 (.slice A42_0 ((sSince (l0.map LO.o) l1).length) c42_0) :: .eq 11 (.int .i64 ((if sLogOK (l0.map LO.o) = true ∧ vecOK l1 = true then 0 else 1) : Int)) :: .eq 12 (.int .i64 (1 + cntL mLO y36 + (l1.length : Int))) :: .w (Below w23.heap.size w23) :: []) 119 [[19], [0], [1], [2, 17], [2, 15], [2, 3, 4, 20], [2, 5], [2, 6], [7], [8, 18], [8, 16], [8, 9, 10], [8, 11]] [] [12, 13, 14, 15, 16, 17, 18, 19, 20] hM hN hD (by kernel_rfl) ⟨s0, s3, s6, s7, s10, s11, s12, ⟨Below.refl _ _, below_drew (Below.refl _ _)⟩, trivial⟩ ⟨fun _ _ hb h => below_step h hb, trivial⟩ (fun hgrow => ⟨fun _ _ h => rv rfl (x_move rfl h.1) rfl,
        fun _ _ h => rv rfl (x_lss rfl h.1 rfl) rfl,
        fun _ _ h => rv rfl (x_move rfl h.1) rfl,
        fun _ _ h => rb rfl rfl h.1 (fun hgt => x_move rfl h.2.1) (fun _ z => z),
        fun _ _ h => rb rfl rfl h.1 (fun hgt => x_move rfl h.2.1) (fun _ z => z),
        fun _ _ h => rcb hgrow rfl rfl h.1 Try.func17 (by kernel_rfl) rfl rfl (fun hgt => args2 (h.2.1.1 hgt) (h.2.2.1.1 hgt)) (fun hgt => eqOpS_L A42_0 y42_0 c42_0 (sSince (l0.map LO.o) l1) A32_0 y32_0 c32_0 (sSince (l0.map LO.o) l1) _ (HYM42_0) (HYM32_0) (HOX42_0.below h.2.2.2.1).RV (RV.below HWOX32_0 (below_step HB5 h.2.2.2.1)) (by have := part_len (sSince_sub (l0.map LO.o) l1); omega) (by exact fun o ho => Nat.le_trans (part_deps (sSince_sub (l0.map LO.o) l1) hdl0 o ho) (by decide))) (fun _ _ _ h => h) (fun _ _ z => z),
        fun _ _ h => rb rfl rfl h.1 (fun hgt => x_not rfl (h.2.1.1 hgt)) (fun _ z => z),
        fun _ _ h => rv rfl (x_or rfl rfl h.1 (fun hc => h.2.1.1 (beq_iff_eq.2 hc))) rfl,
        fun _ _ h => rv rfl (x_move rfl h.1) rfl,
        fun _ _ h => rb rfl rfl h.1 (fun hgt => x_move rfl h.2.1) (fun _ z => z),
        fun _ _ h => rb rfl rfl h.1 (fun hgt => x_move rfl h.2.1) (fun _ z => z),
        fun _ _ h => rb rfl rfl h.1 (fun hgt => x_neq rfl (h.2.1.1 hgt) (h.2.2.1.1 hgt)) (fun _ z => z),
        fun _ _ h => rv rfl (x_or rfl rfl h.1 (fun hc => h.2.1.1 (beq_iff_eq.2 hc))) rfl, trivial⟩) ?_
      clear s0 s3 s6 s7 s9 s10 s11 s12
      clear hN hD
      rintro a24 w24 hN hD ⟨s82, s0, s3, s6, s7, s10, s11, s12, hGR, -⟩
      replace HB := below_step HB hGR
      replace HBX3 := blk_below HBX3 hGR
      replace HYM29 := HYM29
      replace HYC29 := HYC29
      replace HYM32_0 := HYM32_0
      replace HB5 := below_step HB5 hGR
      replace HYM36 := HYM36
      replace HYC36 := HYC36
      replace HOX42_0 := HOX42_0.below hGR
      replace HYM42_0 := HYM42_0
      replace HYM56 := HYM56
      replace HYC56 := HYC56
      replace HOX36 := HOX36.below hGR
      replace HOX38 := HOX38.below hGR
      have zsw24 : w23.heap.size ≤ w24.heap.size := hGR.size
      clear hGR
      show Code.wp _ _ _ _ _
      refine wp_cond (t := ((decide (1 + cntL mLO y36 + (l1.length : Int) < 0)) || (!(eqB (sSince (l0.map LO.o) l1) (sSince (l0.map LO.o) l1)))) || (((if sLogOK (l0.map LO.o) = true ∧ vecOK l1 = true then 0 else 1) : Int) != ((if sLogOK (l0.map LO.o) = true ∧ vecOK l1 = true then 0 else 1) : Int))) s82 ?_
      rw [show (((decide (1 + cntL mLO y36 + (l1.length : Int) < 0)) || (!(eqB (sSince (l0.map LO.o) l1) (sSince (l0.map LO.o) l1)))) || (((if sLogOK (l0.map LO.o) = true ∧ vecOK l1 = true then 0 else 1) : Int) != ((if sLogOK (l0.map LO.o) = true ∧ vecOK l1 = true then 0 else 1) : Int))) = false from (by have hpOX42_0 := cntL_pos (M := mLO) y42_0; have hpOX36 := cntL_pos (M := mLO) y36; simp [eqB, cnt_mkL] <;> omega)]
      show Code.wp _ _ _ _ _
      refine wp_skip ?_
      show Code.wp _ _ _ _ _
      refine wp_seq ?_
      refine deedL [.eq 13 (.int .i64 1), .eq 0 (.slice A0_ l0.length c0_), .eq 3 (.pointer (some ⟨g3, 0, none⟩)), .eq 6 (.slice A32_0 ((sSince (l0.map LO.o) l1).length) c32_0), .eq 7 (.int .i64 ((if sLogOK (l0.map LO.o) = true ∧ vecOK l1 = true then 0 else 1) : Int)), .eq 10 (.slice A42_0 ((sSince (l0.map LO.o) l1).length) c42_0), .w (Below w24.heap.size w24)] 119 [[]] [] [0, 1, 2, 3, 4, 5, 6] hM hN hD (by kernel_rfl) ⟨s0, s3, s6, s7, s10, ⟨Below.refl _ _, below_drew (Below.refl _ _)⟩, trivial⟩ ⟨fun _ _ hb h => below_step h hb, trivial⟩ (fun hgrow => ⟨fun _ _ _ => rv rfl (x_assign rfl rfl) rfl, trivial⟩) ?_
      clear s0 s3 s6 s7 s10 s11 s12 s82
      clear hN hD
      rintro a26 w26 hN hD ⟨s13, s0, s3, s6, s7, s10, hGR, -⟩
      replace HB := below_step HB hGR
      replace HBX3 := blk_below HBX3 hGR
      replace HYM29 := HYM29
      replace HYC29 := HYC29
      replace HYM32_0 := HYM32_0
      replace HB5 := below_step HB5 hGR
      replace HYM36 := HYM36
      replace HYC36 := HYC36
      replace HOX42_0 := HOX42_0.below hGR
      replace HYM42_0 := HYM42_0
      replace HYM56 := HYM56
      replace HYC56 := HYC56
      replace HOX36 := HOX36.below hGR
      replace HOX38 := HOX38.below hGR
      have zsw26 : w24.heap.size ≤ w26.heap.size := hGR.size
      clear hGR
      show Code.wp _ _ _ _ _
      refine wp_seq ?_
      refine deedL [.eq 83 (.slice A42_0 ((sSince (l0.map LO.o) l1).length) c42_0), .eq 84 (.int .i64 1), .s1 85 fun x_ W => x_ = .int .i64 (1 + cntL mLO y42_0) ∧ OwnAt eLO W A42_0 (mkL mLO y42_0 1) (w13.heap.size) (w14.heap.size) ∧ Kx (Mine (w13.heap.size) (w14.heap.size)) w26 W, .eq 13 (.int .i64 (1 + cntL mLO y42_0)), .eq 0 (.slice A0_ l0.length c0_), .eq 3 (.pointer (some ⟨g3, 0, none⟩)), .eq 6 (.slice A32_0 ((sSince (l0.map LO.o) l1).length) c32_0), .eq 7 (.int .i64 ((if sLogOK (l0.map LO.o) = true ∧ vecOK l1 = true then 0 else 1) : Int)), .eq 10 (.slice A42_0 ((sSince (l0.map LO.o) l1).length) c42_0), .eq 13 (.int .i64 1), .w (Below w26.heap.size w26)] 119 [[8], [9], [0, 1, 10], [2]] [[], [], [10], [9]] [3, 2, 4, 5, 6, 7, 8] hM hN hD (by kernel_rfl) ⟨s0, s3, s6, s7, s10, s13, ⟨Below.refl _ _, below_drew (Below.refl _ _)⟩, trivial⟩ ⟨fun _ _ _ hb h => ⟨h.1, h.2.1.below hb, h.2.2.step hb⟩, fun _ _ hb h => below_step h hb, trivial⟩ (fun hgrow => ⟨fun _ _ h => rv rfl (x_move rfl h.1) rfl,
        fun _ _ h => rv rfl (x_move rfl h.1) rfl,
        ?_,
        ?_, trivial⟩) ?_
      · rintro a_ W ⟨h0, h1, h10, -⟩
        have hm_ := HOX42_0.below h10
        exact runs_call Try.func18 (by kernel_rfl) rfl _ (wanted_none rfl) rfl (args2 h0 h1) ((markOpS_L A42_0 y42_0 c42_0 (sSince (l0.map LO.o) l1) 1 (w13.heap.size) (w14.heap.size) W HYM42_0 hm_ (by omega) (by have := part_cnt HYM42_0 (sSince_sub (l0.map LO.o) l1); omega) (by have := part_len (sSince_sub (l0.map LO.o) l1); omega)).mono fun e W2 hR => by obtain ⟨u1, u2, u3⟩ := hR; exact ⟨_, u1, owe_keep trivial ⟨rfl, u2, kx_tr (kx_of_below h10 _) u3⟩⟩)
      · rintro a_ W ⟨h2, -⟩
        obtain ⟨e2, how_, hkx_⟩ := h2
        exact rv rfl (x_assign rfl e2) rfl
      clear s0 s3 s6 s7 s10 s13
      clear hN hD
      clear HOX42_0
      rintro a27 w27 hN hD ⟨s13, ⟨s85, HOWN, hkx⟩, s0, s3, s6, s7, s10, -⟩
      replace HB := Kx.below HB hkx HB.size (fun k e => Nat.le_trans zzOX42_0 e.1)
      replace HBX3 := blk_kx HBX3 hkx (fun e => by have h1_ := e.1; have h2_ := e.2; omega)
      replace HYM29 := HYM29
      replace HYC29 := HYC29
      replace HYM32_0 := HYM32_0
      replace HB5 := Kx.below HB5 hkx HB5.size (fun k e => Nat.le_trans (by omega) e.1)
      replace HYM36 := HYM36
      replace HYC36 := HYC36
      replace HYM42_0 := HYM42_0
      replace HYM56 := HYM56
      replace HYC56 := HYC56
      replace HOX36 := HOX36.kx hkx (fun i u v e => by have := e.1; have := e.2; omega)
      replace HOX38 := HOX38.kx hkx (fun i u v e => by have := e.1; have := e.2; omega)
      have HOX42_0 := HOWN
      have zsw27 : w26.heap.size ≤ w27.heap.size := hkx.size
      clear HOWN hkx
      show Code.wp _ _ _ _ _
      refine wp_seq ?_
      refine deedL [.eq 14 (.int .i64 1), .eq 0 (.slice A0_ l0.length c0_), .eq 3 (.pointer (some ⟨g3, 0, none⟩)), .eq 6 (.slice A32_0 ((sSince (l0.map LO.o) l1).length) c32_0), .eq 7 (.int .i64 ((if sLogOK (l0.map LO.o) = true ∧ vecOK l1 = true then 0 else 1) : Int)), .eq 10 (.slice A42_0 ((sSince (l0.map LO.o) l1).length) c42_0), .eq 13 (.int .i64 (1 + cntL mLO y42_0)), .w (Below w27.heap.size w27)] 119 [[]] [] [0, 1, 2, 3, 4, 5, 6, 7] hM hN hD (by kernel_rfl) ⟨s0, s3, s6, s7, s10, s13, ⟨Below.refl _ _, below_drew (Below.refl _ _)⟩, trivial⟩ ⟨fun _ _ hb h => below_step h hb, trivial⟩ (fun hgrow => ⟨fun _ _ _ => rv rfl (x_assign rfl rfl) rfl, trivial⟩) ?_
      clear s0 s3 s6 s7 s10 s13
      clear hN hD
      rintro a28 w28 hN hD ⟨s14, s0, s3, s6, s7, s10, s13, hGR, -⟩
      replace HB := below_step HB hGR
      replace HBX3 := blk_below HBX3 hGR
      replace HYM29 := HYM29
      replace HYC29 := HYC29
      replace HYM32_0 := HYM32_0
      replace HB5 := below_step HB5 hGR
      replace HYM36 := HYM36
      replace HYC36 := HYC36
      replace HYM42_0 := HYM42_0
      replace HYM56 := HYM56
      replace HYC56 := HYC56
      replace HOX36 := HOX36.below hGR
      replace HOX38 := HOX38.below hGR
      replace HOX42_0 := HOX42_0.below hGR
      have zsw28 : w27.heap.size ≤ w28.heap.size := hGR.size
      clear hGR
      show Code.wp _ _ _ _ _
      refine wp_seq ?_
      refine deedL [.eq 86 (.slice A42_0 ((sSince (l0.map LO.o) l1).length) c42_0), .eq 87 (.int .i64 1), .eq 88 (.int .i64 (1 + cntL mLO y42_0)), .eq 14 (.int .i64 (1 + cntL mLO y42_0)), .eq 0 (.slice A0_ l0.length c0_), .eq 3 (.pointer (some ⟨g3, 0, none⟩)), .eq 6 (.slice A32_0 ((sSince (l0.map LO.o) l1).length) c32_0), .eq 7 (.int .i64 ((if sLogOK (l0.map LO.o) = true ∧ vecOK l1 = true then 0 else 1) : Int)), .eq 10 (.slice A42_0 ((sSince (l0.map LO.o) l1).length) c42_0), .eq 13 (.int .i64 (1 + cntL mLO y42_0)), .eq 14 (.int .i64 1), .w (Below w28.heap.size w28)] 119 [[8], [10], [0, 1, 11], [2]] [[], [], [], [10]] [3, 4, 5, 6, 7, 8, 9, 11] hM hN hD (by kernel_rfl) ⟨s0, s3, s6, s7, s10, s13, s14, ⟨Below.refl _ _, below_drew (Below.refl _ _)⟩, trivial⟩ ⟨fun _ _ hb h => below_step h hb, trivial⟩ (fun hgrow => ⟨fun _ _ h => rv rfl (x_move rfl h.1) rfl,
        fun _ _ h => rv rfl (x_move rfl h.1) rfl,
        fun _ _ h => rc hgrow rfl Try.func29 (by kernel_rfl) rfl rfl (args2 h.1 h.2.1) (heldOpS_L A42_0 y42_0 c42_0 (sSince (l0.map LO.o) l1) 1 _ (HYM42_0) (HOX42_0.below h.2.2.1).RV (by omega) (by have := part_cnt HYM42_0 (sSince_sub (l0.map LO.o) l1); omega) (by have := part_len (sSince_sub (l0.map LO.o) l1); omega)) (fun _ _ h => ⟨_, h.1, h.2, rfl⟩),
        fun _ _ h => rv rfl (x_assign rfl h.1) rfl, trivial⟩) ?_
      clear s0 s3 s6 s7 s10 s13 s14
      clear hN hD
      rintro a29 w29 hN hD ⟨s14, s0, s3, s6, s7, s10, s13, hGR, -⟩
      replace HB := below_step HB hGR
      replace HBX3 := blk_below HBX3 hGR
      replace HYM29 := HYM29
      replace HYC29 := HYC29
      replace HYM32_0 := HYM32_0
      replace HB5 := below_step HB5 hGR
      replace HYM36 := HYM36
      replace HYC36 := HYC36
      replace HYM42_0 := HYM42_0
      replace HYM56 := HYM56
      replace HYC56 := HYC56
      replace HOX36 := HOX36.below hGR
      replace HOX38 := HOX38.below hGR
      replace HOX42_0 := HOX42_0.below hGR
      have zsw29 : w28.heap.size ≤ w29.heap.size := hGR.size
      clear hGR
      show Code.wp _ _ _ _ _
      refine wp_seq ?_
      refine wp_seq ?_
      refine deedL [.eq 89 (.int .i64 (1 + cntL mLO y42_0)), .eq 90 (.bool (decide (1 + cntL mLO y42_0 < 0))), .eq 0 (.slice A0_ l0.length c0_), .eq 3 (.pointer (some ⟨g3, 0, none⟩)), .eq 6 (.slice A32_0 ((sSince (l0.map LO.o) l1).length) c32_0), .eq 7 (.int .i64 ((if sLogOK (l0.map LO.o) = true ∧ vecOK l1 = true then 0 else 1) : Int)), .eq 10 (.slice A42_0 ((sSince (l0.map LO.o) l1).length) c42_0), .eq 13 (.int .i64 (1 + cntL mLO y42_0)), .eq 14 (.int .i64 (1 + cntL mLO y42_0)), .w (Below w29.heap.size w29)] 119 [[8], [0]] [] [1, 2, 3, 4, 5, 6, 7, 8, 9] hM hN hD (by kernel_rfl) ⟨s0, s3, s6, s7, s10, s13, s14, ⟨Below.refl _ _, below_drew (Below.refl _ _)⟩, trivial⟩ ⟨fun _ _ hb h => below_step h hb, trivial⟩ (fun hgrow => ⟨fun _ _ h => rv rfl (x_move rfl h.1) rfl,
        fun _ _ h => rv rfl (x_lss rfl h.1 rfl) rfl, trivial⟩) ?_
      clear s0 s3 s6 s7 s10 s13 s14
      clear hN hD
      rintro a30 w30 hN hD ⟨s90, s0, s3, s6, s7, s10, s13, s14, hGR, -⟩
      replace HB := below_step HB hGR
      replace HBX3 := blk_below HBX3 hGR
      replace HYM29 := HYM29
      replace HYC29 := HYC29
      replace HYM32_0 := HYM32_0
      replace HB5 := below_step HB5 hGR
      replace HYM36 := HYM36
      replace HYC36 := HYC36
      replace HYM42_0 := HYM42_0
      replace HYM56 := HYM56
      replace HYC56 := HYC56
      replace HOX36 := HOX36.below hGR
      replace HOX38 := HOX38.below hGR
      replace HOX42_0 := HOX42_0.below hGR
      have zsw30 : w29.heap.size ≤ w30.heap.size := hGR.size
      clear hGR
      show Code.wp _ _ _ _ _
      refine wp_cond (t := decide (1 + cntL mLO y42_0 < 0)) s90 ?_
      rw [show (decide (1 + cntL mLO y42_0 < 0)) = false from (by have hpOX36 := cntL_pos (M := mLO) y36; have hpOX42_0 := cntL_pos (M := mLO) y42_0; simp [eqB, cnt_mkL] <;> omega)]
      show Code.wp _ _ _ _ _
      refine wp_skip ?_
      show Code.wp _ _ _ _ _
      refine wp_seq ?_
      refine wp_seq ?_
      refine deedL [.eq 91 (.int .i64 (1 + cntL mLO y42_0)), .eq 92 (.int .i64 (1 + cntL mLO y42_0)), .eq 93 (.bool ((1 + cntL mLO y42_0) != (1 + cntL mLO y42_0))), .eq 0 (.slice A0_ l0.length c0_), .eq 3 (.pointer (some ⟨g3, 0, none⟩)), .eq 6 (.slice A32_0 ((sSince (l0.map LO.o) l1).length) c32_0), .eq 7 (.int .i64 ((if sLogOK (l0.map LO.o) = true ∧ vecOK l1 = true then 0 else 1) : Int)), .eq 10 (.slice A42_0 ((sSince (l0.map LO.o) l1).length) c42_0), .eq 13 (.int .i64 (1 + cntL mLO y42_0)), .eq 14 (.int .i64 (1 + cntL mLO y42_0)), .w (Below w30.heap.size w30)] 119 [[9], [8], [0, 1]] [] [2, 3, 4, 5, 6, 7, 8, 9, 10] hM hN hD (by kernel_rfl) ⟨s0, s3, s6, s7, s10, s13, s14, ⟨Below.refl _ _, below_drew (Below.refl _ _)⟩, trivial⟩ ⟨fun _ _ hb h => below_step h hb, trivial⟩ (fun hgrow => ⟨fun _ _ h => rv rfl (x_move rfl h.1) rfl,
        fun _ _ h => rv rfl (x_move rfl h.1) rfl,
        fun _ _ h => rv rfl (x_neq rfl h.1 h.2.1) rfl, trivial⟩) ?_
      clear s0 s3 s6 s7 s10 s13 s14 s90
      clear hN hD
      rintro a32 w32 hN hD ⟨s93, s0, s3, s6, s7, s10, s13, s14, hGR, -⟩
      replace HB := below_step HB hGR
      replace HBX3 := blk_below HBX3 hGR
      replace HYM29 := HYM29
      replace HYC29 := HYC29
      replace HYM32_0 := HYM32_0
      replace HB5 := below_step HB5 hGR
      replace HYM36 := HYM36
      replace HYC36 := HYC36
      replace HYM42_0 := HYM42_0
      replace HYM56 := HYM56
      replace HYC56 := HYC56
      replace HOX36 := HOX36.below hGR
      replace HOX38 := HOX38.below hGR
      replace HOX42_0 := HOX42_0.below hGR
      have zsw32 : w30.heap.size ≤ w32.heap.size := hGR.size
      clear hGR
      show Code.wp _ _ _ _ _
      refine wp_cond (t := (1 + cntL mLO y42_0) != (1 + cntL mLO y42_0)) s93 ?_
      rw [show ((1 + cntL mLO y42_0) != (1 + cntL mLO y42_0)) = false from (by have hpOX36 := cntL_pos (M := mLO) y36; have hpOX42_0 := cntL_pos (M := mLO) y42_0; simp [eqB, cnt_mkL] <;> omega)]
      show Code.wp _ _ _ _ _
      refine wp_skip ?_
      show Code.wp _ _ _ _ _
      refine wp_seq ?_
      have hBw32 := HB
      refine deedL (.eq 95 (.slice A0_ l0.length c0_) :: (.s1 96 fun x_ W => ∃ (A96 : Option Addr) (c96 : Nat) (y96 : List LO), x_ = .slice A96 ((l0.map LO.o).length) c96 ∧ OwnAt eLO W A96 y96 (w32.heap.size) W.heap.size ∧ y96.map LO.o = l0.map LO.o ∧ Caps y96) :: .eq 97 (.agg #[Value.slice A1_ l1.length c1_]) :: (.s1 98 fun x_ W => ∃ (A98 : Option Addr) (c98 : Nat), x_ = .agg #[Value.slice A98 l1.length c98] ∧ OwnI W A98 l1 (w32.heap.size) W.heap.size) :: (.s1 99 fun x_ W => ∃ (A99_0 : Option Addr) (c99_0 : Nat) (y99_0 : List LO), x_ = .tuple #[Value.slice A99_0 ((sSince (l0.map LO.o) l1).length) c99_0, Value.int .i64 ((if sLogOK (l0.map LO.o) = true ∧ vecOK l1 = true then 0 else 1) : Int)] ∧ OwnAt eLO W A99_0 y99_0 (w32.heap.size) W.heap.size ∧ y99_0.map LO.o = sSince (l0.map LO.o) l1) :: (.s2 99 94 fun x_ y_ _ => ∃ (A99_0 : Option Addr) (c99_0 : Nat), x_ = .tuple #[Value.slice A99_0 ((sSince (l0.map LO.o) l1).length) c99_0, Value.int .i64 ((if sLogOK (l0.map LO.o) = true ∧ vecOK l1 = true then 0 else 1) : Int)] ∧ y_ = .tuple #[Value.slice A99_0 ((sSince (l0.map LO.o) l1).length) c99_0, Value.int .i64 ((if sLogOK (l0.map LO.o) = true ∧ vecOK l1 = true then 0 else 1) : Int)]) :: (.s2 99 100 fun x_ y_ _ => ∃ (A99_0 : Option Addr) (c99_0 : Nat), x_ = .tuple #[Value.slice A99_0 ((sSince (l0.map LO.o) l1).length) c99_0, Value.int .i64 ((if sLogOK (l0.map LO.o) = true ∧ vecOK l1 = true then 0 else 1) : Int)] ∧ y_ = .slice A99_0 ((sSince (l0.map LO.o) l1).length) c99_0) :: .eq 101 (.int .i64 ((if sLogOK (l0.map LO.o) = true ∧ vecOK l1 = true then 0 else 1) : Int)) :: (.s2 99 15 fun x_ y_ _ => ∃ (A99_0 : Option Addr) (c99_0 : Nat), x_ = .tuple #[Value.slice A99_0 ((sSince (l0.map LO.o) l1).length) c99_0, Value.int .i64 ((if sLogOK (l0.map LO.o) = true ∧ vecOK l1 = true then 0 else 1) : Int)] ∧ y_ = .slice A99_0 ((sSince (l0.map LO.o) l1).length) c99_0) :: .eq 16 (.int .i64 ((if sLogOK (l0.map LO.o) = true ∧ vecOK l1 = true then 0 else 1) : Int)) :: .eq 0 (.slice A0_ l0.length c0_) :: .eq 3 (.pointer (some ⟨g3, 0, none⟩)) :: .eq 6 (.slice A32_0 ((sSince (l0.map LO.o) l1).length) c32_0) :: .eq 7 (.int .i64 ((if sLogOK (l0.map LO.o) = true ∧ vecOK l1 = true then 0 else 1) : Int)) :: .eq 10 (.slice A42_0 ((sSince (l0.map LO.o) l1).length) c42_0) :: .eq 13 (.int .i64 (1 + cntL mLO y42_0)) :: .w (Below w32.heap.size w32) :: []) 119 [[10], [0, 16], [11, 16], [2, 16], [1, 3, 16], [4], [5], [5], [6], [7]] [] [9, 1, 3, 4, 8, 10, 11, 12, 13, 14, 15, 16] hM hN hD (by kernel_rfl) ⟨s0, s3, s6, s7, s10, s13, ⟨Below.refl _ _, below_drew (Below.refl _ _)⟩, trivial⟩ ⟨fun _ _ _ hb h => by obtain ⟨A96, c96, y96, e_, z0, z1, z2⟩ := h; exact ⟨_, _, _, e_, (z0.below hb).wide (Nat.le_refl _) hb.size, z1, z2⟩, fun _ _ _ hb h => by obtain ⟨A98, c98, e_, z0⟩ := h; exact ⟨_, _, e_, (z0.below hb).wide (Nat.le_refl _) hb.size⟩, fun _ _ _ hb h => by obtain ⟨A99_0, c99_0, y99_0, e_, z0, z1⟩ := h; exact ⟨_, _, _, e_, (z0.below hb).wide (Nat.le_refl _) hb.size, z1⟩, fun _ _ _ _ hb h => h, fun _ _ _ _ hb h => h, fun _ _ _ _ hb h => h, fun _ _ hb h => below_step h hb, trivial⟩ (fun hgrow => ⟨fun _ _ h => rv rfl (x_move rfl h.1) rfl,
        fun _ _ h => rc hgrow rfl Try.func14 (by kernel_rfl) rfl rfl (args1 h.1) (toOpS_L A0_ l0 c0_ _ (RV.below HR0 (below_step HB h.2.1)) hxn0 hdl0) (fun _ _ hR => by obtain ⟨A96, c96, y96, e_, z0, z1, z2, hb⟩ := hR; exact ⟨_, e_, hb, A96, c96, y96, rfl, (z0.wide h.2.1.size (Nat.le_refl _)), z1, z2⟩),
        fun _ _ h => rv rfl (x_loadS rfl h.1 Try.underlying37 [.slice A1_ l1.length c1_] sz37 (blk_list (L := [.slice A1_ l1.length c1_]) (blk_below HBX3 h.2.1) 0 rfl)) rfl,
        fun _ _ h => rc hgrow rfl Try.func25 (by kernel_rfl) rfl rfl (args1 h.1) (toV_L A1_ l1 c1_ _ (RI.below HR1 (below_step HB h.2.1)) hxn1) (fun _ _ hR => by obtain ⟨A98, c98, e_, z0, hb⟩ := hR; exact ⟨_, e_, hb, A98, c98, rfl, (z0.wide h.2.1.size (Nat.le_refl _))⟩),
        ?_,
        ?_,
        ?_,
        ?_,
        ?_,
        fun _ _ h => rv rfl (x_assign rfl h.1) rfl, trivial⟩) ?_
      · rintro a_ W ⟨h1, h3, h16, -⟩
        obtain ⟨A96, c96, y96, e1, HOX96, HYM96, HYC96⟩ := h1
        obtain ⟨A98, c98, e3, HOX98⟩ := h3
        exact rc hgrow rfl Try.func26 (by kernel_rfl) rfl rfl (args2 e1 e3) (iSince_L A96 y96 c96 (l0.map LO.o) A98 l1 c98 _ HYM96 HOX96.RV HYC96 HOX98.RI) (fun _ _ hR => by obtain ⟨A99_0, c99_0, y99_0, e_, z0, z1, hb⟩ := hR; exact ⟨_, e_, hb, A99_0, c99_0, y99_0, rfl, (z0.wide h16.size (Nat.le_refl _)), z1⟩)
      · rintro a_ W ⟨h4, -⟩
        obtain ⟨A99_0, c99_0, y99_0, e4, HOX99_0, HYM99_0⟩ := h4
        exact rv rfl (x_move rfl e4) ⟨_, _, e4, rfl⟩
      · rintro a_ W ⟨h5, -⟩
        obtain ⟨A99_0, c99_0, r5, e5⟩ := h5
        exact rv rfl (x_extract rfl e5 rfl) ⟨_, _, r5, rfl⟩
      · rintro a_ W ⟨h5, -⟩
        obtain ⟨A99_0, c99_0, r5, e5⟩ := h5
        exact rv rfl (x_extract rfl e5 rfl) rfl
      · rintro a_ W ⟨h6, -⟩
        obtain ⟨A99_0, c99_0, r6, e6⟩ := h6
        exact rv rfl (x_assign rfl e6) ⟨_, _, r6, rfl⟩
      clear s0 s3 s6 s7 s10 s13 s14 s93
      clear hN hD
      rintro a34 w34 hN hD ⟨s16, ⟨A96, c96, y96, s96, HOX96, HYM96, HYC96⟩, ⟨A98, c98, s98, HOX98⟩, ⟨A99_0, c99_0, y99_0, s99, HOX99_0, HYM99_0⟩, q15, s0, s3, s6, s7, s10, s13, hGR, -⟩
      obtain ⟨A99_0_, c99_0_, e_, s15⟩ := q15
      cases s99.symm.trans e_
      replace HB := below_step HB hGR
      replace HBX3 := blk_below HBX3 hGR
      replace HYM29 := HYM29
      replace HYC29 := HYC29
      replace HYM32_0 := HYM32_0
      replace HB5 := below_step HB5 hGR
      replace HYM36 := HYM36
      replace HYC36 := HYC36
      replace HYM42_0 := HYM42_0
      replace HYM56 := HYM56
      replace HYC56 := HYC56
      replace HOX36 := HOX36.below hGR
      replace HOX38 := HOX38.below hGR
      replace HOX42_0 := HOX42_0.below hGR
      clear HOX36
      clear HOX38
      clear HOX96
      clear HOX98
      have cl_OX99_0 := cntL_pos (M := mLO) y99_0
      have cu_OX99_0 : cntL mLO y99_0 ≤ 1000000000 := by have := part_cnt HYM99_0 (sSince_sub (l0.map LO.o) l1); omega
      have zzOX99_0 : w.heap.size ≤ w32.heap.size := hBw32.size
      have zsw34 : w32.heap.size ≤ w34.heap.size := hGR.size
      clear hGR
      show Code.wp _ _ _ _ _
      refine wp_seq ?_
      refine wp_seq ?_
      refine deedL (.eq 102 (.slice A99_0 ((sSince (l0.map LO.o) l1).length) c99_0) :: .eq 103 (.slice A32_0 ((sSince (l0.map LO.o) l1).length) c32_0) :: .eq 104 (.bool (eqB (sSince (l0.map LO.o) l1) (sSince (l0.map LO.o) l1))) :: .eq 105 (.bool (!(eqB (sSince (l0.map LO.o) l1) (sSince (l0.map LO.o) l1)))) :: .eq 106 (.bool (!(eqB (sSince (l0.map LO.o) l1) (sSince (l0.map LO.o) l1)))) :: .gv (((!(eqB (sSince (l0.map LO.o) l1) (sSince (l0.map LO.o) l1))) == false)) 107 (.int .i64 ((if sLogOK (l0.map LO.o) = true ∧ vecOK l1 = true then 0 else 1) : Int)) :: .gv (((!(eqB (sSince (l0.map LO.o) l1) (sSince (l0.map LO.o) l1))) == false)) 108 (.int .i64 ((if sLogOK (l0.map LO.o) = true ∧ vecOK l1 = true then 0 else 1) : Int)) :: .gv (((!(eqB (sSince (l0.map LO.o) l1) (sSince (l0.map LO.o) l1))) == false)) 109 (.bool (((if sLogOK (l0.map LO.o) = true ∧ vecOK l1 = true then 0 else 1) : Int) != ((if sLogOK (l0.map LO.o) = true ∧ vecOK l1 = true then 0 else 1) : Int))) :: .eq 110 (.bool ((!(eqB (sSince (l0.map LO.o) l1) (sSince (l0.map LO.o) l1))) || (((if sLogOK (l0.map LO.o) = true ∧ vecOK l1 = true then 0 else 1) : Int) != ((if sLogOK (l0.map LO.o) = true ∧ vecOK l1 = true then 0 else 1) : Int)))) :: .eq 6 (.slice A32_0 ((sSince (l0.map LO.o) l1).length) c32_0) :: .eq 7 (.int .i64 ((if sLogOK (l0.map LO.o) = true ∧ vecOK l1 = true then 0 else 1) : Int)) :: .eq 10 (.slice A42_0 ((sSince (l0.map LO.o) l1).length) c42_0) :: .eq 13 (.int .i64 (1 + cntL mLO y42_0)) :: .eq 15 (.slice A99_0 ((sSince (l0.map LO.o) l1).length) c99_0) :: .eq 16 (.int .i64 ((if sLogOK (l0.map LO.o) = true ∧ vecOK l1 = true then 0 else 1) : Int)) :: .w (Below w34.heap.size w34) :: []) 119 [[13], [9], [0, 1, 15], [2], [3], [4, 14], [4, 10], [4, 5, 6], [4, 7]] [] [8, 9, 10, 11, 12, 13, 14, 15] hM hN hD (by kernel_rfl) ⟨s6, s7, s10, s13, s15, s16, ⟨Below.refl _ _, below_drew (Below.refl _ _)⟩, trivial⟩ ⟨fun _ _ hb h => below_step h hb, trivial⟩ (fun hgrow => ⟨fun _ _ h => rv rfl (x_move rfl h.1) rfl,
        fun _ _ h => rv rfl (x_move rfl h.1) rfl,
        fun _ _ h => rc hgrow rfl Try.func17 (by kernel_rfl) rfl rfl (args2 h.1 h.2.1) (eqOpS_L A99_0 y99_0 c99_0 (sSince (l0.map LO.o) l1) A32_0 y32_0 c32_0 (sSince (l0.map LO.o) l1) _ (HYM99_0) (HYM32_0) (HOX99_0.below h.2.2.1).RV (RV.below HWOX32_0 (below_step HB5 h.2.2.1)) (by have := part_len (sSince_sub (l0.map LO.o) l1); omega) (by exact fun o ho => Nat.le_trans (part_deps (sSince_sub (l0.map LO.o) l1) hdl0 o ho) (by decide))) (fun _ _ h => ⟨_, h.1, h.2, rfl⟩),
        fun _ _ h => rv rfl (x_not rfl h.1) rfl,
        fun _ _ h => rv rfl (x_move rfl h.1) rfl,
        fun _ _ h => rb rfl rfl h.1 (fun hgt => x_move rfl h.2.1) (fun _ z => z),
        fun _ _ h => rb rfl rfl h.1 (fun hgt => x_move rfl h.2.1) (fun _ z => z),
        fun _ _ h => rb rfl rfl h.1 (fun hgt => x_neq rfl (h.2.1.1 hgt) (h.2.2.1.1 hgt)) (fun _ z => z),
        fun _ _ h => rv rfl (x_or rfl rfl h.1 (fun hc => h.2.1.1 (beq_iff_eq.2 hc))) rfl, trivial⟩) ?_
      clear s0 s3 s6 s7 s10 s13 s15 s16
      clear hN hD
      rintro a35 w35 hN hD ⟨s110, s6, s7, s10, s13, s15, s16, hGR, -⟩
      replace HB := below_step HB hGR
      replace HBX3 := blk_below HBX3 hGR
      replace HYM29 := HYM29
      replace HYC29 := HYC29
      replace HYM32_0 := HYM32_0
      replace HB5 := below_step HB5 hGR
      replace HYM36 := HYM36
      replace HYC36 := HYC36
      replace HYM42_0 := HYM42_0
      replace HYM56 := HYM56
      replace HYC56 := HYC56
      replace HOX42_0 := HOX42_0.below hGR
      replace HYM96 := HYM96
      replace HYC96 := HYC96
      replace HOX99_0 := HOX99_0.below hGR
      replace HYM99_0 := HYM99_0
      have zsw35 : w34.heap.size ≤ w35.heap.size := hGR.size
      clear hGR
      show Code.wp _ _ _ _ _
      refine wp_cond (t := (!(eqB (sSince (l0.map LO.o) l1) (sSince (l0.map LO.o) l1))) || (((if sLogOK (l0.map LO.o) = true ∧ vecOK l1 = true then 0 else 1) : Int) != ((if sLogOK (l0.map LO.o) = true ∧ vecOK l1 = true then 0 else 1) : Int))) s110 ?_
      rw [show ((!(eqB (sSince (l0.map LO.o) l1) (sSince (l0.map LO.o) l1))) || (((if sLogOK (l0.map LO.o) = true ∧ vecOK l1 = true then 0 else 1) : Int) != ((if sLogOK (l0.map LO.o) = true ∧ vecOK l1 = true then 0 else 1) : Int))) = false from (by have hpOX42_0 := cntL_pos (M := mLO) y42_0; have hpOX99_0 := cntL_pos (M := mLO) y99_0; simp [eqB, cnt_mkL] <;> omega)]
      show Code.wp _ _ _ _ _
      refine wp_skip ?_
      show Code.wp _ _ _ _ _
      refine wp_seq ?_
      refine deedL [.eq 14 (.int .i64 1), .eq 10 (.slice A42_0 ((sSince (l0.map LO.o) l1).length) c42_0), .eq 13 (.int .i64 (1 + cntL mLO y42_0)), .w (Below w35.heap.size w35)] 119 [[]] [] [0, 1, 2, 3] hM hN hD (by kernel_rfl) ⟨s10, s13, ⟨Below.refl _ _, below_drew (Below.refl _ _)⟩, trivial⟩ ⟨fun _ _ hb h => below_step h hb, trivial⟩ (fun hgrow => ⟨fun _ _ _ => rv rfl (x_assign rfl rfl) rfl, trivial⟩) ?_
      clear s6 s7 s10 s13 s15 s16 s110
      clear hN hD
      rintro a37 w37 hN hD ⟨s14, s10, s13, hGR, -⟩
      replace HB := below_step HB hGR
      replace HBX3 := blk_below HBX3 hGR
      replace HYM29 := HYM29
      replace HYC29 := HYC29
      replace HYM32_0 := HYM32_0
      replace HB5 := below_step HB5 hGR
      replace HYM36 := HYM36
      replace HYC36 := HYC36
      replace HYM42_0 := HYM42_0
      replace HYM56 := HYM56
      replace HYC56 := HYC56
      replace HOX42_0 := HOX42_0.below hGR
      replace HYM96 := HYM96
      replace HYC96 := HYC96
      replace HOX99_0 := HOX99_0.below hGR
      replace HYM99_0 := HYM99_0
      have zsw37 : w35.heap.size ≤ w37.heap.size := hGR.size
      clear hGR
      show Code.wp _ _ _ _ _
      refine wp_seq ?_
      refine deedL [.eq 111 (.slice A42_0 ((sSince (l0.map LO.o) l1).length) c42_0), .eq 112 (.int .i64 1), .eq 113 (.int .i64 (1 + cntL mLO y42_0)), .eq 14 (.int .i64 (1 + cntL mLO y42_0)), .eq 10 (.slice A42_0 ((sSince (l0.map LO.o) l1).length) c42_0), .eq 13 (.int .i64 (1 + cntL mLO y42_0)), .eq 14 (.int .i64 1), .w (Below w37.heap.size w37)] 119 [[4], [6], [0, 1, 7], [2]] [[], [], [], [6]] [3, 4, 5, 7] hM hN hD (by kernel_rfl) ⟨s10, s13, s14, ⟨Below.refl _ _, below_drew (Below.refl _ _)⟩, trivial⟩ ⟨fun _ _ hb h => below_step h hb, trivial⟩ (fun hgrow => ⟨fun _ _ h => rv rfl (x_move rfl h.1) rfl,
        fun _ _ h => rv rfl (x_move rfl h.1) rfl,
        fun _ _ h => rc hgrow rfl Try.func29 (by kernel_rfl) rfl rfl (args2 h.1 h.2.1) (heldOpS_L A42_0 y42_0 c42_0 (sSince (l0.map LO.o) l1) 1 _ (HYM42_0) (HOX42_0.below h.2.2.1).RV (by omega) (by have := part_cnt HYM42_0 (sSince_sub (l0.map LO.o) l1); omega) (by have := part_len (sSince_sub (l0.map LO.o) l1); omega)) (fun _ _ h => ⟨_, h.1, h.2, rfl⟩),
        fun _ _ h => rv rfl (x_assign rfl h.1) rfl, trivial⟩) ?_
      clear s10 s13 s14
      clear hN hD
      rintro a38 w38 hN hD ⟨s14, s10, s13, hGR, -⟩
      replace HB := below_step HB hGR
      replace HBX3 := blk_below HBX3 hGR
      replace HYM29 := HYM29
      replace HYC29 := HYC29
      replace HYM32_0 := HYM32_0
      replace HB5 := below_step HB5 hGR
      replace HYM36 := HYM36
      replace HYC36 := HYC36
      replace HYM42_0 := HYM42_0
      replace HYM56 := HYM56
      replace HYC56 := HYC56
      replace HOX42_0 := HOX42_0.below hGR
      replace HYM96 := HYM96
      replace HYC96 := HYC96
      replace HOX99_0 := HOX99_0.below hGR
      replace HYM99_0 := HYM99_0
      have zsw38 : w37.heap.size ≤ w38.heap.size := hGR.size
      clear hGR
      show Code.wp _ _ _ _ _
      refine wp_seq ?_
      refine wp_seq ?_
      refine deedL [.eq 114 (.int .i64 (1 + cntL mLO y42_0)), .eq 115 (.bool (decide (1 + cntL mLO y42_0 < 0))), .eq 13 (.int .i64 (1 + cntL mLO y42_0)), .eq 14 (.int .i64 (1 + cntL mLO y42_0)), .w (Below w38.heap.size w38)] 119 [[3], [0]] [] [1, 2, 3, 4] hM hN hD (by kernel_rfl) ⟨s13, s14, ⟨Below.refl _ _, below_drew (Below.refl _ _)⟩, trivial⟩ ⟨fun _ _ hb h => below_step h hb, trivial⟩ (fun hgrow => ⟨fun _ _ h => rv rfl (x_move rfl h.1) rfl,
        fun _ _ h => rv rfl (x_lss rfl h.1 rfl) rfl, trivial⟩) ?_
      clear s10 s13 s14
      clear hN hD
      rintro a39 w39 hN hD ⟨s115, s13, s14, hGR, -⟩
      replace HB := below_step HB hGR
      replace HBX3 := blk_below HBX3 hGR
      replace HYM29 := HYM29
      replace HYC29 := HYC29
      replace HYM32_0 := HYM32_0
      replace HB5 := below_step HB5 hGR
      replace HYM36 := HYM36
      replace HYC36 := HYC36
      replace HYM42_0 := HYM42_0
      replace HYM56 := HYM56
      replace HYC56 := HYC56
      replace HOX42_0 := HOX42_0.below hGR
      replace HYM96 := HYM96
      replace HYC96 := HYC96
      replace HOX99_0 := HOX99_0.below hGR
      replace HYM99_0 := HYM99_0
      have zsw39 : w38.heap.size ≤ w39.heap.size := hGR.size
      clear hGR
      show Code.wp _ _ _ _ _
      refine wp_cond (t := decide (1 + cntL mLO y42_0 < 0)) s115 ?_
      rw [show (decide (1 + cntL mLO y42_0 < 0)) = false from (by have hpOX42_0 := cntL_pos (M := mLO) y42_0; have hpOX99_0 := cntL_pos (M := mLO) y99_0; simp [eqB, cnt_mkL] <;> omega)]
      show Code.wp _ _ _ _ _
      refine wp_skip ?_
      show Code.wp _ _ _ _ _
      refine wp_seq ?_
      refine wp_seq ?_
      refine deedL [.eq 116 (.int .i64 (1 + cntL mLO y42_0)), .eq 117 (.int .i64 (1 + cntL mLO y42_0)), .eq 118 (.bool ((1 + cntL mLO y42_0) != (1 + cntL mLO y42_0))), .eq 13 (.int .i64 (1 + cntL mLO y42_0)), .eq 14 (.int .i64 (1 + cntL mLO y42_0)), .w (Below w39.heap.size w39)] 119 [[4], [3], [0, 1]] [] [2, 3, 4, 5] hM hN hD (by kernel_rfl) ⟨s13, s14, ⟨Below.refl _ _, below_drew (Below.refl _ _)⟩, trivial⟩ ⟨fun _ _ hb h => below_step h hb, trivial⟩ (fun hgrow => ⟨fun _ _ h => rv rfl (x_move rfl h.1) rfl,
        fun _ _ h => rv rfl (x_move rfl h.1) rfl,
        fun _ _ h => rv rfl (x_neq rfl h.1 h.2.1) rfl, trivial⟩) ?_
      clear s13 s14 s115
      clear hN hD
      rintro a41 w41 hN hD ⟨s118, s13, s14, hGR, -⟩
      replace HB := below_step HB hGR
      replace HBX3 := blk_below HBX3 hGR
      replace HYM29 := HYM29
      replace HYC29 := HYC29
      replace HYM32_0 := HYM32_0
      replace HB5 := below_step HB5 hGR
      replace HYM36 := HYM36
      replace HYC36 := HYC36
      replace HYM42_0 := HYM42_0
      replace HYM56 := HYM56
      replace HYC56 := HYC56
      replace HOX42_0 := HOX42_0.below hGR
      replace HYM96 := HYM96
      replace HYC96 := HYC96
      replace HOX99_0 := HOX99_0.below hGR
      replace HYM99_0 := HYM99_0
      have zsw41 : w39.heap.size ≤ w41.heap.size := hGR.size
      clear hGR
      show Code.wp _ _ _ _ _
      refine wp_cond (t := (1 + cntL mLO y42_0) != (1 + cntL mLO y42_0)) s118 ?_
      rw [show ((1 + cntL mLO y42_0) != (1 + cntL mLO y42_0)) = false from (by have hpOX42_0 := cntL_pos (M := mLO) y42_0; have hpOX99_0 := cntL_pos (M := mLO) y99_0; simp [eqB, cnt_mkL] <;> omega)]
      show Code.wp _ _ _ _ _
      refine wp_skip ?_
      show Code.wp _ _ _ _ _
      refine wp_seq ?_
      refine deedL [.eq 4 (.bool true), .w (Below w41.heap.size w41)] 119 [[]] [] [0, 1] hM hN hD (by kernel_rfl) ⟨⟨Below.refl _ _, below_drew (Below.refl _ _)⟩, trivial⟩ ⟨fun _ _ hb h => below_step h hb, trivial⟩ (fun hgrow => ⟨fun _ _ _ => rv rfl (x_assign rfl rfl) rfl, trivial⟩) ?_
      clear s13 s14 s118
      clear hN hD
      rintro a43 w43 hN hD ⟨s4, hGR, -⟩
      replace HB := below_step HB hGR
      replace HBX3 := blk_below HBX3 hGR
      replace HYM29 := HYM29
      replace HYC29 := HYC29
      replace HYM32_0 := HYM32_0
      replace HB5 := below_step HB5 hGR
      replace HYM36 := HYM36
      replace HYC36 := HYC36
      replace HYM42_0 := HYM42_0
      replace HYM56 := HYM56
      replace HYC56 := HYC56
      replace HOX42_0 := HOX42_0.below hGR
      replace HYM96 := HYM96
      replace HYC96 := HYC96
      replace HOX99_0 := HOX99_0.below hGR
      replace HYM99_0 := HYM99_0
      have zsw43 : w41.heap.size ≤ w43.heap.size := hGR.size
      clear hGR
      show Code.wp _ _ _ _ _
      refine wp_ret ?_
      refine bodyPost_ret (results_single rfl (vtmp s4 .nil)) hD ?_
      exact ⟨rfl, HB⟩
end Go.Proofs.Ytideafkiaipnoaa.Q

/- What a law is handed, opened: rows of elements. -/
namespace Go.Proofs.Ytideafkiaipnoaa.Q
set_option linter.unusedVariables false
set_option linter.unusedSimpArgs false
open Go Go.ChangeShapes Go.WideShapes Go.ChangeAt Go.RowKit Go.Proofs.YtideafkiaipnoaaW.PrintWords Go.Proofs.Ytideafkiaipnoaa.Deed
section
variable {H : Type} {enc : TypeId × Value → H} {P : Program} {w : World} {base : Nat} {sp : Nat → Bool} {held : Bool} {t e : TypeId} {x : DataW H × List MemPlace} {fuel : Nat}
theorem op_ints {cs : List Value} (ht : P.underlying t = some (.slice e)) (he : P.underlying e = some (.int .i64)) (hc : P.cellsOf e = 1) (h : DataW.trod enc P w base sp held fuel t cs = some x) :
    ∃ (A : Option Addr) (ys : List Int) (c : Nat), cs = [.slice A ys.length c] ∧ RI w A ys ∧ ys.length ≤ c ∧ c ≤ 9223372036854775807 := by
  rcases open_ints ht he hc h with ⟨rfl, _⟩ | ⟨a, len, cap, zs, rfl, _, hl, hm, hz, _, hcell, _⟩
  · exact ⟨none, [], 0, rfl, RI.nil _ _, Nat.le_refl _, by omega⟩
  · have hlz : len ≤ zs.length := by rw [hz]; split <;> omega
    refine ⟨some a, zs.take len, cap, by rw [List.length_take, Nat.min_eq_left hlz], fun i y hy => ?_, by rw [List.length_take]; omega, hm⟩
    have hi : i < len := by have := (List.getElem?_eq_some_iff.1 hy).1; rw [List.length_take] at this; omega
    rw [List.getElem?_take_of_lt hi] at hy
    refine ⟨rfl, ?_⟩
    have := hcell i (by omega)
    rw [List.getD_eq_getElem?_getD, hy] at this
    exact this
theorem op_row {α : Type} {E : Enc α} {Good : α → Prop} {cs : List Value} (ht : P.underlying t = some (.slice e)) (hn : P.cellsOf e = E.n) (hn0 : 0 < E.n)
    (hel : ∀ (fuel : Nat) (cs : List Value) (x : DataW H × List MemPlace), DataW.trod enc P w base sp held fuel e cs = some x → ∃ a : α, cs = E.enc a ∧ (∀ B ys, E.inn a = some (B, ys) → RI w B ys) ∧ Good a)
    (h : DataW.trod enc P w base sp held fuel t cs = some x) : ∃ (A : Option Addr) (xs : List α) (c : Nat), cs = [.slice A xs.length c] ∧ RV E w A xs ∧ (∀ y ∈ xs, Good y) ∧ xs.length ≤ c ∧ c ≤ 9223372036854775807 := by
  rcases DataW.trod_slice ht h with ⟨rfl, _⟩ | ⟨a, len, cap, elems, rest, n, _, rfl, _, _, hl, hm, hlen, helm, _, _⟩
  · exact ⟨none, [], 0, rfl, RV.nil _ _, by simp, Nat.le_refl _, by omega⟩
  · have each : ∀ i : Fin len, ∃ y : α, (∀ (j : Nat) (u : Value), (E.enc y)[j]? = some u → w.cell? (a.add (i.1 * E.n + j)) = some u) ∧ (∀ B ys, E.inn y = some (B, ys) → RI w B ys) ∧ Good y := by
      intro i
      have h1 := helm i.1 i.2
      have hx : elems[i.1]? = some elems[i.1] := List.getElem?_eq_getElem (by omega)
      rw [hx, Option.bind_eq_some_iff] at h1
      obtain ⟨cs', hcs, hy⟩ := h1
      obtain ⟨y, e1, h2, h3⟩ := hel _ _ _ hy
      obtain ⟨_, _, hc⟩ := World.cells?_some hcs
      refine ⟨y, fun j u hu => ?_, h2, h3⟩
      have hj := enc_lt hu
      have h4 := hc j (by rw [hn]; exact hj)
      rw [e1, hu, hn, add_add] at h4
      exact h4
    have hch : ∃ f : Fin len → α, ∀ i, (∀ (j : Nat) (u : Value), (E.enc (f i))[j]? = some u → w.cell? (a.add (i.1 * E.n + j)) = some u) ∧ (∀ B ys, E.inn (f i) = some (B, ys) → RI w B ys) ∧ Good (f i) := ⟨fun i => (each i).choose, fun i => (each i).choose_spec⟩
    obtain ⟨f, hf⟩ := hch
    refine ⟨some a, List.ofFn f, cap, by simp, fun i y hy => ?_, fun y hy => ?_, by simpa using hl, hm⟩
    · rw [List.getElem?_ofFn] at hy
      split at hy
      · rename_i hi
        cases hy
        exact ⟨rfl, (hf ⟨i, hi⟩).1, (hf ⟨i, hi⟩).2.1⟩
      · cases hy
    · obtain ⟨i, rfl⟩ := List.mem_ofFn.1 hy
      exact (hf i).2.2
end
end Go.Proofs.Ytideafkiaipnoaa.Q

/- Functions walked. -/
namespace Go.Proofs.Ytideafkiaipnoaa.Q
open Go Go.ChangeShapes Go.WideShapes Go.ChangeAt Go.RowKit Go.Proofs.YtideafkiaipnoaaW.PrintWords Go.Proofs.Ytideafkiaipnoaa.Deed
set_option maxRecDepth 100000
set_option linter.unusedVariables false
set_option linter.unusedSimpArgs false
theorem opn37 {H : Type} {enc : TypeId × Value → H} {w : World} {base : Nat} {sp : Nat → Bool} {held : Bool} {x : DataW H × List MemPlace} {fuel : Nat} {cs : List Value} (h : DataW.trod enc Try.prog w base sp held fuel 37 cs = some x) : ∃ (v0 : List Int) (A0 : Option Addr) (c0_ : Nat), cs = [.slice A0 v0.length c0_] ∧ RI w A0 v0 ∧ v0.length ≤ c0_ ∧ c0_ ≤ 9223372036854775807 := by
  obtain ⟨xs, n, rfl, rfl, hl, hx, hf⟩ := DataW.trod_struct Try.underlying37 h
  rw [show Try.prog.cellsOf 37 = 1 by kernel_rfl] at hl
  obtain ⟨c0, rfl⟩ : ∃ c0, cs = [c0] := by
    cases cs with
    | nil => simp at hl
    | cons c0 cs =>
    cases cs with
    | cons _ _ => simp at hl
    | nil => exact ⟨_, rfl⟩
  have f0 : DataW.trod enc Try.prog w base sp held n 24 (List.take (Try.prog.cellsOf 24) (List.drop 0 [c0])) = xs[0]? := hf 0 _ rfl
  rw [show Try.prog.cellsOf 24 = 1 by kernel_rfl, List.getElem?_eq_getElem (show 0 < xs.length by rw [hx]; decide)] at f0
  replace f0 : DataW.trod enc Try.prog w base sp held n 24 [c0] = some _ := f0
  obtain ⟨A0, v0, c0_, e0, r0, l0, m0⟩ := op_ints Try.underlying24 Try.underlying3 (by kernel_rfl) f0
  cases e0
  exact ⟨v0, A0, c0_, rfl, r0, l0, m0⟩
theorem opn61 {H : Type} {enc : TypeId × Value → H} {w : World} {base : Nat} {sp : Nat → Bool} {held : Bool} {x : DataW H × List MemPlace} {fuel : Nat} {cs : List Value} (h : DataW.trod enc Try.prog w base sp held fuel 61 cs = some x) : ∃ (v0 : Int) (v1 : Int), cs = [.int .i64 v0, .int .i64 v1] := by
  obtain ⟨xs, n, rfl, rfl, hl, hx, hf⟩ := DataW.trod_struct Try.underlying61 h
  rw [show Try.prog.cellsOf 61 = 2 by kernel_rfl] at hl
  obtain ⟨c0, c1, rfl⟩ : ∃ c0 c1, cs = [c0, c1] := by
    cases cs with
    | nil => simp at hl
    | cons c0 cs =>
    cases cs with
    | nil => simp at hl
    | cons c1 cs =>
    cases cs with
    | cons _ _ => simp at hl
    | nil => exact ⟨_, _, rfl⟩
  have f0 : DataW.trod enc Try.prog w base sp held n 3 (List.take (Try.prog.cellsOf 3) (List.drop 0 [c0, c1])) = xs[0]? := hf 0 _ rfl
  rw [show Try.prog.cellsOf 3 = 1 by kernel_rfl, List.getElem?_eq_getElem (show 0 < xs.length by rw [hx]; decide)] at f0
  replace f0 : DataW.trod enc Try.prog w base sp held n 3 [c0] = some _ := f0
  obtain ⟨v0, e0, _⟩ := DataW.trod_int Try.underlying3 f0
  have f1 : DataW.trod enc Try.prog w base sp held n 3 (List.take (Try.prog.cellsOf 3) (List.drop 1 [c0, c1])) = xs[1]? := hf 1 _ rfl
  rw [show Try.prog.cellsOf 3 = 1 by kernel_rfl, List.getElem?_eq_getElem (show 1 < xs.length by rw [hx]; decide)] at f1
  replace f1 : DataW.trod enc Try.prog w base sp held n 3 [c1] = some _ := f1
  obtain ⟨v1, e1, _⟩ := DataW.trod_int Try.underlying3 f1
  cases e0
  cases e1
  exact ⟨v0, v1, rfl⟩
theorem opn63 {H : Type} {enc : TypeId × Value → H} {w : World} {base : Nat} {sp : Nat → Bool} {held : Bool} {x : DataW H × List MemPlace} {fuel : Nat} {cs : List Value} (h : DataW.trod enc Try.prog w base sp held fuel 63 cs = some x) : ∃ (v0 : Int) (v1 : Int) (v2 : Int) (v0_3 : List Int) (A0_3 : Option Addr) (c0_3_ : Nat) (v3 : Int) (v4 : Int) (v5 : Int) (v6 : Int) (v0_8 : Int) (v1_8 : Int) (v7 : ByteArray) (v8 : ByteArray), cs = [.int .i64 v0, .int .i64 v1, .int .i64 v2, .slice A0_3 v0_3.length c0_3_, .int .i64 v3, .int .i64 v4, .int .i64 v5, .int .i64 v6, .int .i64 v0_8, .int .i64 v1_8, .string v7, .string v8] ∧ RI w A0_3 v0_3 ∧ v0_3.length ≤ c0_3_ ∧ c0_3_ ≤ 9223372036854775807 ∧ v7.size ≤ 9223372036854775807 ∧ v8.size ≤ 9223372036854775807 := by
  obtain ⟨xs, n, rfl, rfl, hl, hx, hf⟩ := DataW.trod_struct Try.underlying63 h
  rw [show Try.prog.cellsOf 63 = 12 by kernel_rfl] at hl
  obtain ⟨c0, c1, c2, c3, c4, c5, c6, c7, c8, c9, c10, c11, rfl⟩ : ∃ c0 c1 c2 c3 c4 c5 c6 c7 c8 c9 c10 c11, cs = [c0, c1, c2, c3, c4, c5, c6, c7, c8, c9, c10, c11] := by
    cases cs with
    | nil => simp at hl
    | cons c0 cs =>
    cases cs with
    | nil => simp at hl
    | cons c1 cs =>
    cases cs with
    | nil => simp at hl
    | cons c2 cs =>
    cases cs with
    | nil => simp at hl
    | cons c3 cs =>
    cases cs with
    | nil => simp at hl
    | cons c4 cs =>
    cases cs with
    | nil => simp at hl
    | cons c5 cs =>
    cases cs with
    | nil => simp at hl
    | cons c6 cs =>
    cases cs with
    | nil => simp at hl
    | cons c7 cs =>
    cases cs with
    | nil => simp at hl
    | cons c8 cs =>
    cases cs with
    | nil => simp at hl
    | cons c9 cs =>
    cases cs with
    | nil => simp at hl
    | cons c10 cs =>
    cases cs with
    | nil => simp at hl
    | cons c11 cs =>
    cases cs with
    | cons _ _ => simp at hl
    | nil => exact ⟨_, _, _, _, _, _, _, _, _, _, _, _, rfl⟩
  have f0 : DataW.trod enc Try.prog w base sp held n 3 (List.take (Try.prog.cellsOf 3) (List.drop 0 [c0, c1, c2, c3, c4, c5, c6, c7, c8, c9, c10, c11])) = xs[0]? := hf 0 _ rfl
  rw [show Try.prog.cellsOf 3 = 1 by kernel_rfl, List.getElem?_eq_getElem (show 0 < xs.length by rw [hx]; decide)] at f0
  replace f0 : DataW.trod enc Try.prog w base sp held n 3 [c0] = some _ := f0
  obtain ⟨v0, e0, _⟩ := DataW.trod_int Try.underlying3 f0
  have f1 : DataW.trod enc Try.prog w base sp held n 3 (List.take (Try.prog.cellsOf 3) (List.drop 1 [c0, c1, c2, c3, c4, c5, c6, c7, c8, c9, c10, c11])) = xs[1]? := hf 1 _ rfl
  rw [show Try.prog.cellsOf 3 = 1 by kernel_rfl, List.getElem?_eq_getElem (show 1 < xs.length by rw [hx]; decide)] at f1
  replace f1 : DataW.trod enc Try.prog w base sp held n 3 [c1] = some _ := f1
  obtain ⟨v1, e1, _⟩ := DataW.trod_int Try.underlying3 f1
  have f2 : DataW.trod enc Try.prog w base sp held n 3 (List.take (Try.prog.cellsOf 3) (List.drop 2 [c0, c1, c2, c3, c4, c5, c6, c7, c8, c9, c10, c11])) = xs[2]? := hf 2 _ rfl
  rw [show Try.prog.cellsOf 3 = 1 by kernel_rfl, List.getElem?_eq_getElem (show 2 < xs.length by rw [hx]; decide)] at f2
  replace f2 : DataW.trod enc Try.prog w base sp held n 3 [c2] = some _ := f2
  obtain ⟨v2, e2, _⟩ := DataW.trod_int Try.underlying3 f2
  have f3 : DataW.trod enc Try.prog w base sp held n 37 (List.take (Try.prog.cellsOf 37) (List.drop 3 [c0, c1, c2, c3, c4, c5, c6, c7, c8, c9, c10, c11])) = xs[3]? := hf 3 _ rfl
  rw [show Try.prog.cellsOf 37 = 1 by kernel_rfl, List.getElem?_eq_getElem (show 3 < xs.length by rw [hx]; decide)] at f3
  replace f3 : DataW.trod enc Try.prog w base sp held n 37 [c3] = some _ := f3
  obtain ⟨v0_3, A0_3, c0_3_, e3, q3_0, q3_1, q3_2⟩ := opn37 f3
  have f4 : DataW.trod enc Try.prog w base sp held n 3 (List.take (Try.prog.cellsOf 3) (List.drop 4 [c0, c1, c2, c3, c4, c5, c6, c7, c8, c9, c10, c11])) = xs[4]? := hf 4 _ rfl
  rw [show Try.prog.cellsOf 3 = 1 by kernel_rfl, List.getElem?_eq_getElem (show 4 < xs.length by rw [hx]; decide)] at f4
  replace f4 : DataW.trod enc Try.prog w base sp held n 3 [c4] = some _ := f4
  obtain ⟨v3, e4, _⟩ := DataW.trod_int Try.underlying3 f4
  have f5 : DataW.trod enc Try.prog w base sp held n 3 (List.take (Try.prog.cellsOf 3) (List.drop 5 [c0, c1, c2, c3, c4, c5, c6, c7, c8, c9, c10, c11])) = xs[5]? := hf 5 _ rfl
  rw [show Try.prog.cellsOf 3 = 1 by kernel_rfl, List.getElem?_eq_getElem (show 5 < xs.length by rw [hx]; decide)] at f5
  replace f5 : DataW.trod enc Try.prog w base sp held n 3 [c5] = some _ := f5
  obtain ⟨v4, e5, _⟩ := DataW.trod_int Try.underlying3 f5
  have f6 : DataW.trod enc Try.prog w base sp held n 3 (List.take (Try.prog.cellsOf 3) (List.drop 6 [c0, c1, c2, c3, c4, c5, c6, c7, c8, c9, c10, c11])) = xs[6]? := hf 6 _ rfl
  rw [show Try.prog.cellsOf 3 = 1 by kernel_rfl, List.getElem?_eq_getElem (show 6 < xs.length by rw [hx]; decide)] at f6
  replace f6 : DataW.trod enc Try.prog w base sp held n 3 [c6] = some _ := f6
  obtain ⟨v5, e6, _⟩ := DataW.trod_int Try.underlying3 f6
  have f7 : DataW.trod enc Try.prog w base sp held n 3 (List.take (Try.prog.cellsOf 3) (List.drop 7 [c0, c1, c2, c3, c4, c5, c6, c7, c8, c9, c10, c11])) = xs[7]? := hf 7 _ rfl
  rw [show Try.prog.cellsOf 3 = 1 by kernel_rfl, List.getElem?_eq_getElem (show 7 < xs.length by rw [hx]; decide)] at f7
  replace f7 : DataW.trod enc Try.prog w base sp held n 3 [c7] = some _ := f7
  obtain ⟨v6, e7, _⟩ := DataW.trod_int Try.underlying3 f7
  have f8 : DataW.trod enc Try.prog w base sp held n 61 (List.take (Try.prog.cellsOf 61) (List.drop 8 [c0, c1, c2, c3, c4, c5, c6, c7, c8, c9, c10, c11])) = xs[8]? := hf 8 _ rfl
  rw [show Try.prog.cellsOf 61 = 2 by kernel_rfl, List.getElem?_eq_getElem (show 8 < xs.length by rw [hx]; decide)] at f8
  replace f8 : DataW.trod enc Try.prog w base sp held n 61 [c8, c9] = some _ := f8
  obtain ⟨v0_8, v1_8, e8⟩ := opn61 f8
  have f9 : DataW.trod enc Try.prog w base sp held n 9 (List.take (Try.prog.cellsOf 9) (List.drop 10 [c0, c1, c2, c3, c4, c5, c6, c7, c8, c9, c10, c11])) = xs[9]? := hf 9 _ rfl
  rw [show Try.prog.cellsOf 9 = 1 by kernel_rfl, List.getElem?_eq_getElem (show 9 < xs.length by rw [hx]; decide)] at f9
  replace f9 : DataW.trod enc Try.prog w base sp held n 9 [c10] = some _ := f9
  obtain ⟨v7, e9, _, s7⟩ := DataW.trod_string Try.underlying9 f9
  have f10 : DataW.trod enc Try.prog w base sp held n 9 (List.take (Try.prog.cellsOf 9) (List.drop 11 [c0, c1, c2, c3, c4, c5, c6, c7, c8, c9, c10, c11])) = xs[10]? := hf 10 _ rfl
  rw [show Try.prog.cellsOf 9 = 1 by kernel_rfl, List.getElem?_eq_getElem (show 10 < xs.length by rw [hx]; decide)] at f10
  replace f10 : DataW.trod enc Try.prog w base sp held n 9 [c11] = some _ := f10
  obtain ⟨v8, e10, _, s8⟩ := DataW.trod_string Try.underlying9 f10
  cases e0
  cases e1
  cases e2
  cases e3
  cases e4
  cases e5
  cases e6
  cases e7
  cases e8
  cases e9
  cases e10
  exact ⟨v0, v1, v2, v0_3, A0_3, c0_3_, v3, v4, v5, v6, v0_8, v1_8, v7, v8, rfl, q3_0, q3_1, q3_2, s7, s8⟩
def GoodeLO : LO → Prop := fun y : LO => y.o.deps.length ≤ y.c ∧ y.o.deps.length ≤ 9223372036854775807 ∧ y.o.key.size ≤ 9223372036854775807 ∧ y.o.text.size ≤ 9223372036854775807
theorem opeleLO {H : Type} {enc : TypeId × Value → H} {w : World} {base : Nat} {sp : Nat → Bool} {held : Bool} (fuel : Nat) (cs : List Value) (x : DataW H × List MemPlace) (h : DataW.trod enc Try.prog w base sp held fuel 63 cs = some x) : ∃ a : LO, cs = eLO.enc a ∧ (∀ B ys, eLO.inn a = some (B, ys) → RI w B ys) ∧ GoodeLO a := by
  obtain ⟨v0, v1, v2, v0_3, A0_3, c0_3_, v3, v4, v5, v6, v0_8, v1_8, v7, v8, e_, q3_0, q3_1, q3_2, s7, s8⟩ := opn63 h
  exact ⟨⟨⟨v0, v1, v2, v0_3, v3, v4, v5, v6, v0_8, v1_8, v7, v8⟩, A0_3, c0_3_⟩, e_, fun B ys hB => by cases hB; exact q3_0, ⟨q3_1, Nat.le_trans q3_1 q3_2, s7, s8⟩⟩
end Go.Proofs.Ytideafkiaipnoaa.Q

/- The law FnExactLogSince: for every input it returns true, and each argument reads as it did. -/
namespace Go.Proofs.Ytideafkiaipnoaa.fnExactLogSince
open Go Go.ChangeShapes Go.WideShapes Go.ChangeAt Go.RowKit Go.Proofs.Ytideafkiaipnoaa.Q
open Go.ChangeMaps (open_string shut_string)
set_option linter.unusedVariables false
theorem own : ownKnob Try.prog.godebug = none := by kernel_rfl
theorem laidOut : laidOutB Try.prog = true := by kernel_rfl
set_option maxRecDepth 100000 in
theorem lifted (os : Os) (started : os.Started) (H : Type) (enc : TypeId × Value → H) :
    ReturnsInHanded {} Try.checked os 5 .any (Rows.fnExactLogSinceSpec.pre6 enc Try.prog Try.f5 Rows.fnExactLogSinceRow.domain false) (Rows.fnExactLogSinceSpec.post enc Try.prog Try.f5 false true false false) := by
  refine returnsInHanded_of_change_sized (C := Try.checked) own started (by kernel_rfl) Try.func5
    (ChangeSpec.witness6 (enc := enc) (C := Try.checked) false ⟨#[], #[.slice none 0 0, .agg #[.slice none 0 0]], []⟩ 8 (by kernel_rfl) (by kernel_rfl) (by kernel_rfl) (by kernel_rfl)) ?_
  intro W base args ds gs before hval0 hW hcnd hsz0 _
  have hval : ∀ (j : Nat) t v, Try.f5.params[j]? = some t → args[j]? = some v → Value.okWide Try.prog W .any base t v := hval0
  have hW' := hW
  obtain ⟨p, q, hA0, hV, rfl, hfz, hnd⟩ := hW
  have hA : DataW.TrodAll enc Try.prog W 0 (fun _ => true) true Try.f5.params.toList args.toList ds p := hA0
  rw [Try.params5] at hA hval
  obtain ⟨v0, vs0, d0, ds0, p0, q0, hargs, rfl, rfl, h0, r0⟩ := trodAll_cons hA
  obtain ⟨v1, vs1, d1, ds1, p1, q1, rfl, rfl, rfl, h1, r1⟩ := trodAll_cons r0
  obtain ⟨rfl, rfl, rfl⟩ := trodAll_nil r1
  obtain rfl : args = #[v0, v1] := by cases args; simp_all
  obtain ⟨rfl, rfl⟩ := trodVars_none hV
  have k0 := h0
  have lt0 : ∀ x ∈ p0, x.block < W.heap.size := by obtain ⟨m, hm⟩ := k0; exact DataW.trod_lt m _ _ _ hm
  obtain ⟨a0, len0, cap0, rfl⟩ := okWide_slice Try.underlying22 (hval 0 22 v0 rfl rfl)
  obtain ⟨fu0, hf0⟩ := h0
  obtain ⟨A0, xs0, c0, e0, HR0, HG0, hl0, hm0⟩ := op_row (E := eLO) Try.underlying22 (by kernel_rfl) (by decide) opeleLO hf0
  simp only [Value.cells, List.cons.injEq, Value.slice.injEq, and_true] at e0
  obtain ⟨rfl, rfl, rfl⟩ := e0
  have HC0 : Caps xs0 := fun y hy => (HG0 y hy).1
  have HH0 : Held (xs0.map LO.o) := ⟨by rw [List.length_map]; omega, fun o ho => by obtain ⟨y, hy, rfl⟩ := List.mem_map.1 ho; exact (HG0 y hy).2⟩
  have k1 := h1
  have lt1 : ∀ x ∈ p1, x.block < W.heap.size := by obtain ⟨m, hm⟩ := k1; exact DataW.trod_lt m _ _ _ hm
  obtain ⟨cs1, rfl, _⟩ := okWide_struct Try.underlying37 (hval 1 37 v1 rfl rfl)
  obtain ⟨fu1, hf1⟩ := h1
  obtain ⟨xs1, A1, c1, e1, HR1, hl1, hm1⟩ := opn37 hf1
  obtain rfl : cs1 = #[.slice A1 xs1.length c1] := Array.ext' (by simpa [Value.cells] using e1)
  clear hA0 hval0 hsz0
  refine (Q.lawLogSince_calls a0 xs0 cap0 A1 xs1 c1 W HR0 HC0 HH0 HR1 (by omega)).mono fun e W' ⟨he, bel⟩ => ?_
  subst he
  exact ⟨_, rfl, _, _, _, [], _, [], hW', trodAll_mk1 (shut_bool Try.underlying4 _), (trodAll_cons_mk (Below.trod laidOut (by kernel_rfl) (of_decide_eq_true (by kernel_rfl)) k0 bel lt0) (trodAll_cons_mk (Below.trod laidOut (by kernel_rfl) (of_decide_eq_true (by kernel_rfl)) k1 bel lt1) trodAll_mk0)), rfl, bel.frame _, fun h => by cases h⟩
theorem over : Rows.fnExactLogSinceRow.holds Try.pinned (OpenSpec.ofChange Rows.fnExactLogSinceSpec) :=
  OpenClaim.holds_of_wide 5 Try.f5 rfl rfl rfl rfl rfl rfl rfl ⟨rfl, rfl, rfl, rfl, rfl⟩ rfl rfl rfl rfl rfl (by kernel_rfl) Try.func5 (by kernel_rfl)
    (of_decide_eq_true (by kernel_rfl)) (by unfold Func.isWrapper; first | (rw [if_pos (by decide +kernel)]; kernel_rfl) | (rw [if_neg (by decide +kernel)]; exact ⟨rfl, rfl⟩))
    (fun os started H enc _ => lifted os started H enc)
theorem proved : Rows.FnExactLogSinceSaid := over
end Go.Proofs.Ytideafkiaipnoaa.fnExactLogSince
namespace Go.Proofs.Ytideafkiaipnoaa
/-- The row, under a short name, for the claim. -/
theorem fnExactLogSince_holds : Rows.FnExactLogSinceSaid := fnExactLogSince.proved
#print axioms fnExactLogSince_holds
end Go.Proofs.Ytideafkiaipnoaa

