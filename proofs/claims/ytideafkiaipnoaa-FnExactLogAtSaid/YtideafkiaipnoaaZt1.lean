/- What the law needs, part 2 of 6. -/
import Derived.Test.YtideafkiaipnoaaZt0
/- Functions walked. -/
namespace Go.Proofs.Ytideafkiaipnoaa.Q
open Go Go.RowKit Go.Proofs.YtideafkiaipnoaaW.PrintWords Go.Proofs.YtideafkiaipnoaaW.PrintLast Go.Proofs.Ytideafkiaipnoaa.Deed
set_option maxRecDepth 100000
set_option linter.unusedVariables false
set_option linter.unusedSimpArgs false
/-- The first i copied, the rest zeros. -/
def cpy (xs : List Int) (i : Int) : List Int := xs.take i.toNat ++ List.replicate (xs.length - i.toNat) 0
theorem cpy_length {xs : List Int} {i : Int} (h : i ≤ xs.length) : (cpy xs i).length = xs.length := by simp [cpy]; omega
theorem cpy_zero (xs : List Int) : cpy xs 0 = List.replicate xs.length 0 := by simp [cpy]
theorem cpy_all {xs : List Int} {i : Int} (h : i.toNat = xs.length) : cpy xs i = xs := by simp [cpy, h]
theorem cpy_step {xs : List Int} {i : Int} (h0 : 0 ≤ i) (h1 : i < xs.length) : si (cpy xs i) i (gi xs i) = cpy xs (i + 1) := by
  have hl : i.toNat < xs.length := by omega
  have e : (i + 1).toNat = i.toNat + 1 := by omega
  unfold si cpy
  rw [e, List.set_append_right _ _ (by simp; omega)]
  rw [show i.toNat - (xs.take i.toNat).length = 0 by simp; omega, show xs.length - i.toNat = (xs.length - (i.toNat + 1)) + 1 by omega, List.replicate_succ, List.set_cons_zero, List.take_add_one, gi_of h0 h1]
  simp
set_option maxHeartbeats 2000000 in
theorem toI_calls (A : Option Addr) (xs : List Int) (c : Nat) (w : World) (HR : RI w A xs) (hn : xs.length ≤ 1048576) : Calls Try.prog 59 #[.slice A xs.length c] w fun e w' => ∃ g, e = .returned (.slice (some ⟨g, 0, none⟩) xs.length xs.length) ∧ w.heap.size ≤ g ∧ IB w' g xs 3 ∧ Below w.heap.size w w' := by
  refine calls_of_wp Try.func59 rfl ?_
  refine enter_ (N := 22) rfl ?_
  rintro a0 hN hD ⟨s0, -⟩
  have HB : Below w.heap.size w w := Below.refl _ _
  refine wp_seq ?_
  refine deedL [.eq 2 (.slice none 0 0), .eq 0 (.slice A xs.length c), .w (Below w.heap.size w)] 22 [[]] [] [1, 2] hM hN hD (by kernel_rfl) ⟨s0, ⟨Below.refl _ _, below_drew (Below.refl _ _)⟩, trivial⟩ ⟨fun _ _ hb h => below_step h hb, trivial⟩ (fun hgrow => ⟨fun _ _ _ => rv rfl (x_assign rfl rfl) rfl, trivial⟩) ?_
  clear s0
  clear hN hD
  rintro a1 w1 hN hD ⟨s0, hGR, -⟩
  replace HB := below_step HB hGR
  clear hGR
  show Code.wp _ _ _ _ _
  refine wp_seq ?_
  refine deedL [.eq 5 (.slice A xs.length c), .eq 6 (.int .i64 (xs.length : Int)), .s1 7 (NewS w1.heap.size xs.length (List.replicate xs.length 0) 3), .s2 7 3 fun x_ y_ _ => ∃ (g7 : Nat), x_ = .slice (some ⟨g7, 0, none⟩) xs.length xs.length ∧ y_ = .slice (some ⟨g7, 0, none⟩) xs.length xs.length, .eq 0 (.slice A xs.length c), .w (Below w1.heap.size w1)] 22 [[4], [0], [1, 5], [2]] [] [2, 3, 4, 5] hM hN hD (by kernel_rfl) ⟨s0, ⟨Below.refl _ _, below_drew (Below.refl _ _)⟩, trivial⟩ ⟨fun _ _ _ hb h => h.grow hb, fun _ _ _ _ hb h => h, fun _ _ hb h => below_step h hb, trivial⟩ (fun hgrow => ⟨fun _ _ h => rv rfl (x_move rfl h.1) rfl,
    fun _ _ h => rv rfl (x_len_slice rfl Try.underlying24 h.1) rfl,
    fun _ _ h => rmakeI hgrow rfl (x_makeI rfl h.1 h.1 Try.underlying24 inf3 rfl (by omega)) h.2.1.size (fun _ _ z => z),
    ?_, trivial⟩) ?_
  · rintro a_ W ⟨h2, -⟩
    obtain ⟨g7, e2, l2, hb2⟩ := h2
    exact rv rfl (x_assign rfl e2) ⟨_, e2, rfl⟩
  clear s0
  clear hN hD
  rintro a2 w2 hN hD ⟨⟨g7, s7, lg7, HBX7⟩, q3, s0, hGR, -⟩
  obtain ⟨g7_, e_, s3⟩ := q3
  cases s7.symm.trans e_
  replace lg7 := Nat.le_trans HB.size lg7
  replace HB := below_step HB hGR
  clear hGR
  show Code.wp _ _ _ _ _
  refine wp_seq ?_
  refine wp_seq ?_
  refine deedL [.eq 4 (.int .i64 0), .eq 0 (.slice A xs.length c), .eq 3 (.slice (some ⟨g7, 0, none⟩) xs.length xs.length), .w (Below w2.heap.size w2)] 22 [[]] [] [0, 1, 2, 3] hM hN hD (by kernel_rfl) ⟨s0, s3, ⟨Below.refl _ _, below_drew (Below.refl _ _)⟩, trivial⟩ ⟨fun _ _ hb h => below_step h hb, trivial⟩ (fun hgrow => ⟨fun _ _ _ => rv rfl (x_assign rfl rfl) rfl, trivial⟩) ?_
  clear s0 s3
  clear hN hD
  rintro a3 w3 hN hD ⟨s4, s0, s3, hGR, -⟩
  replace HB := below_step HB hGR
  replace HBX7 := HBX7.below hGR
  clear hGR
  show Code.wp _ _ _ _ _
  refine wp_block ?_
  refine wp_loopN (fun n_ q_ w_ => ∃ (i : Int), (q_.tmps.size = 22) ∧ (q_.defers = []) ∧ (sl q_ 0 = .slice A xs.length c) ∧ (sl q_ 3 = .slice (some ⟨g7, 0, none⟩) xs.length xs.length) ∧ (sl q_ 4 = .int .i64 i) ∧ (Below w.heap.size w w_) ∧ (IB w_ g7 (cpy xs i) 3) ∧ (0 ≤ i) ∧ (i ≤ xs.length) ∧ (n_ = (xs.length - i).toNat)) ((fun (i : Int) => (xs.length - i).toNat) 0) ?_ ?_
  · exact ⟨0, hN, hD, s0, s3, s4, HB, (by rw [cpy_zero]; exact HBX7), (by omega), (by omega), rfl⟩
  clear s0 s3 s4 HB HBX7 hN hD
  rintro n_4 a4 w4 ⟨i, hN, hD, s0, s3, s4, HB, HBX7, hi0, hi1, hmeas⟩
  have hcl := cpy_length hi1
  refine wp_seq ?_
  refine wp_seq ?_
  refine deedL [.eq 8 (.int .i64 i), .eq 9 (.slice A xs.length c), .eq 10 (.int .i64 (xs.length : Int)), .eq 11 (.bool (decide (i < (xs.length : Int)))), .eq 0 (.slice A xs.length c), .eq 3 (.slice (some ⟨g7, 0, none⟩) xs.length xs.length), .eq 4 (.int .i64 i), .w (Below w4.heap.size w4)] 22 [[6], [4], [1], [0, 2]] [] [3, 4, 5, 6, 7] hM hN hD (by kernel_rfl) ⟨s0, s3, s4, ⟨Below.refl _ _, below_drew (Below.refl _ _)⟩, trivial⟩ ⟨fun _ _ hb h => below_step h hb, trivial⟩ (fun hgrow => ⟨fun _ _ h => rv rfl (x_move rfl h.1) rfl,
    fun _ _ h => rv rfl (x_move rfl h.1) rfl,
    fun _ _ h => rv rfl (x_len_slice rfl Try.underlying24 h.1) rfl,
    fun _ _ h => rv rfl (x_lss rfl h.1 h.2.1) rfl, trivial⟩) ?_
  clear s0 s3 s4
  clear hN hD
  rintro a5 w5 hN hD ⟨s11, s0, s3, s4, hGR, -⟩
  replace HB := below_step HB hGR
  replace HBX7 := HBX7.below hGR
  clear hGR
  show Code.wp _ _ _ _ _
  refine wp_cond (t := decide (i < (xs.length : Int))) s11 ?_
  rcases Bool.eq_false_or_eq_true (decide (i < (xs.length : Int))) with cd6 | cd6
  · rw [cd6]
    show Code.wp _ _ _ _ _
    have pd6 := of_decide_eq_true cd6
    have hi2 := pd6
    refine wp_skip ?_
    show Code.wp _ _ _ _ _
    refine wp_seq ?_
    refine wp_block ?_
    refine deedL [.eq 14 (.slice (some ⟨g7, 0, none⟩) xs.length xs.length), .eq 15 (.int .i64 i), .eq 16 (.slice A xs.length c), .eq 17 (.int .i64 i), .eq 18 (.pointer (some ((adr A).add (i.toNat * 1)))), .eq 19 (.int .i64 (gi xs i)), .eq 20 (.pointer (some ⟨g7, i.toNat, none⟩)), .w fun W => IB W g7 (si (cpy xs i) i (gi xs i)) 3, .eq 0 (.slice A xs.length c), .eq 3 (.slice (some ⟨g7, 0, none⟩) xs.length xs.length), .eq 4 (.int .i64 i), .w (Kx (fun k => k = g7) w5), .w fun W => IB W g7 (cpy xs i) 3] 22 [[9], [10], [8], [10], [2, 3], [4, 11], [0, 1], [6, 5, 12]] [[], [], [], [], [], [], [], [12]] [7, 8, 9, 10, 11] hM hN hD (by kernel_rfl) ⟨s0, s3, s4, ⟨Kx.refl _ _, Kx.drew _ _⟩, ⟨HBX7, HBX7.below (below_drew (Below.refl _ _))⟩, trivial⟩ ⟨fun _ _ hb h => h.below hb, fun _ _ hb h => h.step hb, fun _ _ hb h => h.below hb, trivial⟩ (fun hgrow => ⟨fun _ _ h => rv rfl (x_move rfl h.1) rfl,
      fun _ _ h => rv rfl (x_move rfl h.1) rfl,
      fun _ _ h => rv rfl (x_move rfl h.1) rfl,
      fun _ _ h => rv rfl (x_move rfl h.1) rfl,
      fun _ _ h => rv rfl (x_index_at rfl h.1 h.2.1 Try.underlying24 sz3 (by omega) (by omega) (RI.ad HR i (by omega) (by omega))) rfl,
      fun _ _ h => rv rfl (x_load1 rfl h.1 Try.underlying3 rfl (RI.at_ HR (Kx.below HB h.2.1 HB.size (fun k e => by subst e; exact lg7)) (by omega) (by omega))) rfl,
      fun _ _ h => rv rfl (x_index_slice rfl h.1 h.2.1 Try.underlying24 sz3 (by omega) (by omega) (ptr1 _ _)) rfl,
      ?_, trivial⟩) ?_
    · rintro a_ W ⟨h6, h5, h12, -⟩
      exact rstoreI rfl rfl h6 h5 sz3 h12 (by omega) (by omega) (IB.set h12 _ _) ⟨fun h => h.set rfl _ _, trivial⟩
    clear s0 s3 s4 s11
    clear hN hD
    rintro a7 w7 hN hD ⟨MBX7, s0, s3, s4, hGR, -⟩
    have NB := Kx.below HB hGR HB.size (fun k e => by subst e; exact lg7)
    replace HB := NB
    clear NB
    replace HBX7 := MBX7
    clear MBX7
    clear hGR
    show Code.wp _ _ _ _ _
    refine deedL [.eq 12 (.int .i64 i), .eq 13 (.int .i64 (i + 1)), .eq 4 (.int .i64 (i + 1)), .eq 0 (.slice A xs.length c), .eq 3 (.slice (some ⟨g7, 0, none⟩) xs.length xs.length), .eq 4 (.int .i64 i), .w (Below w7.heap.size w7)] 22 [[5], [0], [1]] [[], [], [5]] [2, 3, 4, 6] hM hN hD (by kernel_rfl) ⟨s0, s3, s4, ⟨Below.refl _ _, below_drew (Below.refl _ _)⟩, trivial⟩ ⟨fun _ _ hb h => below_step h hb, trivial⟩ (fun hgrow => ⟨fun _ _ h => rv rfl (x_move rfl h.1) rfl,
      fun _ _ h => rv rfl (x_add' rfl h.1 rfl (by omega)) rfl,
      fun _ _ h => rv rfl (x_assign rfl h.1) rfl, trivial⟩) ?_
    clear s0 s3 s4
    clear hN hD
    rintro a8 w8 hN hD ⟨s4, s0, s3, hGR, -⟩
    replace HB := below_step HB hGR
    replace HBX7 := HBX7.below hGR
    clear hGR
    show ∃ m, m < n_4 ∧ _
    exact ⟨_, (by omega), ⟨(i + 1), hN, hD, s0, s3, s4, HB, (by rw [← cpy_step hi0 hi2]; exact HBX7), (by omega), (by omega), rfl⟩⟩
  · rw [cd6]
    show Code.wp _ _ _ _ _
    have pd6 := of_decide_eq_false cd6
    refine wp_exit (then_exit (then_exit (at_exit ?_)))
    show Code.wp _ _ _ _ _
    refine wp_seq ?_
    refine deedL [.eq 21 (.slice (some ⟨g7, 0, none⟩) xs.length xs.length), .eq 2 (.slice (some ⟨g7, 0, none⟩) xs.length xs.length), .eq 3 (.slice (some ⟨g7, 0, none⟩) xs.length xs.length), .w (Below w5.heap.size w5)] 22 [[2], [0]] [] [1, 2, 3] hM hN hD (by kernel_rfl) ⟨s3, ⟨Below.refl _ _, below_drew (Below.refl _ _)⟩, trivial⟩ ⟨fun _ _ hb h => below_step h hb, trivial⟩ (fun hgrow => ⟨fun _ _ h => rv rfl (x_move rfl h.1) rfl,
      fun _ _ h => rv rfl (x_assign rfl h.1) rfl, trivial⟩) ?_
    clear s0 s3 s4 s11
    clear hN hD
    rintro a9 w9 hN hD ⟨s2, s3, hGR, -⟩
    replace HB := below_step HB hGR
    replace HBX7 := HBX7.below hGR
    clear hGR
    show Code.wp _ _ _ _ _
    refine wp_ret ?_
    refine bodyPost_ret (results_single rfl (vtmp s2 .nil)) hD ?_
    exact ⟨g7, rfl, lg7, (by rw [cpy_all (by omega)] at HBX7; exact HBX7), HB⟩
set_option maxHeartbeats 2000000 in
theorem toV_calls (A : Option Addr) (xs : List Int) (c : Nat) (w : World) (HR : RI w A xs) (hn : xs.length ≤ 1048576) : Calls Try.prog 25 #[.agg #[Value.slice A xs.length c]] w fun e w' => ∃ g, e = .returned (.agg #[.slice (some ⟨g, 0, none⟩) xs.length xs.length]) ∧ w.heap.size ≤ g ∧ IB w' g xs 3 ∧ Below w.heap.size w w' := by
  refine calls_of_wp Try.func25 rfl ?_
  refine enter_ (N := 9) rfl ?_
  rintro a0 hN hD ⟨s0, -⟩
  have HB : Below w.heap.size w w := Below.refl _ _
  refine wp_seq ?_
  refine deedL [.s1 1 (NewB w.heap.size [.slice A xs.length c] 37), .s1 2 (NewB w.heap.size [.slice none 0 0] 41), .eq 0 (.agg #[Value.slice A xs.length c]), .w (Below w.heap.size w)] 9 [[3, 2], [3]] [] [0, 1, 2, 3] hM hN hD (by kernel_rfl) ⟨s0, ⟨Below.refl _ _, below_drew (Below.refl _ _)⟩, trivial⟩ ⟨fun _ _ _ hb h => h.grow hb, fun _ _ _ hb h => h.grow hb, fun _ _ hb h => below_step h hb, trivial⟩ (fun hgrow => ⟨fun _ _ h => rbox hgrow rfl (x_box rfl h.2.1) h.1.size (fun _ _ z => z),
    fun _ _ h => rbox hgrow rfl (x_alloc rfl zr41) h.1.size (fun _ _ z => z), trivial⟩) ?_
  clear s0
  clear hN hD
  rintro a1 w1 hN hD ⟨⟨g1, s1, lg1, HBX1⟩, ⟨g2, s2, lg2, HBX2⟩, s0, hGR, -⟩
  replace HB := below_step HB hGR
  clear hGR
  show Code.wp _ _ _ _ _
  refine wp_seq ?_
  refine deedL [.s1 3 (NewB w1.heap.size [.slice none 0 0] 41), .eq 1 (.pointer (some ⟨g1, 0, none⟩)), .eq 2 (.pointer (some ⟨g2, 0, none⟩)), .w (Below w1.heap.size w1)] 9 [[3]] [] [0, 1, 2, 3] hM hN hD (by kernel_rfl) ⟨s1, s2, ⟨Below.refl _ _, below_drew (Below.refl _ _)⟩, trivial⟩ ⟨fun _ _ _ hb h => h.grow hb, fun _ _ hb h => below_step h hb, trivial⟩ (fun hgrow => ⟨fun _ _ h => rbox hgrow rfl (x_alloc rfl zr41) h.1.size (fun _ _ z => z), trivial⟩) ?_
  clear s0 s1 s2
  clear hN hD
  rintro a2 w2 hN hD ⟨⟨g3, s3, lg3, HBX3⟩, s1, s2, hGR, -⟩
  have n_g2_g3 : g2 ≠ g3 := by have := blk_lt HBX2; omega
  replace lg3 := Nat.le_trans HB.size lg3
  replace HB := below_step HB hGR
  replace HBX1 := blk_below HBX1 hGR
  replace HBX2 := blk_below HBX2 hGR
  clear hGR
  show Code.wp _ _ _ _ _
  refine wp_seq ?_
  refine deedL [.eq 4 (.pointer (some ⟨g1, 0, none⟩)), .eq 5 (.slice A xs.length c), .s1 6 fun x_ W => ∃ (gt : Nat), x_ = .slice (some ⟨gt, 0, none⟩) xs.length xs.length ∧ w2.heap.size ≤ gt ∧ IB W gt xs 3, .eq 7 (.pointer (some ⟨g3, 0, none⟩)), .s1 6 fun x_ W => ∃ (gt : Nat), x_ = .slice (some ⟨gt, 0, none⟩) xs.length xs.length ∧ W.heap[g3]? = some (.cells ([.slice (some ⟨gt, 0, none⟩) xs.length xs.length]).toArray 41 (0, 0)), .eq 1 (.pointer (some ⟨g1, 0, none⟩)), .eq 2 (.pointer (some ⟨g2, 0, none⟩)), .eq 3 (.pointer (some ⟨g3, 0, none⟩)), .w (Kx (fun k => k = g3) w2), .w fun W => W.heap[g3]? = some (.cells ([.slice none 0 0]).toArray 41 (0, 0))] 9 [[5], [0, 8], [1, 8], [7], [3, 2, 9]] [[], [], [], [], [9]] [2, 4, 5, 6, 7, 8] hM hN hD (by kernel_rfl) ⟨s1, s2, s3, ⟨Kx.refl _ _, Kx.drew _ _⟩, ⟨HBX3, blk_below HBX3 (below_drew (Below.refl _ _))⟩, trivial⟩ ⟨fun _ _ _ hb h => by obtain ⟨gt, e_, z0, z1⟩ := h; exact ⟨_, e_, z0, z1.below hb⟩, fun _ _ _ hb h => by obtain ⟨gt, e_, h_⟩ := h; exact ⟨_, e_, blk_below h_ hb⟩, fun _ _ hb h => h.step hb, fun _ _ hb h => blk_below h hb, trivial⟩ (fun hgrow => ⟨fun _ _ h => rv rfl (x_field rfl h.1 Try.underlying37 rfl sz24 (by decide) rfl) rfl,
    fun _ _ h => rv rfl (x_load1 rfl h.1 Try.underlying24 rfl (blk_one (L := [.slice A xs.length c]) (blk_kx HBX1 h.2.1 (fun e => (blk_neT HBX1 HBX3 rfl) e)) 0 rfl)) rfl,
    fun _ _ h => rc hgrow rfl Try.func59 (by kernel_rfl) rfl rfl (args1 h.1) (toI_calls A xs c _ (RI.below HR (Kx.below HB h.2.1 HB.size (fun k e => by subst e; exact lg3))) hn) (fun _ _ hR => by obtain ⟨gt, e_, z0, z1, hb⟩ := hR; exact ⟨_, e_, hb, gt, rfl, (Nat.le_trans h.2.1.size z0), z1⟩),
    fun _ _ h => rv rfl (x_field rfl h.1 Try.underlying41 rfl sz24 (by decide) rfl) rfl,
    ?_, trivial⟩) ?_
  · rintro a_ W ⟨h3, h2, h9, -⟩
    obtain ⟨gt, e2, HLgt, HCgt⟩ := h2
    exact rstore1 rfl rfl h3 e2 rfl sz24 (L := [.slice none 0 0]) (off := 0) h9 rfl ⟨_, e2, blk_setL h9 0 _⟩ ⟨fun h => by obtain ⟨gt, e_, z0, z1⟩ := h; exact ⟨_, e_, z0, (Below.heap_setCell _ _ _ _ (blk_neT z1 h9 rfl)).trans z1⟩, fun h => h.set rfl _ _, trivial⟩
  clear s1 s2 s3
  clear hN hD
  rintro a3 w3 hN hD ⟨⟨gt, s6, HLgt, HCgt⟩, qs4, s1, s2, s3, hGR, -⟩
  obtain ⟨gt_, e_, MBX3⟩ := qs4
  cases s6.symm.trans e_
  have lgt := HLgt
  clear HLgt
  replace lgt := Nat.le_trans HB.size lgt
  have NB := Kx.below HB hGR HB.size (fun k e => by subst e; exact lg3)
  have NBX1 := blk_kx HBX1 hGR (fun e => (blk_neT HBX1 HBX3 rfl) e)
  have NBX2 := blk_kx HBX2 hGR (fun e => n_g2_g3 e)
  replace HB := NB
  replace HBX1 := NBX1
  replace HBX2 := NBX2
  clear NB NBX1 NBX2
  replace HBX3 := MBX3
  clear MBX3
  clear hGR
  show Code.wp _ _ _ _ _
  refine wp_seq ?_
  refine deedL [.eq 8 (.agg #[Value.slice (some ⟨gt, 0, none⟩) xs.length xs.length]), .w fun W => W.heap[g2]? = some (.cells ([.slice (some ⟨gt, 0, none⟩) xs.length xs.length]).toArray 41 (0, 0)), .eq 2 (.pointer (some ⟨g2, 0, none⟩)), .eq 3 (.pointer (some ⟨g3, 0, none⟩)), .w (Kx (fun k => k = g2) w3), .w fun W => W.heap[g2]? = some (.cells ([.slice none 0 0]).toArray 41 (0, 0))] 9 [[3, 4], [2, 0, 5]] [[], [5]] [1, 2, 3, 4] hM hN hD (by kernel_rfl) ⟨s2, s3, ⟨Kx.refl _ _, Kx.drew _ _⟩, ⟨HBX2, blk_below HBX2 (below_drew (Below.refl _ _))⟩, trivial⟩ ⟨fun _ _ hb h => blk_below h hb, fun _ _ hb h => h.step hb, fun _ _ hb h => blk_below h hb, trivial⟩ (fun hgrow => ⟨fun _ _ h => rv rfl (x_loadS rfl h.1 Try.underlying41 [.slice (some ⟨gt, 0, none⟩) xs.length xs.length] sz41 (blk_list (L := [.slice (some ⟨gt, 0, none⟩) xs.length xs.length]) (blk_kx HBX3 h.2.1 (fun e => (Ne.symm n_g2_g3) e)) 0 rfl)) rfl,
    ?_, trivial⟩) ?_
  · rintro a_ W ⟨h2, h0, h5, -⟩
    exact rstoreS rfl rfl h2 h0 (by simp [Value.oneCell']) sz41 h5 rfl (blk_stored (cs := [.slice (some ⟨gt, 0, none⟩) xs.length xs.length]) 0 _ [.slice none 0 0] h5 (of_decide_eq_true rfl)) ⟨fun h => h.sets rfl _ _, trivial⟩
  clear s1 s2 s3
  clear hN hD
  rintro a4 w4 hN hD ⟨MBX2, s2, s3, hGR, -⟩
  have NB := Kx.below HB hGR HB.size (fun k e => by subst e; exact lg2)
  have NBX1 := blk_kx HBX1 hGR (fun e => (blk_neT HBX1 HBX2 rfl) e)
  have NCgt : IB w4 gt xs 3 := blk_kx HCgt hGR (fun e => (blk_neT HCgt HBX2 rfl) e)
  have NBX3 := blk_kx HBX3 hGR (fun e => (Ne.symm n_g2_g3) e)
  replace HB := NB
  replace HBX1 := NBX1
  replace HCgt := NCgt
  replace HBX3 := NBX3
  clear NB NBX1 NCgt NBX3
  replace HBX2 := MBX2
  clear MBX2
  clear hGR
  show Code.wp _ _ _ _ _
  refine wp_ret ?_
  refine bodyPost_ret (results_single rfl (vcell s2 HBX2 Try.underlying41 rfl sz41 .nil)) hD ?_
  exact ⟨gt, rfl, lgt, HCgt, HB⟩
set_option maxHeartbeats 2000000 in
theorem toSt_calls (t a : Int) (w : World) : Calls Try.prog 92 #[.agg #[Value.int .i64 t, Value.int .i64 a]] w fun e w' => e = .returned (.agg #[Value.int .i64 t, Value.int .i64 a]) ∧ Below w.heap.size w w' := by
  refine calls_of_wp Try.func92 rfl ?_
  refine enter_ (N := 11) rfl ?_
  rintro a0 hN hD ⟨s0, -⟩
  have HB : Below w.heap.size w w := Below.refl _ _
  refine wp_seq ?_
  refine deedL [.s1 1 (NewB w.heap.size [.int .i64 t, .int .i64 a] 61), .s1 2 (NewB w.heap.size [.int .i64 0, .int .i64 0] 65), .eq 0 (.agg #[Value.int .i64 t, Value.int .i64 a]), .w (Below w.heap.size w)] 11 [[3, 2], [3]] [] [0, 1, 2, 3] hM hN hD (by kernel_rfl) ⟨s0, ⟨Below.refl _ _, below_drew (Below.refl _ _)⟩, trivial⟩ ⟨fun _ _ _ hb h => h.grow hb, fun _ _ _ hb h => h.grow hb, fun _ _ hb h => below_step h hb, trivial⟩ (fun hgrow => ⟨fun _ _ h => rbox hgrow rfl (x_box rfl h.2.1) h.1.size (fun _ _ z => z),
    fun _ _ h => rbox hgrow rfl (x_alloc rfl zr65) h.1.size (fun _ _ z => z), trivial⟩) ?_
  clear s0
  clear hN hD
  rintro a1 w1 hN hD ⟨⟨g1, s1, lg1, HBX1⟩, ⟨g2, s2, lg2, HBX2⟩, s0, hGR, -⟩
  replace HB := below_step HB hGR
  clear hGR
  show Code.wp _ _ _ _ _
  refine wp_seq ?_
  refine deedL [.s1 3 (NewB w1.heap.size [.int .i64 0, .int .i64 0] 65), .eq 1 (.pointer (some ⟨g1, 0, none⟩)), .eq 2 (.pointer (some ⟨g2, 0, none⟩)), .w (Below w1.heap.size w1)] 11 [[3]] [] [0, 1, 2, 3] hM hN hD (by kernel_rfl) ⟨s1, s2, ⟨Below.refl _ _, below_drew (Below.refl _ _)⟩, trivial⟩ ⟨fun _ _ _ hb h => h.grow hb, fun _ _ hb h => below_step h hb, trivial⟩ (fun hgrow => ⟨fun _ _ h => rbox hgrow rfl (x_alloc rfl zr65) h.1.size (fun _ _ z => z), trivial⟩) ?_
  clear s0 s1 s2
  clear hN hD
  rintro a2 w2 hN hD ⟨⟨g3, s3, lg3, HBX3⟩, s1, s2, hGR, -⟩
  have n_g2_g3 : g2 ≠ g3 := by have := blk_lt HBX2; omega
  replace lg3 := Nat.le_trans HB.size lg3
  replace HB := below_step HB hGR
  replace HBX1 := blk_below HBX1 hGR
  replace HBX2 := blk_below HBX2 hGR
  clear hGR
  show Code.wp _ _ _ _ _
  refine wp_seq ?_
  refine deedL [.eq 4 (.pointer (some ⟨g1, 0, none⟩)), .eq 5 (.int .i64 t), .eq 6 (.pointer (some ⟨g3, 0, none⟩)), .w fun W => W.heap[g3]? = some (.cells ([.int .i64 t, .int .i64 0]).toArray 65 (0, 0)), .eq 1 (.pointer (some ⟨g1, 0, none⟩)), .eq 2 (.pointer (some ⟨g2, 0, none⟩)), .eq 3 (.pointer (some ⟨g3, 0, none⟩)), .w (Kx (fun k => k = g3) w2), .w fun W => W.heap[g3]? = some (.cells ([.int .i64 0, .int .i64 0]).toArray 65 (0, 0))] 11 [[4], [0, 7], [6], [2, 1, 8]] [[], [], [], [8]] [3, 4, 5, 6, 7] hM hN hD (by kernel_rfl) ⟨s1, s2, s3, ⟨Kx.refl _ _, Kx.drew _ _⟩, ⟨HBX3, blk_below HBX3 (below_drew (Below.refl _ _))⟩, trivial⟩ ⟨fun _ _ hb h => blk_below h hb, fun _ _ hb h => h.step hb, fun _ _ hb h => blk_below h hb, trivial⟩ (fun hgrow => ⟨fun _ _ h => rv rfl (x_field rfl h.1 Try.underlying61 rfl sz3 (by decide) rfl) rfl,
    fun _ _ h => rv rfl (x_load1 rfl h.1 Try.underlying3 rfl (blk_one (L := [.int .i64 t, .int .i64 a]) (blk_kx HBX1 h.2.1 (fun e => (blk_neT HBX1 HBX3 rfl) e)) 0 rfl)) rfl,
    fun _ _ h => rv rfl (x_field rfl h.1 Try.underlying65 rfl sz3 (by decide) rfl) rfl,
    ?_, trivial⟩) ?_
  · rintro a_ W ⟨h2, h1, h8, -⟩
    exact rstore1 rfl rfl h2 h1 rfl sz3 (L := [.int .i64 0, .int .i64 0]) (off := 0) h8 rfl (blk_setL h8 0 _) ⟨fun h => h.set rfl _ _, trivial⟩
  clear s1 s2 s3
  clear hN hD
  rintro a3 w3 hN hD ⟨MBX3, s1, s2, s3, hGR, -⟩
  have NB := Kx.below HB hGR HB.size (fun k e => by subst e; exact lg3)
  have NBX1 := blk_kx HBX1 hGR (fun e => (blk_neT HBX1 HBX3 rfl) e)
  have NBX2 := blk_kx HBX2 hGR (fun e => n_g2_g3 e)
  replace HB := NB
  replace HBX1 := NBX1
  replace HBX2 := NBX2
  clear NB NBX1 NBX2
  replace HBX3 := MBX3
  clear MBX3
  clear hGR
  show Code.wp _ _ _ _ _
  refine wp_seq ?_
  refine deedL [.eq 7 (.pointer (some ⟨g1, 1, none⟩)), .eq 8 (.int .i64 a), .eq 9 (.pointer (some ⟨g3, 1, none⟩)), .w fun W => W.heap[g3]? = some (.cells ([.int .i64 t, .int .i64 a]).toArray 65 (0, 0)), .eq 1 (.pointer (some ⟨g1, 0, none⟩)), .eq 2 (.pointer (some ⟨g2, 0, none⟩)), .eq 3 (.pointer (some ⟨g3, 0, none⟩)), .w (Kx (fun k => k = g3) w3), .w fun W => W.heap[g3]? = some (.cells ([.int .i64 t, .int .i64 0]).toArray 65 (0, 0))] 11 [[4], [0, 7], [6], [2, 1, 8]] [[], [], [], [8]] [3, 4, 5, 6, 7] hM hN hD (by kernel_rfl) ⟨s1, s2, s3, ⟨Kx.refl _ _, Kx.drew _ _⟩, ⟨HBX3, blk_below HBX3 (below_drew (Below.refl _ _))⟩, trivial⟩ ⟨fun _ _ hb h => blk_below h hb, fun _ _ hb h => h.step hb, fun _ _ hb h => blk_below h hb, trivial⟩ (fun hgrow => ⟨fun _ _ h => rv rfl (x_field rfl h.1 Try.underlying61 rfl sz3 (by decide) rfl) rfl,
    fun _ _ h => rv rfl (x_load1 rfl h.1 Try.underlying3 rfl (blk_one (L := [.int .i64 t, .int .i64 a]) (blk_kx HBX1 h.2.1 (fun e => (blk_neT HBX1 HBX3 rfl) e)) 1 rfl)) rfl,
    fun _ _ h => rv rfl (x_field rfl h.1 Try.underlying65 rfl sz3 (by decide) rfl) rfl,
    ?_, trivial⟩) ?_
  · rintro a_ W ⟨h2, h1, h8, -⟩
    exact rstore1 rfl rfl h2 h1 rfl sz3 (L := [.int .i64 t, .int .i64 0]) (off := 1) h8 rfl (blk_setL h8 1 _) ⟨fun h => h.set rfl _ _, trivial⟩
  clear s1 s2 s3
  clear hN hD
  rintro a4 w4 hN hD ⟨MBX3, s1, s2, s3, hGR, -⟩
  have NB := Kx.below HB hGR HB.size (fun k e => by subst e; exact lg3)
  have NBX1 := blk_kx HBX1 hGR (fun e => (blk_neT HBX1 HBX3 rfl) e)
  have NBX2 := blk_kx HBX2 hGR (fun e => n_g2_g3 e)
  replace HB := NB
  replace HBX1 := NBX1
  replace HBX2 := NBX2
  clear NB NBX1 NBX2
  replace HBX3 := MBX3
  clear MBX3
  clear hGR
  show Code.wp _ _ _ _ _
  refine wp_seq ?_
  refine deedL [.eq 10 (.agg #[Value.int .i64 t, Value.int .i64 a]), .w fun W => W.heap[g2]? = some (.cells ([.int .i64 t, .int .i64 a]).toArray 65 (0, 0)), .eq 2 (.pointer (some ⟨g2, 0, none⟩)), .eq 3 (.pointer (some ⟨g3, 0, none⟩)), .w (Kx (fun k => k = g2) w4), .w fun W => W.heap[g2]? = some (.cells ([.int .i64 0, .int .i64 0]).toArray 65 (0, 0))] 11 [[3, 4], [2, 0, 5]] [[], [5]] [1, 2, 3, 4] hM hN hD (by kernel_rfl) ⟨s2, s3, ⟨Kx.refl _ _, Kx.drew _ _⟩, ⟨HBX2, blk_below HBX2 (below_drew (Below.refl _ _))⟩, trivial⟩ ⟨fun _ _ hb h => blk_below h hb, fun _ _ hb h => h.step hb, fun _ _ hb h => blk_below h hb, trivial⟩ (fun hgrow => ⟨fun _ _ h => rv rfl (x_loadS rfl h.1 Try.underlying65 [.int .i64 t, .int .i64 a] sz65 (blk_list (L := [.int .i64 t, .int .i64 a]) (blk_kx HBX3 h.2.1 (fun e => (Ne.symm n_g2_g3) e)) 0 rfl)) rfl,
    ?_, trivial⟩) ?_
  · rintro a_ W ⟨h2, h0, h5, -⟩
    exact rstoreS rfl rfl h2 h0 (by simp [Value.oneCell']) sz65 h5 rfl (blk_stored (cs := [.int .i64 t, .int .i64 a]) 0 _ [.int .i64 0, .int .i64 0] h5 (of_decide_eq_true rfl)) ⟨fun h => h.sets rfl _ _, trivial⟩
  clear s1 s2 s3
  clear hN hD
  rintro a5 w5 hN hD ⟨MBX2, s2, s3, hGR, -⟩
  have NB := Kx.below HB hGR HB.size (fun k e => by subst e; exact lg2)
  have NBX1 := blk_kx HBX1 hGR (fun e => (blk_neT HBX1 HBX2 rfl) e)
  have NBX3 := blk_kx HBX3 hGR (fun e => (Ne.symm n_g2_g3) e)
  replace HB := NB
  replace HBX1 := NBX1
  replace HBX3 := NBX3
  clear NB NBX1 NBX3
  replace HBX2 := MBX2
  clear MBX2
  clear hGR
  show Code.wp _ _ _ _ _
  refine wp_ret ?_
  refine bodyPost_ret (results_single rfl (vcell s2 HBX2 Try.underlying65 rfl sz65 .nil)) hD ?_
  exact ⟨rfl, HB⟩
set_option maxHeartbeats 2000000 in
theorem toO_calls (o : Op) (A : Option Addr) (c : Nat) (w : World) (HR : RI w A o.deps) (hn : o.deps.length ≤ 1048576) : Calls Try.prog 49 #[.agg (opc o A c).toArray] w fun e w' => ∃ g, e = .returned (.agg (opc o (some ⟨g, 0, none⟩) o.deps.length).toArray) ∧ w.heap.size ≤ g ∧ IB w' g o.deps 3 ∧ Below w.heap.size w w' := by
  refine calls_of_wp Try.func49 rfl ?_
  refine enter_ (N := 40) rfl ?_
  rintro a0 hN hD ⟨s0, -⟩
  have HB : Below w.heap.size w w := Below.refl _ _
  refine wp_seq ?_
  refine deedL [.s1 1 (NewB w.heap.size (opc o A c) 63), .s1 2 (NewB w.heap.size [.int .i64 0, .int .i64 0, .int .i64 0, .slice none 0 0, .int .i64 0, .int .i64 0, .int .i64 0, .int .i64 0, .int .i64 0, .int .i64 0, .string ⟨#[]⟩, .string ⟨#[]⟩] 67), .eq 0 (.agg (opc o A c).toArray), .w (Below w.heap.size w)] 40 [[3, 2], [3]] [] [0, 1, 2, 3] hM hN hD (by kernel_rfl) ⟨s0, ⟨Below.refl _ _, below_drew (Below.refl _ _)⟩, trivial⟩ ⟨fun _ _ _ hb h => h.grow hb, fun _ _ _ hb h => h.grow hb, fun _ _ hb h => below_step h hb, trivial⟩ (fun hgrow => ⟨fun _ _ h => rbox hgrow rfl (x_box rfl h.2.1) h.1.size (fun _ _ z => z),
    fun _ _ h => rbox hgrow rfl (x_alloc rfl zr67) h.1.size (fun _ _ z => z), trivial⟩) ?_
  clear s0
  clear hN hD
  rintro a1 w1 hN hD ⟨⟨g1, s1, lg1, HBX1⟩, ⟨g2, s2, lg2, HBX2⟩, s0, hGR, -⟩
  replace HB := below_step HB hGR
  clear hGR
  show Code.wp _ _ _ _ _
  refine wp_seq ?_
  refine deedL [.s1 3 (NewB w1.heap.size [.int .i64 0, .int .i64 0, .int .i64 0, .slice none 0 0, .int .i64 0, .int .i64 0, .int .i64 0, .int .i64 0, .int .i64 0, .int .i64 0, .string ⟨#[]⟩, .string ⟨#[]⟩] 67), .eq 1 (.pointer (some ⟨g1, 0, none⟩)), .eq 2 (.pointer (some ⟨g2, 0, none⟩)), .w (Below w1.heap.size w1)] 40 [[3]] [] [0, 1, 2, 3] hM hN hD (by kernel_rfl) ⟨s1, s2, ⟨Below.refl _ _, below_drew (Below.refl _ _)⟩, trivial⟩ ⟨fun _ _ _ hb h => h.grow hb, fun _ _ hb h => below_step h hb, trivial⟩ (fun hgrow => ⟨fun _ _ h => rbox hgrow rfl (x_alloc rfl zr67) h.1.size (fun _ _ z => z), trivial⟩) ?_
  clear s0 s1 s2
  clear hN hD
  rintro a2 w2 hN hD ⟨⟨g3, s3, lg3, HBX3⟩, s1, s2, hGR, -⟩
  have n_g2_g3 : g2 ≠ g3 := by have := blk_lt HBX2; omega
  replace lg3 := Nat.le_trans HB.size lg3
  replace HB := below_step HB hGR
  replace HBX1 := blk_below HBX1 hGR
  replace HBX2 := blk_below HBX2 hGR
  clear hGR
  show Code.wp _ _ _ _ _
  refine wp_seq ?_
  refine deedL [.eq 4 (.pointer (some ⟨g1, 0, none⟩)), .eq 5 (.int .i64 o.actor), .eq 6 (.pointer (some ⟨g3, 0, none⟩)), .w fun W => W.heap[g3]? = some (.cells ([.int .i64 o.actor, .int .i64 0, .int .i64 0, .slice none 0 0, .int .i64 0, .int .i64 0, .int .i64 0, .int .i64 0, .int .i64 0, .int .i64 0, .string ⟨#[]⟩, .string ⟨#[]⟩]).toArray 67 (0, 0)), .eq 1 (.pointer (some ⟨g1, 0, none⟩)), .eq 2 (.pointer (some ⟨g2, 0, none⟩)), .eq 3 (.pointer (some ⟨g3, 0, none⟩)), .w (Kx (fun k => k = g3) w2), .w fun W => W.heap[g3]? = some (.cells ([.int .i64 0, .int .i64 0, .int .i64 0, .slice none 0 0, .int .i64 0, .int .i64 0, .int .i64 0, .int .i64 0, .int .i64 0, .int .i64 0, .string ⟨#[]⟩, .string ⟨#[]⟩]).toArray 67 (0, 0))] 40 [[4], [0, 7], [6], [2, 1, 8]] [[], [], [], [8]] [3, 4, 5, 6, 7] hM hN hD (by kernel_rfl) ⟨s1, s2, s3, ⟨Kx.refl _ _, Kx.drew _ _⟩, ⟨HBX3, blk_below HBX3 (below_drew (Below.refl _ _))⟩, trivial⟩ ⟨fun _ _ hb h => blk_below h hb, fun _ _ hb h => h.step hb, fun _ _ hb h => blk_below h hb, trivial⟩ (fun hgrow => ⟨fun _ _ h => rv rfl (x_field rfl h.1 Try.underlying63 rfl sz3 (by decide) rfl) rfl,
    fun _ _ h => rv rfl (x_load1 rfl h.1 Try.underlying3 rfl (blk_one (L := opc o A c) (blk_kx HBX1 h.2.1 (fun e => (blk_neT HBX1 HBX3 rfl) e)) 0 rfl)) rfl,
    fun _ _ h => rv rfl (x_field rfl h.1 Try.underlying67 rfl sz3 (by decide) rfl) rfl,
    ?_, trivial⟩) ?_
  · rintro a_ W ⟨h2, h1, h8, -⟩
    exact rstore1 rfl rfl h2 h1 rfl sz3 (L := [.int .i64 0, .int .i64 0, .int .i64 0, .slice none 0 0, .int .i64 0, .int .i64 0, .int .i64 0, .int .i64 0, .int .i64 0, .int .i64 0, .string ⟨#[]⟩, .string ⟨#[]⟩]) (off := 0) h8 rfl (blk_setL h8 0 _) ⟨fun h => h.set rfl _ _, trivial⟩
  clear s1 s2 s3
  clear hN hD
  rintro a3 w3 hN hD ⟨MBX3, s1, s2, s3, hGR, -⟩
  have NB := Kx.below HB hGR HB.size (fun k e => by subst e; exact lg3)
  have NBX1 := blk_kx HBX1 hGR (fun e => (blk_neT HBX1 HBX3 rfl) e)
  have NBX2 := blk_kx HBX2 hGR (fun e => n_g2_g3 e)
  replace HB := NB
  replace HBX1 := NBX1
  replace HBX2 := NBX2
  clear NB NBX1 NBX2
  replace HBX3 := MBX3
  clear MBX3
  clear hGR
  show Code.wp _ _ _ _ _
  refine wp_seq ?_
  refine deedL [.eq 7 (.pointer (some ⟨g1, 1, none⟩)), .eq 8 (.int .i64 o.seq), .eq 9 (.pointer (some ⟨g3, 1, none⟩)), .w fun W => W.heap[g3]? = some (.cells ([.int .i64 o.actor, .int .i64 o.seq, .int .i64 0, .slice none 0 0, .int .i64 0, .int .i64 0, .int .i64 0, .int .i64 0, .int .i64 0, .int .i64 0, .string ⟨#[]⟩, .string ⟨#[]⟩]).toArray 67 (0, 0)), .eq 1 (.pointer (some ⟨g1, 0, none⟩)), .eq 2 (.pointer (some ⟨g2, 0, none⟩)), .eq 3 (.pointer (some ⟨g3, 0, none⟩)), .w (Kx (fun k => k = g3) w3), .w fun W => W.heap[g3]? = some (.cells ([.int .i64 o.actor, .int .i64 0, .int .i64 0, .slice none 0 0, .int .i64 0, .int .i64 0, .int .i64 0, .int .i64 0, .int .i64 0, .int .i64 0, .string ⟨#[]⟩, .string ⟨#[]⟩]).toArray 67 (0, 0))] 40 [[4], [0, 7], [6], [2, 1, 8]] [[], [], [], [8]] [3, 4, 5, 6, 7] hM hN hD (by kernel_rfl) ⟨s1, s2, s3, ⟨Kx.refl _ _, Kx.drew _ _⟩, ⟨HBX3, blk_below HBX3 (below_drew (Below.refl _ _))⟩, trivial⟩ ⟨fun _ _ hb h => blk_below h hb, fun _ _ hb h => h.step hb, fun _ _ hb h => blk_below h hb, trivial⟩ (fun hgrow => ⟨fun _ _ h => rv rfl (x_field rfl h.1 Try.underlying63 rfl sz3 (by decide) rfl) rfl,
    fun _ _ h => rv rfl (x_load1 rfl h.1 Try.underlying3 rfl (blk_one (L := opc o A c) (blk_kx HBX1 h.2.1 (fun e => (blk_neT HBX1 HBX3 rfl) e)) 1 rfl)) rfl,
    fun _ _ h => rv rfl (x_field rfl h.1 Try.underlying67 rfl sz3 (by decide) rfl) rfl,
    ?_, trivial⟩) ?_
  · rintro a_ W ⟨h2, h1, h8, -⟩
    exact rstore1 rfl rfl h2 h1 rfl sz3 (L := [.int .i64 o.actor, .int .i64 0, .int .i64 0, .slice none 0 0, .int .i64 0, .int .i64 0, .int .i64 0, .int .i64 0, .int .i64 0, .int .i64 0, .string ⟨#[]⟩, .string ⟨#[]⟩]) (off := 1) h8 rfl (blk_setL h8 1 _) ⟨fun h => h.set rfl _ _, trivial⟩
  clear s1 s2 s3
  clear hN hD
  rintro a4 w4 hN hD ⟨MBX3, s1, s2, s3, hGR, -⟩
  have NB := Kx.below HB hGR HB.size (fun k e => by subst e; exact lg3)
  have NBX1 := blk_kx HBX1 hGR (fun e => (blk_neT HBX1 HBX3 rfl) e)
  have NBX2 := blk_kx HBX2 hGR (fun e => n_g2_g3 e)
  replace HB := NB
  replace HBX1 := NBX1
  replace HBX2 := NBX2
  clear NB NBX1 NBX2
  replace HBX3 := MBX3
  clear MBX3
  clear hGR
  show Code.wp _ _ _ _ _
  refine wp_seq ?_
  refine deedL [.eq 10 (.pointer (some ⟨g1, 2, none⟩)), .eq 11 (.int .i64 o.time), .eq 12 (.pointer (some ⟨g3, 2, none⟩)), .w fun W => W.heap[g3]? = some (.cells ([.int .i64 o.actor, .int .i64 o.seq, .int .i64 o.time, .slice none 0 0, .int .i64 0, .int .i64 0, .int .i64 0, .int .i64 0, .int .i64 0, .int .i64 0, .string ⟨#[]⟩, .string ⟨#[]⟩]).toArray 67 (0, 0)), .eq 1 (.pointer (some ⟨g1, 0, none⟩)), .eq 2 (.pointer (some ⟨g2, 0, none⟩)), .eq 3 (.pointer (some ⟨g3, 0, none⟩)), .w (Kx (fun k => k = g3) w4), .w fun W => W.heap[g3]? = some (.cells ([.int .i64 o.actor, .int .i64 o.seq, .int .i64 0, .slice none 0 0, .int .i64 0, .int .i64 0, .int .i64 0, .int .i64 0, .int .i64 0, .int .i64 0, .string ⟨#[]⟩, .string ⟨#[]⟩]).toArray 67 (0, 0))] 40 [[4], [0, 7], [6], [2, 1, 8]] [[], [], [], [8]] [3, 4, 5, 6, 7] hM hN hD (by kernel_rfl) ⟨s1, s2, s3, ⟨Kx.refl _ _, Kx.drew _ _⟩, ⟨HBX3, blk_below HBX3 (below_drew (Below.refl _ _))⟩, trivial⟩ ⟨fun _ _ hb h => blk_below h hb, fun _ _ hb h => h.step hb, fun _ _ hb h => blk_below h hb, trivial⟩ (fun hgrow => ⟨fun _ _ h => rv rfl (x_field rfl h.1 Try.underlying63 rfl sz3 (by decide) rfl) rfl,
    fun _ _ h => rv rfl (x_load1 rfl h.1 Try.underlying3 rfl (blk_one (L := opc o A c) (blk_kx HBX1 h.2.1 (fun e => (blk_neT HBX1 HBX3 rfl) e)) 2 rfl)) rfl,
    fun _ _ h => rv rfl (x_field rfl h.1 Try.underlying67 rfl sz3 (by decide) rfl) rfl,
    ?_, trivial⟩) ?_
  · rintro a_ W ⟨h2, h1, h8, -⟩
    exact rstore1 rfl rfl h2 h1 rfl sz3 (L := [.int .i64 o.actor, .int .i64 o.seq, .int .i64 0, .slice none 0 0, .int .i64 0, .int .i64 0, .int .i64 0, .int .i64 0, .int .i64 0, .int .i64 0, .string ⟨#[]⟩, .string ⟨#[]⟩]) (off := 2) h8 rfl (blk_setL h8 2 _) ⟨fun h => h.set rfl _ _, trivial⟩
  clear s1 s2 s3
  clear hN hD
  rintro a5 w5 hN hD ⟨MBX3, s1, s2, s3, hGR, -⟩
  have NB := Kx.below HB hGR HB.size (fun k e => by subst e; exact lg3)
  have NBX1 := blk_kx HBX1 hGR (fun e => (blk_neT HBX1 HBX3 rfl) e)
  have NBX2 := blk_kx HBX2 hGR (fun e => n_g2_g3 e)
  replace HB := NB
  replace HBX1 := NBX1
  replace HBX2 := NBX2
  clear NB NBX1 NBX2
  replace HBX3 := MBX3
  clear MBX3
  clear hGR
  show Code.wp _ _ _ _ _
  refine wp_seq ?_
  refine deedL [.eq 13 (.pointer (some ⟨g1, 3, none⟩)), .eq 14 (.agg #[Value.slice A o.deps.length c]), .s1 15 fun x_ W => ∃ (gt : Nat), x_ = .agg #[Value.slice (some ⟨gt, 0, none⟩) o.deps.length o.deps.length] ∧ w5.heap.size ≤ gt ∧ IB W gt o.deps 3, .eq 16 (.pointer (some ⟨g3, 3, none⟩)), .s1 15 fun x_ W => ∃ (gt : Nat), x_ = .agg #[Value.slice (some ⟨gt, 0, none⟩) o.deps.length o.deps.length] ∧ W.heap[g3]? = some (.cells ([.int .i64 o.actor, .int .i64 o.seq, .int .i64 o.time, .slice (some ⟨gt, 0, none⟩) o.deps.length o.deps.length, .int .i64 0, .int .i64 0, .int .i64 0, .int .i64 0, .int .i64 0, .int .i64 0, .string ⟨#[]⟩, .string ⟨#[]⟩]).toArray 67 (0, 0)), .eq 1 (.pointer (some ⟨g1, 0, none⟩)), .eq 2 (.pointer (some ⟨g2, 0, none⟩)), .eq 3 (.pointer (some ⟨g3, 0, none⟩)), .w (Kx (fun k => k = g3) w5), .w fun W => W.heap[g3]? = some (.cells ([.int .i64 o.actor, .int .i64 o.seq, .int .i64 o.time, .slice none 0 0, .int .i64 0, .int .i64 0, .int .i64 0, .int .i64 0, .int .i64 0, .int .i64 0, .string ⟨#[]⟩, .string ⟨#[]⟩]).toArray 67 (0, 0))] 40 [[5], [0, 8], [1, 8], [7], [3, 2, 9]] [[], [], [], [], [9]] [2, 4, 5, 6, 7, 8] hM hN hD (by kernel_rfl) ⟨s1, s2, s3, ⟨Kx.refl _ _, Kx.drew _ _⟩, ⟨HBX3, blk_below HBX3 (below_drew (Below.refl _ _))⟩, trivial⟩ ⟨fun _ _ _ hb h => by obtain ⟨gt, e_, z0, z1⟩ := h; exact ⟨_, e_, z0, z1.below hb⟩, fun _ _ _ hb h => by obtain ⟨gt, e_, h_⟩ := h; exact ⟨_, e_, blk_below h_ hb⟩, fun _ _ hb h => h.step hb, fun _ _ hb h => blk_below h hb, trivial⟩ (fun hgrow => ⟨fun _ _ h => rv rfl (x_field rfl h.1 Try.underlying63 rfl sz37 (by decide) rfl) rfl,
    fun _ _ h => rv rfl (x_loadS rfl h.1 Try.underlying37 [.slice A o.deps.length c] sz37 (blk_list (L := opc o A c) (blk_kx HBX1 h.2.1 (fun e => (blk_neT HBX1 HBX3 rfl) e)) 3 rfl)) rfl,
    fun _ _ h => rc hgrow rfl Try.func25 (by kernel_rfl) rfl rfl (args1 h.1) (toV_calls A o.deps c _ (RI.below HR (Kx.below HB h.2.1 HB.size (fun k e => by subst e; exact lg3))) hn) (fun _ _ hR => by obtain ⟨gt, e_, z0, z1, hb⟩ := hR; exact ⟨_, e_, hb, gt, rfl, (Nat.le_trans h.2.1.size z0), z1⟩),
    fun _ _ h => rv rfl (x_field rfl h.1 Try.underlying67 rfl sz41 (by decide) rfl) rfl,
    ?_, trivial⟩) ?_
  · rintro a_ W ⟨h3, h2, h9, -⟩
    obtain ⟨gt, e2, HLgt, HCgt⟩ := h2
    exact rstoreS rfl rfl h3 e2 (by simp [Value.oneCell']) sz41 h9 rfl ⟨_, e2, blk_stored (cs := [.slice (some ⟨gt, 0, none⟩) o.deps.length o.deps.length]) 3 _ [.int .i64 o.actor, .int .i64 o.seq, .int .i64 o.time, .slice none 0 0, .int .i64 0, .int .i64 0, .int .i64 0, .int .i64 0, .int .i64 0, .int .i64 0, .string ⟨#[]⟩, .string ⟨#[]⟩] h9 (of_decide_eq_true rfl)⟩ ⟨fun h => by obtain ⟨gt, e_, z0, z1⟩ := h; exact ⟨_, e_, z0, (setCells_far _ _ _ (blk_neT z1 h9 rfl)).trans z1⟩, fun h => h.sets rfl _ _, trivial⟩
  clear s1 s2 s3
  clear hN hD
  rintro a6 w6 hN hD ⟨⟨gt, s15, HLgt, HCgt⟩, qs4, s1, s2, s3, hGR, -⟩
  obtain ⟨gt_, e_, MBX3⟩ := qs4
  cases s15.symm.trans e_
  have lgt := HLgt
  clear HLgt
  replace lgt := Nat.le_trans HB.size lgt
  have NB := Kx.below HB hGR HB.size (fun k e => by subst e; exact lg3)
  have NBX1 := blk_kx HBX1 hGR (fun e => (blk_neT HBX1 HBX3 rfl) e)
  have NBX2 := blk_kx HBX2 hGR (fun e => n_g2_g3 e)
  replace HB := NB
  replace HBX1 := NBX1
  replace HBX2 := NBX2
  clear NB NBX1 NBX2
  replace HBX3 := MBX3
  clear MBX3
  clear hGR
  show Code.wp _ _ _ _ _
  refine wp_seq ?_
  refine deedL [.eq 17 (.pointer (some ⟨g1, 4, none⟩)), .eq 18 (.int .i64 o.kind), .eq 19 (.pointer (some ⟨g3, 4, none⟩)), .w fun W => W.heap[g3]? = some (.cells ([.int .i64 o.actor, .int .i64 o.seq, .int .i64 o.time, .slice (some ⟨gt, 0, none⟩) o.deps.length o.deps.length, .int .i64 o.kind, .int .i64 0, .int .i64 0, .int .i64 0, .int .i64 0, .int .i64 0, .string ⟨#[]⟩, .string ⟨#[]⟩]).toArray 67 (0, 0)), .eq 1 (.pointer (some ⟨g1, 0, none⟩)), .eq 2 (.pointer (some ⟨g2, 0, none⟩)), .eq 3 (.pointer (some ⟨g3, 0, none⟩)), .w (Kx (fun k => k = g3) w6), .w fun W => W.heap[g3]? = some (.cells ([.int .i64 o.actor, .int .i64 o.seq, .int .i64 o.time, .slice (some ⟨gt, 0, none⟩) o.deps.length o.deps.length, .int .i64 0, .int .i64 0, .int .i64 0, .int .i64 0, .int .i64 0, .int .i64 0, .string ⟨#[]⟩, .string ⟨#[]⟩]).toArray 67 (0, 0))] 40 [[4], [0, 7], [6], [2, 1, 8]] [[], [], [], [8]] [3, 4, 5, 6, 7] hM hN hD (by kernel_rfl) ⟨s1, s2, s3, ⟨Kx.refl _ _, Kx.drew _ _⟩, ⟨HBX3, blk_below HBX3 (below_drew (Below.refl _ _))⟩, trivial⟩ ⟨fun _ _ hb h => blk_below h hb, fun _ _ hb h => h.step hb, fun _ _ hb h => blk_below h hb, trivial⟩ (fun hgrow => ⟨fun _ _ h => rv rfl (x_field rfl h.1 Try.underlying63 rfl sz3 (by decide) rfl) rfl,
    fun _ _ h => rv rfl (x_load1 rfl h.1 Try.underlying3 rfl (blk_one (L := opc o A c) (blk_kx HBX1 h.2.1 (fun e => (blk_neT HBX1 HBX3 rfl) e)) 4 rfl)) rfl,
    fun _ _ h => rv rfl (x_field rfl h.1 Try.underlying67 rfl sz3 (by decide) rfl) rfl,
    ?_, trivial⟩) ?_
  · rintro a_ W ⟨h2, h1, h8, -⟩
    exact rstore1 rfl rfl h2 h1 rfl sz3 (L := [.int .i64 o.actor, .int .i64 o.seq, .int .i64 o.time, .slice (some ⟨gt, 0, none⟩) o.deps.length o.deps.length, .int .i64 0, .int .i64 0, .int .i64 0, .int .i64 0, .int .i64 0, .int .i64 0, .string ⟨#[]⟩, .string ⟨#[]⟩]) (off := 4) h8 rfl (blk_setL h8 4 _) ⟨fun h => h.set rfl _ _, trivial⟩
  clear s1 s2 s3
  clear hN hD
  rintro a7 w7 hN hD ⟨MBX3, s1, s2, s3, hGR, -⟩
  have NB := Kx.below HB hGR HB.size (fun k e => by subst e; exact lg3)
  have NBX1 := blk_kx HBX1 hGR (fun e => (blk_neT HBX1 HBX3 rfl) e)
  have NBX2 := blk_kx HBX2 hGR (fun e => n_g2_g3 e)
  have NCgt : IB w7 gt o.deps 3 := blk_kx HCgt hGR (fun e => (blk_neT HCgt HBX3 rfl) e)
  replace HB := NB
  replace HBX1 := NBX1
  replace HBX2 := NBX2
  replace HCgt := NCgt
  clear NB NBX1 NBX2 NCgt
  replace HBX3 := MBX3
  clear MBX3
  clear hGR
  show Code.wp _ _ _ _ _
  refine wp_seq ?_
  refine deedL [.eq 20 (.pointer (some ⟨g1, 5, none⟩)), .eq 21 (.int .i64 o.obj), .eq 22 (.pointer (some ⟨g3, 5, none⟩)), .w fun W => W.heap[g3]? = some (.cells ([.int .i64 o.actor, .int .i64 o.seq, .int .i64 o.time, .slice (some ⟨gt, 0, none⟩) o.deps.length o.deps.length, .int .i64 o.kind, .int .i64 o.obj, .int .i64 0, .int .i64 0, .int .i64 0, .int .i64 0, .string ⟨#[]⟩, .string ⟨#[]⟩]).toArray 67 (0, 0)), .eq 1 (.pointer (some ⟨g1, 0, none⟩)), .eq 2 (.pointer (some ⟨g2, 0, none⟩)), .eq 3 (.pointer (some ⟨g3, 0, none⟩)), .w (Kx (fun k => k = g3) w7), .w fun W => W.heap[g3]? = some (.cells ([.int .i64 o.actor, .int .i64 o.seq, .int .i64 o.time, .slice (some ⟨gt, 0, none⟩) o.deps.length o.deps.length, .int .i64 o.kind, .int .i64 0, .int .i64 0, .int .i64 0, .int .i64 0, .int .i64 0, .string ⟨#[]⟩, .string ⟨#[]⟩]).toArray 67 (0, 0))] 40 [[4], [0, 7], [6], [2, 1, 8]] [[], [], [], [8]] [3, 4, 5, 6, 7] hM hN hD (by kernel_rfl) ⟨s1, s2, s3, ⟨Kx.refl _ _, Kx.drew _ _⟩, ⟨HBX3, blk_below HBX3 (below_drew (Below.refl _ _))⟩, trivial⟩ ⟨fun _ _ hb h => blk_below h hb, fun _ _ hb h => h.step hb, fun _ _ hb h => blk_below h hb, trivial⟩ (fun hgrow => ⟨fun _ _ h => rv rfl (x_field rfl h.1 Try.underlying63 rfl sz3 (by decide) rfl) rfl,
    fun _ _ h => rv rfl (x_load1 rfl h.1 Try.underlying3 rfl (blk_one (L := opc o A c) (blk_kx HBX1 h.2.1 (fun e => (blk_neT HBX1 HBX3 rfl) e)) 5 rfl)) rfl,
    fun _ _ h => rv rfl (x_field rfl h.1 Try.underlying67 rfl sz3 (by decide) rfl) rfl,
    ?_, trivial⟩) ?_
  · rintro a_ W ⟨h2, h1, h8, -⟩
    exact rstore1 rfl rfl h2 h1 rfl sz3 (L := [.int .i64 o.actor, .int .i64 o.seq, .int .i64 o.time, .slice (some ⟨gt, 0, none⟩) o.deps.length o.deps.length, .int .i64 o.kind, .int .i64 0, .int .i64 0, .int .i64 0, .int .i64 0, .int .i64 0, .string ⟨#[]⟩, .string ⟨#[]⟩]) (off := 5) h8 rfl (blk_setL h8 5 _) ⟨fun h => h.set rfl _ _, trivial⟩
  clear s1 s2 s3
  clear hN hD
  rintro a8 w8 hN hD ⟨MBX3, s1, s2, s3, hGR, -⟩
  have NB := Kx.below HB hGR HB.size (fun k e => by subst e; exact lg3)
  have NBX1 := blk_kx HBX1 hGR (fun e => (blk_neT HBX1 HBX3 rfl) e)
  have NBX2 := blk_kx HBX2 hGR (fun e => n_g2_g3 e)
  have NCgt : IB w8 gt o.deps 3 := blk_kx HCgt hGR (fun e => (blk_neT HCgt HBX3 rfl) e)
  replace HB := NB
  replace HBX1 := NBX1
  replace HBX2 := NBX2
  replace HCgt := NCgt
  clear NB NBX1 NBX2 NCgt
  replace HBX3 := MBX3
  clear MBX3
  clear hGR
  show Code.wp _ _ _ _ _
  refine wp_seq ?_
  refine deedL [.eq 23 (.pointer (some ⟨g1, 6, none⟩)), .eq 24 (.int .i64 o.num), .eq 25 (.pointer (some ⟨g3, 6, none⟩)), .w fun W => W.heap[g3]? = some (.cells ([.int .i64 o.actor, .int .i64 o.seq, .int .i64 o.time, .slice (some ⟨gt, 0, none⟩) o.deps.length o.deps.length, .int .i64 o.kind, .int .i64 o.obj, .int .i64 o.num, .int .i64 0, .int .i64 0, .int .i64 0, .string ⟨#[]⟩, .string ⟨#[]⟩]).toArray 67 (0, 0)), .eq 1 (.pointer (some ⟨g1, 0, none⟩)), .eq 2 (.pointer (some ⟨g2, 0, none⟩)), .eq 3 (.pointer (some ⟨g3, 0, none⟩)), .w (Kx (fun k => k = g3) w8), .w fun W => W.heap[g3]? = some (.cells ([.int .i64 o.actor, .int .i64 o.seq, .int .i64 o.time, .slice (some ⟨gt, 0, none⟩) o.deps.length o.deps.length, .int .i64 o.kind, .int .i64 o.obj, .int .i64 0, .int .i64 0, .int .i64 0, .int .i64 0, .string ⟨#[]⟩, .string ⟨#[]⟩]).toArray 67 (0, 0))] 40 [[4], [0, 7], [6], [2, 1, 8]] [[], [], [], [8]] [3, 4, 5, 6, 7] hM hN hD (by kernel_rfl) ⟨s1, s2, s3, ⟨Kx.refl _ _, Kx.drew _ _⟩, ⟨HBX3, blk_below HBX3 (below_drew (Below.refl _ _))⟩, trivial⟩ ⟨fun _ _ hb h => blk_below h hb, fun _ _ hb h => h.step hb, fun _ _ hb h => blk_below h hb, trivial⟩ (fun hgrow => ⟨fun _ _ h => rv rfl (x_field rfl h.1 Try.underlying63 rfl sz3 (by decide) rfl) rfl,
    fun _ _ h => rv rfl (x_load1 rfl h.1 Try.underlying3 rfl (blk_one (L := opc o A c) (blk_kx HBX1 h.2.1 (fun e => (blk_neT HBX1 HBX3 rfl) e)) 6 rfl)) rfl,
    fun _ _ h => rv rfl (x_field rfl h.1 Try.underlying67 rfl sz3 (by decide) rfl) rfl,
    ?_, trivial⟩) ?_
  · rintro a_ W ⟨h2, h1, h8, -⟩
    exact rstore1 rfl rfl h2 h1 rfl sz3 (L := [.int .i64 o.actor, .int .i64 o.seq, .int .i64 o.time, .slice (some ⟨gt, 0, none⟩) o.deps.length o.deps.length, .int .i64 o.kind, .int .i64 o.obj, .int .i64 0, .int .i64 0, .int .i64 0, .int .i64 0, .string ⟨#[]⟩, .string ⟨#[]⟩]) (off := 6) h8 rfl (blk_setL h8 6 _) ⟨fun h => h.set rfl _ _, trivial⟩
  clear s1 s2 s3
  clear hN hD
  rintro a9 w9 hN hD ⟨MBX3, s1, s2, s3, hGR, -⟩
  have NB := Kx.below HB hGR HB.size (fun k e => by subst e; exact lg3)
  have NBX1 := blk_kx HBX1 hGR (fun e => (blk_neT HBX1 HBX3 rfl) e)
  have NBX2 := blk_kx HBX2 hGR (fun e => n_g2_g3 e)
  have NCgt : IB w9 gt o.deps 3 := blk_kx HCgt hGR (fun e => (blk_neT HCgt HBX3 rfl) e)
  replace HB := NB
  replace HBX1 := NBX1
  replace HBX2 := NBX2
  replace HCgt := NCgt
  clear NB NBX1 NBX2 NCgt
  replace HBX3 := MBX3
  clear MBX3
  clear hGR
  show Code.wp _ _ _ _ _
  refine wp_seq ?_
  refine deedL [.eq 26 (.pointer (some ⟨g1, 7, none⟩)), .eq 27 (.int .i64 o.undo), .eq 28 (.pointer (some ⟨g3, 7, none⟩)), .w fun W => W.heap[g3]? = some (.cells ([.int .i64 o.actor, .int .i64 o.seq, .int .i64 o.time, .slice (some ⟨gt, 0, none⟩) o.deps.length o.deps.length, .int .i64 o.kind, .int .i64 o.obj, .int .i64 o.num, .int .i64 o.undo, .int .i64 0, .int .i64 0, .string ⟨#[]⟩, .string ⟨#[]⟩]).toArray 67 (0, 0)), .eq 1 (.pointer (some ⟨g1, 0, none⟩)), .eq 2 (.pointer (some ⟨g2, 0, none⟩)), .eq 3 (.pointer (some ⟨g3, 0, none⟩)), .w (Kx (fun k => k = g3) w9), .w fun W => W.heap[g3]? = some (.cells ([.int .i64 o.actor, .int .i64 o.seq, .int .i64 o.time, .slice (some ⟨gt, 0, none⟩) o.deps.length o.deps.length, .int .i64 o.kind, .int .i64 o.obj, .int .i64 o.num, .int .i64 0, .int .i64 0, .int .i64 0, .string ⟨#[]⟩, .string ⟨#[]⟩]).toArray 67 (0, 0))] 40 [[4], [0, 7], [6], [2, 1, 8]] [[], [], [], [8]] [3, 4, 5, 6, 7] hM hN hD (by kernel_rfl) ⟨s1, s2, s3, ⟨Kx.refl _ _, Kx.drew _ _⟩, ⟨HBX3, blk_below HBX3 (below_drew (Below.refl _ _))⟩, trivial⟩ ⟨fun _ _ hb h => blk_below h hb, fun _ _ hb h => h.step hb, fun _ _ hb h => blk_below h hb, trivial⟩ (fun hgrow => ⟨fun _ _ h => rv rfl (x_field rfl h.1 Try.underlying63 rfl sz3 (by decide) rfl) rfl,
    fun _ _ h => rv rfl (x_load1 rfl h.1 Try.underlying3 rfl (blk_one (L := opc o A c) (blk_kx HBX1 h.2.1 (fun e => (blk_neT HBX1 HBX3 rfl) e)) 7 rfl)) rfl,
    fun _ _ h => rv rfl (x_field rfl h.1 Try.underlying67 rfl sz3 (by decide) rfl) rfl,
    ?_, trivial⟩) ?_
  · rintro a_ W ⟨h2, h1, h8, -⟩
    exact rstore1 rfl rfl h2 h1 rfl sz3 (L := [.int .i64 o.actor, .int .i64 o.seq, .int .i64 o.time, .slice (some ⟨gt, 0, none⟩) o.deps.length o.deps.length, .int .i64 o.kind, .int .i64 o.obj, .int .i64 o.num, .int .i64 0, .int .i64 0, .int .i64 0, .string ⟨#[]⟩, .string ⟨#[]⟩]) (off := 7) h8 rfl (blk_setL h8 7 _) ⟨fun h => h.set rfl _ _, trivial⟩
  clear s1 s2 s3
  clear hN hD
  rintro a10 w10 hN hD ⟨MBX3, s1, s2, s3, hGR, -⟩
  have NB := Kx.below HB hGR HB.size (fun k e => by subst e; exact lg3)
  have NBX1 := blk_kx HBX1 hGR (fun e => (blk_neT HBX1 HBX3 rfl) e)
  have NBX2 := blk_kx HBX2 hGR (fun e => n_g2_g3 e)
  have NCgt : IB w10 gt o.deps 3 := blk_kx HCgt hGR (fun e => (blk_neT HCgt HBX3 rfl) e)
  replace HB := NB
  replace HBX1 := NBX1
  replace HBX2 := NBX2
  replace HCgt := NCgt
  clear NB NBX1 NBX2 NCgt
  replace HBX3 := MBX3
  clear MBX3
  clear hGR
  show Code.wp _ _ _ _ _
  refine wp_seq ?_
  refine deedL [.eq 29 (.pointer (some ⟨g1, 8, none⟩)), .eq 30 (.agg #[Value.int .i64 o.att, Value.int .i64 o.ata]), .eq 31 (.agg #[Value.int .i64 o.att, Value.int .i64 o.ata]), .eq 32 (.pointer (some ⟨g3, 8, none⟩)), .w fun W => W.heap[g3]? = some (.cells ([.int .i64 o.actor, .int .i64 o.seq, .int .i64 o.time, .slice (some ⟨gt, 0, none⟩) o.deps.length o.deps.length, .int .i64 o.kind, .int .i64 o.obj, .int .i64 o.num, .int .i64 o.undo, .int .i64 o.att, .int .i64 o.ata, .string ⟨#[]⟩, .string ⟨#[]⟩]).toArray 67 (0, 0)), .eq 1 (.pointer (some ⟨g1, 0, none⟩)), .eq 2 (.pointer (some ⟨g2, 0, none⟩)), .eq 3 (.pointer (some ⟨g3, 0, none⟩)), .w (Kx (fun k => k = g3) w10), .w fun W => W.heap[g3]? = some (.cells ([.int .i64 o.actor, .int .i64 o.seq, .int .i64 o.time, .slice (some ⟨gt, 0, none⟩) o.deps.length o.deps.length, .int .i64 o.kind, .int .i64 o.obj, .int .i64 o.num, .int .i64 o.undo, .int .i64 0, .int .i64 0, .string ⟨#[]⟩, .string ⟨#[]⟩]).toArray 67 (0, 0))] 40 [[5], [0, 8], [1], [7], [3, 2, 9]] [[], [], [], [], [9]] [4, 5, 6, 7, 8] hM hN hD (by kernel_rfl) ⟨s1, s2, s3, ⟨Kx.refl _ _, Kx.drew _ _⟩, ⟨HBX3, blk_below HBX3 (below_drew (Below.refl _ _))⟩, trivial⟩ ⟨fun _ _ hb h => blk_below h hb, fun _ _ hb h => h.step hb, fun _ _ hb h => blk_below h hb, trivial⟩ (fun hgrow => ⟨fun _ _ h => rv rfl (x_field rfl h.1 Try.underlying63 rfl sz61 (by decide) rfl) rfl,
    fun _ _ h => rv rfl (x_loadS rfl h.1 Try.underlying61 [.int .i64 o.att, .int .i64 o.ata] sz61 (blk_list (L := opc o A c) (blk_kx HBX1 h.2.1 (fun e => (blk_neT HBX1 HBX3 rfl) e)) 8 rfl)) rfl,
    fun _ _ h => rc hgrow rfl Try.func92 (by kernel_rfl) rfl rfl (args1 h.1) (toSt_calls o.att o.ata _) (fun _ _ h => ⟨_, h.1, h.2, rfl⟩),
    fun _ _ h => rv rfl (x_field rfl h.1 Try.underlying67 rfl sz65 (by decide) rfl) rfl,
    ?_, trivial⟩) ?_
  · rintro a_ W ⟨h3, h2, h9, -⟩
    exact rstoreS rfl rfl h3 h2 (by simp [Value.oneCell']) sz65 h9 rfl (blk_stored (cs := [.int .i64 o.att, .int .i64 o.ata]) 8 _ [.int .i64 o.actor, .int .i64 o.seq, .int .i64 o.time, .slice (some ⟨gt, 0, none⟩) o.deps.length o.deps.length, .int .i64 o.kind, .int .i64 o.obj, .int .i64 o.num, .int .i64 o.undo, .int .i64 0, .int .i64 0, .string ⟨#[]⟩, .string ⟨#[]⟩] h9 (of_decide_eq_true rfl)) ⟨fun h => h.sets rfl _ _, trivial⟩
  clear s1 s2 s3
  clear hN hD
  rintro a11 w11 hN hD ⟨MBX3, s1, s2, s3, hGR, -⟩
  have NB := Kx.below HB hGR HB.size (fun k e => by subst e; exact lg3)
  have NBX1 := blk_kx HBX1 hGR (fun e => (blk_neT HBX1 HBX3 rfl) e)
  have NBX2 := blk_kx HBX2 hGR (fun e => n_g2_g3 e)
  have NCgt : IB w11 gt o.deps 3 := blk_kx HCgt hGR (fun e => (blk_neT HCgt HBX3 rfl) e)
  replace HB := NB
  replace HBX1 := NBX1
  replace HBX2 := NBX2
  replace HCgt := NCgt
  clear NB NBX1 NBX2 NCgt
  replace HBX3 := MBX3
  clear MBX3
  clear hGR
  show Code.wp _ _ _ _ _
  refine wp_seq ?_
  refine deedL [.eq 33 (.pointer (some ⟨g1, 10, none⟩)), .eq 34 (.string o.key), .eq 35 (.pointer (some ⟨g3, 10, none⟩)), .w fun W => W.heap[g3]? = some (.cells ([.int .i64 o.actor, .int .i64 o.seq, .int .i64 o.time, .slice (some ⟨gt, 0, none⟩) o.deps.length o.deps.length, .int .i64 o.kind, .int .i64 o.obj, .int .i64 o.num, .int .i64 o.undo, .int .i64 o.att, .int .i64 o.ata, .string o.key, .string ⟨#[]⟩]).toArray 67 (0, 0)), .eq 1 (.pointer (some ⟨g1, 0, none⟩)), .eq 2 (.pointer (some ⟨g2, 0, none⟩)), .eq 3 (.pointer (some ⟨g3, 0, none⟩)), .w (Kx (fun k => k = g3) w11), .w fun W => W.heap[g3]? = some (.cells ([.int .i64 o.actor, .int .i64 o.seq, .int .i64 o.time, .slice (some ⟨gt, 0, none⟩) o.deps.length o.deps.length, .int .i64 o.kind, .int .i64 o.obj, .int .i64 o.num, .int .i64 o.undo, .int .i64 o.att, .int .i64 o.ata, .string ⟨#[]⟩, .string ⟨#[]⟩]).toArray 67 (0, 0))] 40 [[4], [0, 7], [6], [2, 1, 8]] [[], [], [], [8]] [3, 4, 5, 6, 7] hM hN hD (by kernel_rfl) ⟨s1, s2, s3, ⟨Kx.refl _ _, Kx.drew _ _⟩, ⟨HBX3, blk_below HBX3 (below_drew (Below.refl _ _))⟩, trivial⟩ ⟨fun _ _ hb h => blk_below h hb, fun _ _ hb h => h.step hb, fun _ _ hb h => blk_below h hb, trivial⟩ (fun hgrow => ⟨fun _ _ h => rv rfl (x_field rfl h.1 Try.underlying63 rfl sz9 (by decide) rfl) rfl,
    fun _ _ h => rv rfl (x_load1 rfl h.1 Try.underlying9 rfl (blk_one (L := opc o A c) (blk_kx HBX1 h.2.1 (fun e => (blk_neT HBX1 HBX3 rfl) e)) 10 rfl)) rfl,
    fun _ _ h => rv rfl (x_field rfl h.1 Try.underlying67 rfl sz9 (by decide) rfl) rfl,
    ?_, trivial⟩) ?_
  · rintro a_ W ⟨h2, h1, h8, -⟩
    exact rstore1 rfl rfl h2 h1 rfl sz9 (L := [.int .i64 o.actor, .int .i64 o.seq, .int .i64 o.time, .slice (some ⟨gt, 0, none⟩) o.deps.length o.deps.length, .int .i64 o.kind, .int .i64 o.obj, .int .i64 o.num, .int .i64 o.undo, .int .i64 o.att, .int .i64 o.ata, .string ⟨#[]⟩, .string ⟨#[]⟩]) (off := 10) h8 rfl (blk_setL h8 10 _) ⟨fun h => h.set rfl _ _, trivial⟩
  clear s1 s2 s3
  clear hN hD
  rintro a12 w12 hN hD ⟨MBX3, s1, s2, s3, hGR, -⟩
  have NB := Kx.below HB hGR HB.size (fun k e => by subst e; exact lg3)
  have NBX1 := blk_kx HBX1 hGR (fun e => (blk_neT HBX1 HBX3 rfl) e)
  have NBX2 := blk_kx HBX2 hGR (fun e => n_g2_g3 e)
  have NCgt : IB w12 gt o.deps 3 := blk_kx HCgt hGR (fun e => (blk_neT HCgt HBX3 rfl) e)
  replace HB := NB
  replace HBX1 := NBX1
  replace HBX2 := NBX2
  replace HCgt := NCgt
  clear NB NBX1 NBX2 NCgt
  replace HBX3 := MBX3
  clear MBX3
  clear hGR
  show Code.wp _ _ _ _ _
  refine wp_seq ?_
  refine deedL [.eq 36 (.pointer (some ⟨g1, 11, none⟩)), .eq 37 (.string o.text), .eq 38 (.pointer (some ⟨g3, 11, none⟩)), .w fun W => W.heap[g3]? = some (.cells ([.int .i64 o.actor, .int .i64 o.seq, .int .i64 o.time, .slice (some ⟨gt, 0, none⟩) o.deps.length o.deps.length, .int .i64 o.kind, .int .i64 o.obj, .int .i64 o.num, .int .i64 o.undo, .int .i64 o.att, .int .i64 o.ata, .string o.key, .string o.text]).toArray 67 (0, 0)), .eq 1 (.pointer (some ⟨g1, 0, none⟩)), .eq 2 (.pointer (some ⟨g2, 0, none⟩)), .eq 3 (.pointer (some ⟨g3, 0, none⟩)), .w (Kx (fun k => k = g3) w12), .w fun W => W.heap[g3]? = some (.cells ([.int .i64 o.actor, .int .i64 o.seq, .int .i64 o.time, .slice (some ⟨gt, 0, none⟩) o.deps.length o.deps.length, .int .i64 o.kind, .int .i64 o.obj, .int .i64 o.num, .int .i64 o.undo, .int .i64 o.att, .int .i64 o.ata, .string o.key, .string ⟨#[]⟩]).toArray 67 (0, 0))] 40 [[4], [0, 7], [6], [2, 1, 8]] [[], [], [], [8]] [3, 4, 5, 6, 7] hM hN hD (by kernel_rfl) ⟨s1, s2, s3, ⟨Kx.refl _ _, Kx.drew _ _⟩, ⟨HBX3, blk_below HBX3 (below_drew (Below.refl _ _))⟩, trivial⟩ ⟨fun _ _ hb h => blk_below h hb, fun _ _ hb h => h.step hb, fun _ _ hb h => blk_below h hb, trivial⟩ (fun hgrow => ⟨fun _ _ h => rv rfl (x_field rfl h.1 Try.underlying63 rfl sz9 (by decide) rfl) rfl,
    fun _ _ h => rv rfl (x_load1 rfl h.1 Try.underlying9 rfl (blk_one (L := opc o A c) (blk_kx HBX1 h.2.1 (fun e => (blk_neT HBX1 HBX3 rfl) e)) 11 rfl)) rfl,
    fun _ _ h => rv rfl (x_field rfl h.1 Try.underlying67 rfl sz9 (by decide) rfl) rfl,
    ?_, trivial⟩) ?_
  · rintro a_ W ⟨h2, h1, h8, -⟩
    exact rstore1 rfl rfl h2 h1 rfl sz9 (L := [.int .i64 o.actor, .int .i64 o.seq, .int .i64 o.time, .slice (some ⟨gt, 0, none⟩) o.deps.length o.deps.length, .int .i64 o.kind, .int .i64 o.obj, .int .i64 o.num, .int .i64 o.undo, .int .i64 o.att, .int .i64 o.ata, .string o.key, .string ⟨#[]⟩]) (off := 11) h8 rfl (blk_setL h8 11 _) ⟨fun h => h.set rfl _ _, trivial⟩
  clear s1 s2 s3
  clear hN hD
  rintro a13 w13 hN hD ⟨MBX3, s1, s2, s3, hGR, -⟩
  have NB := Kx.below HB hGR HB.size (fun k e => by subst e; exact lg3)
  have NBX1 := blk_kx HBX1 hGR (fun e => (blk_neT HBX1 HBX3 rfl) e)
  have NBX2 := blk_kx HBX2 hGR (fun e => n_g2_g3 e)
  have NCgt : IB w13 gt o.deps 3 := blk_kx HCgt hGR (fun e => (blk_neT HCgt HBX3 rfl) e)
  replace HB := NB
  replace HBX1 := NBX1
  replace HBX2 := NBX2
  replace HCgt := NCgt
  clear NB NBX1 NBX2 NCgt
  replace HBX3 := MBX3
  clear MBX3
  clear hGR
  show Code.wp _ _ _ _ _
  refine wp_seq ?_
  refine deedL [.eq 39 (.agg #[Value.int .i64 o.actor, Value.int .i64 o.seq, Value.int .i64 o.time, Value.slice (some ⟨gt, 0, none⟩) o.deps.length o.deps.length, Value.int .i64 o.kind, Value.int .i64 o.obj, Value.int .i64 o.num, Value.int .i64 o.undo, Value.int .i64 o.att, Value.int .i64 o.ata, Value.string o.key, Value.string o.text]), .w fun W => W.heap[g2]? = some (.cells ([.int .i64 o.actor, .int .i64 o.seq, .int .i64 o.time, .slice (some ⟨gt, 0, none⟩) o.deps.length o.deps.length, .int .i64 o.kind, .int .i64 o.obj, .int .i64 o.num, .int .i64 o.undo, .int .i64 o.att, .int .i64 o.ata, .string o.key, .string o.text]).toArray 67 (0, 0)), .eq 2 (.pointer (some ⟨g2, 0, none⟩)), .eq 3 (.pointer (some ⟨g3, 0, none⟩)), .w (Kx (fun k => k = g2) w13), .w fun W => W.heap[g2]? = some (.cells ([.int .i64 0, .int .i64 0, .int .i64 0, .slice none 0 0, .int .i64 0, .int .i64 0, .int .i64 0, .int .i64 0, .int .i64 0, .int .i64 0, .string ⟨#[]⟩, .string ⟨#[]⟩]).toArray 67 (0, 0))] 40 [[3, 4], [2, 0, 5]] [[], [5]] [1, 2, 3, 4] hM hN hD (by kernel_rfl) ⟨s2, s3, ⟨Kx.refl _ _, Kx.drew _ _⟩, ⟨HBX2, blk_below HBX2 (below_drew (Below.refl _ _))⟩, trivial⟩ ⟨fun _ _ hb h => blk_below h hb, fun _ _ hb h => h.step hb, fun _ _ hb h => blk_below h hb, trivial⟩ (fun hgrow => ⟨fun _ _ h => rv rfl (x_loadS rfl h.1 Try.underlying67 [.int .i64 o.actor, .int .i64 o.seq, .int .i64 o.time, .slice (some ⟨gt, 0, none⟩) o.deps.length o.deps.length, .int .i64 o.kind, .int .i64 o.obj, .int .i64 o.num, .int .i64 o.undo, .int .i64 o.att, .int .i64 o.ata, .string o.key, .string o.text] sz67 (blk_list (L := [.int .i64 o.actor, .int .i64 o.seq, .int .i64 o.time, .slice (some ⟨gt, 0, none⟩) o.deps.length o.deps.length, .int .i64 o.kind, .int .i64 o.obj, .int .i64 o.num, .int .i64 o.undo, .int .i64 o.att, .int .i64 o.ata, .string o.key, .string o.text]) (blk_kx HBX3 h.2.1 (fun e => (Ne.symm n_g2_g3) e)) 0 rfl)) rfl,
    ?_, trivial⟩) ?_
  · rintro a_ W ⟨h2, h0, h5, -⟩
    exact rstoreS rfl rfl h2 h0 (by simp [Value.oneCell']) sz67 h5 rfl (blk_stored (cs := [.int .i64 o.actor, .int .i64 o.seq, .int .i64 o.time, .slice (some ⟨gt, 0, none⟩) o.deps.length o.deps.length, .int .i64 o.kind, .int .i64 o.obj, .int .i64 o.num, .int .i64 o.undo, .int .i64 o.att, .int .i64 o.ata, .string o.key, .string o.text]) 0 _ [.int .i64 0, .int .i64 0, .int .i64 0, .slice none 0 0, .int .i64 0, .int .i64 0, .int .i64 0, .int .i64 0, .int .i64 0, .int .i64 0, .string ⟨#[]⟩, .string ⟨#[]⟩] h5 (of_decide_eq_true rfl)) ⟨fun h => h.sets rfl _ _, trivial⟩
  clear s1 s2 s3
  clear hN hD
  rintro a14 w14 hN hD ⟨MBX2, s2, s3, hGR, -⟩
  have NB := Kx.below HB hGR HB.size (fun k e => by subst e; exact lg2)
  have NBX1 := blk_kx HBX1 hGR (fun e => (blk_neT HBX1 HBX2 rfl) e)
  have NCgt : IB w14 gt o.deps 3 := blk_kx HCgt hGR (fun e => (blk_neT HCgt HBX2 rfl) e)
  have NBX3 := blk_kx HBX3 hGR (fun e => (Ne.symm n_g2_g3) e)
  replace HB := NB
  replace HBX1 := NBX1
  replace HCgt := NCgt
  replace HBX3 := NBX3
  clear NB NBX1 NCgt NBX3
  replace HBX2 := MBX2
  clear MBX2
  clear hGR
  show Code.wp _ _ _ _ _
  refine wp_ret ?_
  refine bodyPost_ret (results_single rfl (vcell s2 HBX2 Try.underlying67 rfl sz67 .nil)) hD ?_
  exact ⟨gt, rfl, lgt, HCgt, HB⟩
end Go.Proofs.Ytideafkiaipnoaa.Q

/- The book: a log taken apart, as it lies in memory. -/
namespace Go.Proofs.Ytideafkiaipnoaa.Q
set_option linter.unusedVariables false
set_option linter.unusedSimpArgs false
open Go Go.RowKit Go.Proofs.YtideafkiaipnoaaW.PrintWords Go.Proofs.YtideafkiaipnoaaW.PrintLast Go.Proofs.Ytideafkiaipnoaa.Deed

/-- An operation, and where its vector is. -/
structure LO where
  o : Op
  A : Option Addr
  c : Nat
instance : Inhabited LO := ⟨⟨default, none, 0⟩⟩
/-- A located operation's cells, its vector read in w. -/
def LoIn (w : World) (x : LO) (cs : List Value) : Prop := cs = opc x.o x.A x.c ∧ RI w x.A x.o.deps ∧ x.o.deps.length ≤ x.c
structure Bk where
  of : List (List LO)
  kind : List Int
  size : Int
  top : Int × Int

def bookCells (vs : List Value) (B : Bk) : List Value := vs ++ (B.kind.map (Value.int .i64) ++ [.int .i64 B.size, .int .i64 B.top.1, .int .i64 B.top.2])

/-- Two rows of the book are two blocks. -/
def Apart (vs : List Value) : Prop := ∀ (i j : Nat) (u v : Value), i ≠ j → vs[i]? = some u → vs[j]? = some v → NeRow u v

def Rows (w0 : World) (ok : Nat → Prop) (w : World) (vs : List Value) (of : List (List LO)) : Prop :=
  ∀ (i : Nat) (v : Value) (ps : List LO), vs[i]? = some v → of[i]? = some ps → OwnRow (LoIn w0) 67 12 w 0 v ps ∧ ∀ k, v.ownBlock = some k → ok k

/-- The book B lies at g; w0: the world in which its operations' vectors are read; ok: its blocks. -/
structure BookAt (w0 : World) (ok : Nat → Prop) (w : World) (g : Nat) (vs : List Value) (B : Bk) : Prop where
  okg : ok g
  lvs : vs.length = 16
  lof : B.of.length = 16
  lkind : B.kind.length = 101
  blk : w.heap[g]? = some (.cells (bookCells vs B).toArray 75 (0, 0))
  rows : Rows w0 ok w vs B.of
  apart : Apart vs

theorem bc_of {vs : List Value} {B : Bk} {i : Nat} (h : i < vs.length) : (bookCells vs B)[i]? = vs[i]? := by
  unfold bookCells
  rw [List.getElem?_append_left h]
theorem bc_kind {vs : List Value} {B : Bk} (h : vs.length = 16) {i : Nat} (hi : i < B.kind.length) : (bookCells vs B)[16 + i]? = some (.int .i64 (B.kind.getD i 0)) := by
  unfold bookCells
  rw [List.getElem?_append_right (by omega), List.getElem?_append_left (by simp; omega)]
  simp [h, List.getD_eq_getElem?_getD, hi]
theorem bc_tail {vs : List Value} {B : Bk} (h : vs.length = 16) (hk : B.kind.length = 101) (i : Nat) : (bookCells vs B)[117 + i]? = [Value.int .i64 B.size, .int .i64 B.top.1, .int .i64 B.top.2][i]? := by
  unfold bookCells
  rw [List.getElem?_append_right (by omega), List.getElem?_append_right (by simp; omega)]
  congr 1
  simp
  omega
section
variable {w0 w w' : World} {ok ok' : Nat → Prop} {g : Nat} {vs : List Value} {B : Bk}
theorem BookAt.cell (h : BookAt w0 ok w g vs B) (i : Nat) : w.cell? ⟨g, i, none⟩ = (bookCells vs B)[i]? := by
  rw [blk_cell h.blk]
  simp
theorem BookAt.free (h : BookAt w0 ok w g vs B) (i : Nat) : w.frozen? ⟨g, i, none⟩ = false := blk_frozen h.blk i
theorem BookAt.cof (h : BookAt w0 ok w g vs B) {i : Nat} (hi : i < 16) : w.cell? ⟨g, i, none⟩ = some (vs.getD i undef) := by
  rw [h.cell, bc_of (by rw [h.lvs]; exact hi)]
  simp [List.getD_eq_getElem?_getD, h.lvs, hi]
theorem BookAt.ckind (h : BookAt w0 ok w g vs B) {i : Nat} (hi : i < 101) : w.cell? ⟨g, 16 + i, none⟩ = some (.int .i64 (B.kind.getD i 0)) := by
  rw [h.cell, bc_kind h.lvs (by rw [h.lkind]; exact hi)]
theorem BookAt.csize (h : BookAt w0 ok w g vs B) : w.cell? ⟨g, 117, none⟩ = some (.int .i64 B.size) := by
  rw [h.cell, show 117 = 117 + 0 from rfl, bc_tail h.lvs h.lkind]; rfl
theorem BookAt.ctop0 (h : BookAt w0 ok w g vs B) : w.cell? ⟨g, 118, none⟩ = some (.int .i64 B.top.1) := by
  rw [h.cell, show 118 = 117 + 1 from rfl, bc_tail h.lvs h.lkind]; rfl
theorem BookAt.ctop1 (h : BookAt w0 ok w g vs B) : w.cell? ⟨g, 119, none⟩ = some (.int .i64 B.top.2) := by
  rw [h.cell, show 119 = 117 + 2 from rfl, bc_tail h.lvs h.lkind]; rfl
theorem BookAt.lt (h : BookAt w0 ok w g vs B) : g < w.heap.size := blk_lt h.blk
theorem BookAt.row (h : BookAt w0 ok w g vs B) {i : Nat} (hi : i < 16) : OwnRow (LoIn w0) 67 12 w 0 (vs.getD i undef) (B.of.getD i []) ∧ ∀ k, (vs.getD i undef).ownBlock = some k → ok k :=
  h.rows i _ _ (by simp [List.getD_eq_getElem?_getD, h.lvs, hi]) (by simp [List.getD_eq_getElem?_getD, h.lof, hi])
/-- What leaves the book's blocks alone leaves the book. -/
theorem BookAt.kept {S : Nat → Prop} (h : BookAt w0 ok w g vs B) (hk : Kept w w' S) (hS : ∀ k, ok k → ¬ S k) : BookAt w0 ok w' g vs B := by
  refine ⟨h.okg, h.lvs, h.lof, h.lkind, (hk.2 g h.lt (hS g h.okg)).trans h.blk, ?_, h.apart⟩
  intro i v ps hv hps
  obtain ⟨⟨inner, ho, hr⟩, hok⟩ := h.rows i v ps hv hps
  exact ⟨⟨inner, own_move ho (fun k hk' => hk.2 k (own_lt ho k hk') (hS k (hok k hk'))), hr⟩, hok⟩
theorem BookAt.below (h : BookAt w0 ok w g vs B) (hb : Below w.heap.size w w') : BookAt w0 ok w' g vs B := h.kept (S := fun _ => False) (Kept.of_below hb _) (fun _ _ h => h)
theorem BookAt.imp (h : BookAt w0 ok w g vs B) (hok : ∀ k, ok k → ok' k) : BookAt w0 ok' w g vs B :=
  ⟨hok g h.okg, h.lvs, h.lof, h.lkind, h.blk, fun i v ps hv hps => ⟨(h.rows i v ps hv hps).1, fun k hk => hok k ((h.rows i v ps hv hps).2 k hk)⟩, h.apart⟩
/-- The row a is v1 already, the book's cell still the old one. -/
structure Mid (w0 : World) (ok : Nat → Prop) (w : World) (g : Nat) (vs : List Value) (B : Bk) (a : Nat) (v1 : Value) (ps : List LO) : Prop where
  okg : ok g
  lvs : vs.length = 16
  lof : B.of.length = 16
  lkind : B.kind.length = 101
  blk : w.heap[g]? = some (.cells (bookCells vs B).toArray 75 (0, 0))
  rows : Rows w0 ok w (vs.set a v1) (B.of.set a ps)
  apart : Apart (vs.set a v1)
  slice : ∃ A n c, v1 = .slice A n c
theorem BookAt.mid (h : BookAt w0 ok w g vs B) {a : Nat} (ha : a < 16) {v1 : Value} {ps : List LO} (hr : OwnRow (LoIn w0) 67 12 w' 0 v1 ps) (hg : w.grownBy w' (vs.getD a undef).ownBlock)
    (hat : v1.ownBlock = (vs.getD a undef).ownBlock ∨ v1.ownBlock = some w.heap.size) {N : Nat} (hN : N ≤ w.heap.size) : Mid w0 (fun k => ok k ∨ N ≤ k) w' g vs B a v1 ps := by
  obtain ⟨hra, hoka⟩ := h.row ha
  have hga : some g ≠ (vs.getD a undef).ownBlock := hra.ne_block h.blk (by decide)
  have hva : vs[a]? = some (vs.getD a undef) := by simp [List.getD_eq_getElem?_getD, h.lvs, ha]
  refine ⟨.inl h.okg, h.lvs, h.lof, h.lkind, (hg.block g h.lt hga).trans h.blk, ?_, ?_, ?_⟩
  · intro i v ps' hv hps
    by_cases hi : i = a
    · subst hi
      rw [List.getElem?_set_self (by rw [h.lvs]; exact ha)] at hv
      rw [List.getElem?_set_self (by rw [h.lof]; exact ha)] at hps
      cases hv
      cases hps
      refine ⟨hr, fun k hk => ?_⟩
      rcases hat with e | e
      · exact .inl (hoka k (e ▸ hk))
      · rw [e] at hk
        injection hk with hk
        exact .inr (by omega)
    · rw [List.getElem?_set_ne (Ne.symm hi)] at hv hps
      obtain ⟨ho, hok⟩ := h.rows i v ps' hv hps
      exact ⟨ho.other hg (ne_other (h.apart a i _ _ (Ne.symm hi) hva hv)), fun k hk => .inl (hok k hk)⟩
  · have hv1 : ∀ i u, i ≠ a → vs[i]? = some u → NeRow v1 u := by
      intro i u hi hu k hk hk'
      rcases hat with e | e
      · exact h.apart a i _ _ (Ne.symm hi) hva hu k (e ▸ hk) hk'
      · rw [e] at hk
        injection hk with hk
        have hil : i < 16 := by have := (List.getElem?_eq_some_iff.1 hu).1; rw [h.lvs] at this; exact this
        obtain ⟨⟨inner, ho, _⟩, _⟩ := h.rows i u (B.of.getD i []) hu (by simp [List.getD_eq_getElem?_getD, h.lof, hil])
        have := own_lt ho k hk'
        omega
    intro i j u v hij hu hv
    by_cases hi : i = a
    · subst hi
      rw [List.getElem?_set_self (by rw [h.lvs]; exact ha)] at hu
      rw [List.getElem?_set_ne hij] at hv
      cases hu
      exact hv1 j v (Ne.symm hij) hv
    · rw [List.getElem?_set_ne (Ne.symm hi)] at hu
      by_cases hj : j = a
      · subst hj
        rw [List.getElem?_set_self (by rw [h.lvs]; exact ha)] at hv
        cases hv
        exact ne_symm (hv1 i u hi hu)
      · rw [List.getElem?_set_ne (Ne.symm hj)] at hv
        exact h.apart i j u v hij hu hv
  · obtain ⟨A, c, e, _⟩ := hr.slice_
    exact ⟨A, _, c, e⟩
theorem Rows.set_cell {of : List (List LO)} (h : Rows w0 ok w vs of) {cells : Array Value} (hb : w.heap[g]? = some (.cells cells 75 (0, 0))) (i : Nat) (u : Value) : Rows w0 ok (w.setCell ⟨g, i, none⟩ u) vs of :=
  fun j v ps hv hps => ⟨(h j v ps hv hps).1.set_ hb (by decide) i u, (h j v ps hv hps).2⟩
theorem Mid.store {a : Nat} {v1 : Value} {ps : List LO} (h : Mid w0 ok w g vs B a v1 ps) (ha : a < 16) : BookAt w0 ok (w.setCell ⟨g, a, none⟩ v1) g (vs.set a v1) { B with of := B.of.set a ps } := by
  refine ⟨h.okg, by simpa using h.lvs, by simpa using h.lof, h.lkind, ?_, h.rows.set_cell h.blk _ _, h.apart⟩
  have := blk_set h.blk a v1
  rw [this]
  congr 2
  rw [List.setIfInBounds_toArray]
  congr 1
  unfold bookCells
  rw [List.set_append_left _ _ (by rw [h.lvs]; exact ha)]
theorem Mid.cof {a : Nat} {v1 : Value} {ps : List LO} (h : Mid w0 ok w g vs B a v1 ps) (ha : a < 16) : w.cell? ⟨g, a, none⟩ = some (vs.getD a undef) := by
  rw [blk_cell h.blk]
  simp [bc_of (show a < vs.length by rw [h.lvs]; exact ha), List.getD_eq_getElem?_getD, h.lvs, ha]
theorem Mid.below {a : Nat} {v1 : Value} {ps : List LO} (h : Mid w0 ok w g vs B a v1 ps) (hb : Below w.heap.size w w') : Mid w0 ok w' g vs B a v1 ps :=
  ⟨h.okg, h.lvs, h.lof, h.lkind, blk_below h.blk hb, fun i v ps hv hps => ⟨by
    obtain ⟨⟨inner, ho, hr⟩, _⟩ := h.rows i v ps hv hps
    exact ⟨inner, own_move ho (fun k hk => hb.block k (own_lt ho k hk)), hr⟩, (h.rows i v ps hv hps).2⟩, h.apart, h.slice⟩
theorem BookAt.setKind (h : BookAt w0 ok w g vs B) {i : Nat} (hi : i < 101) (x : Int) : BookAt w0 ok (w.setCell ⟨g, 16 + i, none⟩ (.int .i64 x)) g vs { B with kind := B.kind.set i x } := by
  refine ⟨h.okg, h.lvs, h.lof, by simpa using h.lkind, ?_, h.rows.set_cell h.blk _ _, h.apart⟩
  have := blk_set h.blk (16 + i) (.int .i64 x)
  rw [this]
  congr 2
  rw [List.setIfInBounds_toArray]
  congr 1
  unfold bookCells
  rw [List.set_append_right _ _ (by rw [h.lvs]; omega), h.lvs, show 16 + i - 16 = i by omega, List.set_append_left _ _ (by simp [h.lkind]; omega)]
  simp [List.map_set]
theorem BookAt.setSize (h : BookAt w0 ok w g vs B) (x : Int) : BookAt w0 ok (w.setCell ⟨g, 117, none⟩ (.int .i64 x)) g vs { B with size := x } := by
  refine ⟨h.okg, h.lvs, h.lof, h.lkind, ?_, h.rows.set_cell h.blk _ _, h.apart⟩
  have := blk_set h.blk 117 (.int .i64 x)
  rw [this]
  congr 2
  rw [List.setIfInBounds_toArray]
  congr 1
  unfold bookCells
  rw [List.set_append_right _ _ (by rw [h.lvs]; omega), h.lvs, List.set_append_right _ _ (by simp [h.lkind])]
  simp [h.lkind]
theorem set_tail {vs K T : List Value} (h : vs.length = 16) (hk : K.length = 101) (i : Nat) (x : Value) : (vs ++ (K ++ T)).set (117 + i) x = vs ++ (K ++ T.set i x) := by
  rw [List.set_append_right _ _ (by omega), List.set_append_right _ _ (by omega)]
  congr 3
  omega
theorem BookAt.setTop (h : BookAt w0 ok w g vs B) (x y : Int) : BookAt w0 ok (w.setCells g 118 [.int .i64 x, .int .i64 y]) g vs { B with top := (x, y) } := by
  have h1 := blk_set h.blk 118 (.int .i64 x)
  have h2 := blk_set h1 119 (.int .i64 y)
  have r1 := h.rows.set_cell h.blk 118 (.int .i64 x)
  refine ⟨h.okg, h.lvs, h.lof, h.lkind, ?_, ?_, h.apart⟩
  · show ((w.setCell ⟨g, 118, none⟩ (.int .i64 x)).setCell ⟨g, 119, none⟩ (.int .i64 y)).heap[g]? = _
    rw [h2]
    congr 2
    rw [List.setIfInBounds_toArray, List.setIfInBounds_toArray]
    congr 1
    unfold bookCells
    rw [show 118 = 117 + 1 from rfl, set_tail h.lvs (by simp [h.lkind])]
    show (vs ++ _).set (117 + 2) _ = _
    rw [set_tail h.lvs (by simp [h.lkind])]
    rfl
  · exact r1.set_cell h1 119 (.int .i64 y)
theorem BookAt.ctop (h : BookAt w0 ok w g vs B) : ∀ (j : Nat) (u : Value), [Value.int .i64 B.top.1, .int .i64 B.top.2][j]? = some u → w.cell? ((⟨g, 118, none⟩ : Addr).add j) = some u := by
  intro j u hu
  rw [add_mk, h.cell, show 118 + j = 117 + (1 + j) by omega, bc_tail h.lvs h.lkind]
  rw [show 1 + j = j + 1 by omega, List.getElem?_cons_succ]
  exact hu
end
end Go.Proofs.Ytideafkiaipnoaa.Q

/- The operations' small functions. -/
namespace Go.Proofs.Ytideafkiaipnoaa.Q
open Go Go.RowKit Go.Proofs.YtideafkiaipnoaaW.PrintWords Go.Proofs.YtideafkiaipnoaaW.PrintLast Go.Proofs.Ytideafkiaipnoaa.Deed
abbrev stc (p : Int × Int) : List Value := [.int .i64 p.1, .int .i64 p.2]
def thing (o : Op) : Int := if o.kind = 3 then 2 else o.kind
def less (a b : Int × Int) : Bool := if a.1 = b.1 then decide (a.2 < b.2) else decide (a.1 < b.1)
def stampOf (o : Op) : Int × Int := (o.time, o.actor)
set_option maxRecDepth 100000
theorem thing_calls (o : Op) (A3 : Option Addr) (c3 : Nat) (w : World) : Calls Try.prog 93 #[.agg (opc o A3 c3).toArray] w fun e w' => e = .returned (.int .i64 (thing o)) ∧ Below w.heap.size w w' := by
  refine calls_of_wp Try.func93 rfl ?_
  refine enter_ (N := 8) rfl ?_
  rintro a0 hN hD ⟨s0, -⟩
  have HB : Below w.heap.size w w := Below.refl _ _
  refine wp_seq ?_
  refine deedL [.s1 1 (NewB w.heap.size (opc o A3 c3) 67), .eq 2 (.int .i64 0), .eq 0 (.agg (opc o A3 c3).toArray), .w (Below w.heap.size w)] 8 [[3, 2], []] [] [0, 2, 3] hM hN hD (by kernel_rfl) ⟨s0, ⟨Below.refl _ _, below_drew (Below.refl _ _)⟩, trivial⟩ ⟨fun _ _ _ hb h => h.grow hb, fun _ _ hb h => below_step h hb, trivial⟩ (fun hgrow => ⟨fun _ _ h => rbox hgrow rfl (x_box rfl h.2.1) h.1.size (fun _ _ z => z),
    fun _ _ _ => rv rfl (x_assign rfl rfl) rfl, trivial⟩) ?_
  clear s0
  clear hN hD
  rintro a1 w1 hN hD ⟨⟨g1, s1, lg1, HBX1⟩, s0, hGR, -⟩
  replace HB := below_step HB hGR
  clear hGR
  show Code.wp _ _ _ _ _
  refine wp_seq ?_
  refine wp_seq ?_
  refine deedL [.eq 3 (.pointer (some ⟨g1, 4, none⟩)), .eq 4 (.int .i64 o.kind), .eq 5 (.bool (o.kind == 3)), .eq 1 (.pointer (some ⟨g1, 0, none⟩)), .w (Below w1.heap.size w1)] 8 [[3], [0, 4], [1]] [] [2, 3, 4] hM hN hD (by kernel_rfl) ⟨s1, ⟨Below.refl _ _, below_drew (Below.refl _ _)⟩, trivial⟩ ⟨fun _ _ hb h => below_step h hb, trivial⟩ (fun hgrow => ⟨fun _ _ h => rv rfl (x_field rfl h.1 Try.underlying67 rfl sz3 (by decide) rfl) rfl,
    fun _ _ h => rv rfl (x_load1 rfl h.1 Try.underlying3 rfl (blk_one (L := opc o A3 c3) (blk_below HBX1 h.2.1) 4 rfl)) rfl,
    fun _ _ h => rv rfl (x_eql rfl h.1 rfl) rfl, trivial⟩) ?_
  clear s0 s1
  clear hN hD
  rintro a2 w2 hN hD ⟨s5, s1, hGR, -⟩
  replace HB := below_step HB hGR
  replace HBX1 := blk_below HBX1 hGR
  clear hGR
  show Code.wp _ _ _ _ _
  refine wp_cond (t := o.kind == 3) s5 ?_
  rcases Bool.eq_false_or_eq_true (o.kind == 3) with cd3 | cd3
  · rw [cd3]
    show Code.wp _ _ _ _ _
    have pd3 := eq_of_beq cd3
    refine wp_seq ?_
    refine deedL [.eq 2 (.int .i64 2), .w (Below w2.heap.size w2)] 8 [[]] [] [0, 1] hM hN hD (by kernel_rfl) ⟨⟨Below.refl _ _, below_drew (Below.refl _ _)⟩, trivial⟩ ⟨fun _ _ hb h => below_step h hb, trivial⟩ (fun hgrow => ⟨fun _ _ _ => rv rfl (x_assign rfl rfl) rfl, trivial⟩) ?_
    clear s1 s5
    clear hN hD
    rintro a4 w4 hN hD ⟨s2, hGR, -⟩
    replace HB := below_step HB hGR
    replace HBX1 := blk_below HBX1 hGR
    clear hGR
    show Code.wp _ _ _ _ _
    refine wp_ret (then_ret ?_)
    refine bodyPost_ret (results_single rfl (vtmp s2 .nil)) hD ?_
    exact ⟨by simp_all [thing], HB⟩
  · rw [cd3]
    show Code.wp _ _ _ _ _
    have pd3 := ne_of_beq_false cd3
    refine wp_skip ?_
    show Code.wp _ _ _ _ _
    refine wp_seq ?_
    refine deedL [.eq 6 (.pointer (some ⟨g1, 4, none⟩)), .eq 7 (.int .i64 o.kind), .eq 2 (.int .i64 o.kind), .eq 1 (.pointer (some ⟨g1, 0, none⟩)), .w (Below w2.heap.size w2)] 8 [[3], [0, 4], [1]] [] [2, 3, 4] hM hN hD (by kernel_rfl) ⟨s1, ⟨Below.refl _ _, below_drew (Below.refl _ _)⟩, trivial⟩ ⟨fun _ _ hb h => below_step h hb, trivial⟩ (fun hgrow => ⟨fun _ _ h => rv rfl (x_field rfl h.1 Try.underlying67 rfl sz3 (by decide) rfl) rfl,
      fun _ _ h => rv rfl (x_load1 rfl h.1 Try.underlying3 rfl (blk_one (L := opc o A3 c3) (blk_below HBX1 h.2.1) 4 rfl)) rfl,
      fun _ _ h => rv rfl (x_assign rfl h.1) rfl, trivial⟩) ?_
    clear s1 s5
    clear hN hD
    rintro a5 w5 hN hD ⟨s2, s1, hGR, -⟩
    replace HB := below_step HB hGR
    replace HBX1 := blk_below HBX1 hGR
    clear hGR
    show Code.wp _ _ _ _ _
    refine wp_ret ?_
    refine bodyPost_ret (results_single rfl (vtmp s2 .nil)) hD ?_
    exact ⟨by simp_all [thing], HB⟩
theorem stamp_calls (o : Op) (A3 : Option Addr) (c3 : Nat) (w : World) : Calls Try.prog 95 #[.agg (opc o A3 c3).toArray] w fun e w' => e = .returned (.agg (stc (stampOf o)).toArray) ∧ Below w.heap.size w w' := by
  refine calls_of_wp Try.func95 rfl ?_
  refine enter_ (N := 8) rfl ?_
  rintro a0 hN hD ⟨s0, -⟩
  have HB : Below w.heap.size w w := Below.refl _ _
  refine wp_seq ?_
  refine deedL [.s1 1 (NewB w.heap.size (opc o A3 c3) 67), .s1 2 (NewB w.heap.size [.int .i64 0, .int .i64 0] 65), .eq 0 (.agg (opc o A3 c3).toArray), .w (Below w.heap.size w)] 8 [[3, 2], [3]] [] [0, 1, 2, 3] hM hN hD (by kernel_rfl) ⟨s0, ⟨Below.refl _ _, below_drew (Below.refl _ _)⟩, trivial⟩ ⟨fun _ _ _ hb h => h.grow hb, fun _ _ _ hb h => h.grow hb, fun _ _ hb h => below_step h hb, trivial⟩ (fun hgrow => ⟨fun _ _ h => rbox hgrow rfl (x_box rfl h.2.1) h.1.size (fun _ _ z => z),
    fun _ _ h => rbox hgrow rfl (x_alloc rfl zr65) h.1.size (fun _ _ z => z), trivial⟩) ?_
  clear s0
  clear hN hD
  rintro a1 w1 hN hD ⟨⟨g1, s1, lg1, HBX1⟩, ⟨g2, s2, lg2, HBX2⟩, s0, hGR, -⟩
  replace HB := below_step HB hGR
  clear hGR
  show Code.wp _ _ _ _ _
  refine wp_seq ?_
  refine deedL [.eq 3 (.pointer (some ⟨g1, 2, none⟩)), .eq 4 (.int .i64 o.time), .eq 5 (.pointer (some ⟨g1, 0, none⟩)), .eq 6 (.int .i64 o.actor), .eq 7 (.agg #[Value.int .i64 o.time, Value.int .i64 o.actor]), .w fun W => W.heap[g2]? = some (.cells ([.int .i64 o.time, .int .i64 o.actor]).toArray 65 (0, 0)), .eq 1 (.pointer (some ⟨g1, 0, none⟩)), .eq 2 (.pointer (some ⟨g2, 0, none⟩)), .w (Kx (fun k => k = g2) w1), .w fun W => W.heap[g2]? = some (.cells ([.int .i64 0, .int .i64 0]).toArray 65 (0, 0))] 8 [[6], [0, 8], [6], [2, 8], [1, 3], [7, 4, 9]] [[], [], [], [], [], [9]] [5, 6, 7, 8] hM hN hD (by kernel_rfl) ⟨s1, s2, ⟨Kx.refl _ _, Kx.drew _ _⟩, ⟨HBX2, blk_below HBX2 (below_drew (Below.refl _ _))⟩, trivial⟩ ⟨fun _ _ hb h => blk_below h hb, fun _ _ hb h => h.step hb, fun _ _ hb h => blk_below h hb, trivial⟩ (fun hgrow => ⟨fun _ _ h => rv rfl (x_field rfl h.1 Try.underlying67 rfl sz3 (by decide) rfl) rfl,
    fun _ _ h => rv rfl (x_load1 rfl h.1 Try.underlying3 rfl (blk_one (L := opc o A3 c3) (blk_kx HBX1 h.2.1 (fun e => (blk_neT HBX1 HBX2 rfl) e)) 2 rfl)) rfl,
    fun _ _ h => rv rfl (x_field rfl h.1 Try.underlying67 rfl sz3 (by decide) rfl) rfl,
    fun _ _ h => rv rfl (x_load1 rfl h.1 Try.underlying3 rfl (blk_one (L := opc o A3 c3) (blk_kx HBX1 h.2.1 (fun e => (blk_neT HBX1 HBX2 rfl) e)) 0 rfl)) rfl,
    fun _ _ h => rv rfl (x_build rfl Try.underlying65 zr65 bp65 (bcons h.1 (bcons h.2.1 rfl)) (by kernel_rfl) (ps := [(0, _), (1, _)]) (vs := [(0, .int .i64 o.time), (1, .int .i64 o.actor)]) (L := [.int .i64 o.time, .int .i64 o.actor])) rfl,
    ?_, trivial⟩) ?_
  · rintro a_ W ⟨h7, h4, h9, -⟩
    exact rstoreS rfl rfl h7 h4 (by simp [Value.oneCell']) sz65 h9 rfl (blk_stored (cs := [.int .i64 o.time, .int .i64 o.actor]) 0 _ [.int .i64 0, .int .i64 0] h9 (of_decide_eq_true rfl)) ⟨fun h => h.sets rfl _ _, trivial⟩
  clear s0 s1 s2
  clear hN hD
  rintro a2 w2 hN hD ⟨MBX2, s1, s2, hGR, -⟩
  have NB := Kx.below HB hGR HB.size (fun k e => by subst e; exact lg2)
  have NBX1 := blk_kx HBX1 hGR (fun e => (blk_neT HBX1 HBX2 rfl) e)
  replace HB := NB
  replace HBX1 := NBX1
  clear NB NBX1
  replace HBX2 := MBX2
  clear MBX2
  clear hGR
  show Code.wp _ _ _ _ _
  refine wp_ret ?_
  refine bodyPost_ret (results_single rfl (vcell s2 HBX2 Try.underlying65 rfl sz65 .nil)) hD ?_
  exact ⟨rfl, HB⟩
theorem less_calls (a b : Int × Int) (w : World) : Calls Try.prog 94 #[.agg (stc a).toArray, .agg (stc b).toArray] w fun e w' => e = .returned (.bool (less a b)) ∧ Below w.heap.size w w' := by
  refine calls_of_wp Try.func94 rfl ?_
  refine enter_ (N := 20) rfl ?_
  rintro a0 hN hD ⟨s0, s1, -⟩
  have HB : Below w.heap.size w w := Below.refl _ _
  refine wp_seq ?_
  refine deedL [.s1 2 (NewB w.heap.size (stc a) 65), .s1 3 (NewB w.heap.size (stc b) 65), .eq 4 (.bool false), .eq 0 (.agg (stc a).toArray), .eq 1 (.agg (stc b).toArray), .w (Below w.heap.size w)] 20 [[5, 3], [5, 4], []] [] [0, 1, 3, 4, 5] hM hN hD (by kernel_rfl) ⟨s0, s1, ⟨Below.refl _ _, below_drew (Below.refl _ _)⟩, trivial⟩ ⟨fun _ _ _ hb h => h.grow hb, fun _ _ _ hb h => h.grow hb, fun _ _ hb h => below_step h hb, trivial⟩ (fun hgrow => ⟨fun _ _ h => rbox hgrow rfl (x_box rfl h.2.1) h.1.size (fun _ _ z => z),
    fun _ _ h => rbox hgrow rfl (x_box rfl h.2.1) h.1.size (fun _ _ z => z),
    fun _ _ _ => rv rfl (x_assign rfl rfl) rfl, trivial⟩) ?_
  clear s0 s1
  clear hN hD
  rintro a1 w1 hN hD ⟨⟨g2, s2, lg2, HBX2⟩, ⟨g3, s3, lg3, HBX3⟩, s0, s1, hGR, -⟩
  replace HB := below_step HB hGR
  clear hGR
  show Code.wp _ _ _ _ _
  refine wp_seq ?_
  refine wp_seq ?_
  refine deedL [.eq 5 (.pointer (some ⟨g2, 0, none⟩)), .eq 6 (.int .i64 a.1), .eq 7 (.pointer (some ⟨g3, 0, none⟩)), .eq 8 (.int .i64 b.1), .eq 9 (.bool (a.1 != b.1)), .eq 2 (.pointer (some ⟨g2, 0, none⟩)), .eq 3 (.pointer (some ⟨g3, 0, none⟩)), .w (Below w1.heap.size w1)] 20 [[5], [0, 7], [6], [2, 7], [1, 3]] [] [4, 5, 6, 7] hM hN hD (by kernel_rfl) ⟨s2, s3, ⟨Below.refl _ _, below_drew (Below.refl _ _)⟩, trivial⟩ ⟨fun _ _ hb h => below_step h hb, trivial⟩ (fun hgrow => ⟨fun _ _ h => rv rfl (x_field rfl h.1 Try.underlying65 rfl sz3 (by decide) rfl) rfl,
    fun _ _ h => rv rfl (x_load1 rfl h.1 Try.underlying3 rfl (blk_one (L := stc a) (blk_below HBX2 h.2.1) 0 rfl)) rfl,
    fun _ _ h => rv rfl (x_field rfl h.1 Try.underlying65 rfl sz3 (by decide) rfl) rfl,
    fun _ _ h => rv rfl (x_load1 rfl h.1 Try.underlying3 rfl (blk_one (L := stc b) (blk_below HBX3 h.2.1) 0 rfl)) rfl,
    fun _ _ h => rv rfl (x_neq rfl h.1 h.2.1) rfl, trivial⟩) ?_
  clear s0 s1 s2 s3
  clear hN hD
  rintro a2 w2 hN hD ⟨s9, s2, s3, hGR, -⟩
  replace HB := below_step HB hGR
  replace HBX2 := blk_below HBX2 hGR
  replace HBX3 := blk_below HBX3 hGR
  clear hGR
  show Code.wp _ _ _ _ _
  refine wp_cond (t := a.1 != b.1) s9 ?_
  rcases Bool.eq_false_or_eq_true (a.1 != b.1) with cd3 | cd3
  · rw [cd3]
    show Code.wp _ _ _ _ _
    have pd3 := cd3
    simp at pd3
    refine wp_seq ?_
    refine deedL [.eq 10 (.pointer (some ⟨g2, 0, none⟩)), .eq 11 (.int .i64 a.1), .eq 12 (.pointer (some ⟨g3, 0, none⟩)), .eq 13 (.int .i64 b.1), .eq 14 (.bool (decide (a.1 < b.1))), .eq 4 (.bool (decide (a.1 < b.1))), .eq 2 (.pointer (some ⟨g2, 0, none⟩)), .eq 3 (.pointer (some ⟨g3, 0, none⟩)), .w (Below w2.heap.size w2)] 20 [[6], [0, 8], [7], [2, 8], [1, 3], [4]] [] [5, 6, 7, 8] hM hN hD (by kernel_rfl) ⟨s2, s3, ⟨Below.refl _ _, below_drew (Below.refl _ _)⟩, trivial⟩ ⟨fun _ _ hb h => below_step h hb, trivial⟩ (fun hgrow => ⟨fun _ _ h => rv rfl (x_field rfl h.1 Try.underlying65 rfl sz3 (by decide) rfl) rfl,
      fun _ _ h => rv rfl (x_load1 rfl h.1 Try.underlying3 rfl (blk_one (L := stc a) (blk_below HBX2 h.2.1) 0 rfl)) rfl,
      fun _ _ h => rv rfl (x_field rfl h.1 Try.underlying65 rfl sz3 (by decide) rfl) rfl,
      fun _ _ h => rv rfl (x_load1 rfl h.1 Try.underlying3 rfl (blk_one (L := stc b) (blk_below HBX3 h.2.1) 0 rfl)) rfl,
      fun _ _ h => rv rfl (x_lss rfl h.1 h.2.1) rfl,
      fun _ _ h => rv rfl (x_assign rfl h.1) rfl, trivial⟩) ?_
    clear s2 s3 s9
    clear hN hD
    rintro a4 w4 hN hD ⟨s4, s2, s3, hGR, -⟩
    replace HB := below_step HB hGR
    replace HBX2 := blk_below HBX2 hGR
    replace HBX3 := blk_below HBX3 hGR
    clear hGR
    show Code.wp _ _ _ _ _
    refine wp_ret (then_ret ?_)
    refine bodyPost_ret (results_single rfl (vtmp s4 .nil)) hD ?_
    exact ⟨by simp_all [less], HB⟩
  · rw [cd3]
    show Code.wp _ _ _ _ _
    have pd3 := cd3
    simp at pd3
    refine wp_skip ?_
    show Code.wp _ _ _ _ _
    refine wp_seq ?_
    refine deedL [.eq 15 (.pointer (some ⟨g2, 1, none⟩)), .eq 16 (.int .i64 a.2), .eq 17 (.pointer (some ⟨g3, 1, none⟩)), .eq 18 (.int .i64 b.2), .eq 19 (.bool (decide (a.2 < b.2))), .eq 4 (.bool (decide (a.2 < b.2))), .eq 2 (.pointer (some ⟨g2, 0, none⟩)), .eq 3 (.pointer (some ⟨g3, 0, none⟩)), .w (Below w2.heap.size w2)] 20 [[6], [0, 8], [7], [2, 8], [1, 3], [4]] [] [5, 6, 7, 8] hM hN hD (by kernel_rfl) ⟨s2, s3, ⟨Below.refl _ _, below_drew (Below.refl _ _)⟩, trivial⟩ ⟨fun _ _ hb h => below_step h hb, trivial⟩ (fun hgrow => ⟨fun _ _ h => rv rfl (x_field rfl h.1 Try.underlying65 rfl sz3 (by decide) rfl) rfl,
      fun _ _ h => rv rfl (x_load1 rfl h.1 Try.underlying3 rfl (blk_one (L := stc a) (blk_below HBX2 h.2.1) 1 rfl)) rfl,
      fun _ _ h => rv rfl (x_field rfl h.1 Try.underlying65 rfl sz3 (by decide) rfl) rfl,
      fun _ _ h => rv rfl (x_load1 rfl h.1 Try.underlying3 rfl (blk_one (L := stc b) (blk_below HBX3 h.2.1) 1 rfl)) rfl,
      fun _ _ h => rv rfl (x_lss rfl h.1 h.2.1) rfl,
      fun _ _ h => rv rfl (x_assign rfl h.1) rfl, trivial⟩) ?_
    clear s2 s3 s9
    clear hN hD
    rintro a5 w5 hN hD ⟨s4, s2, s3, hGR, -⟩
    replace HB := below_step HB hGR
    replace HBX2 := blk_below HBX2 hGR
    replace HBX3 := blk_below HBX3 hGR
    clear hGR
    show Code.wp _ _ _ _ _
    refine wp_ret ?_
    refine bodyPost_ret (results_single rfl (vtmp s4 .nil)) hD ?_
    exact ⟨by simp_all [less], HB⟩
end Go.Proofs.Ytideafkiaipnoaa.Q

/- Stamps, vectors, letters: are they well formed. -/
namespace Go.Proofs.Ytideafkiaipnoaa.Q
open Go Go.RowKit Go.Proofs.YtideafkiaipnoaaW.PrintWords Go.Proofs.YtideafkiaipnoaaW.PrintLast Go.Proofs.Ytideafkiaipnoaa.Deed
set_option maxRecDepth 100000
set_option linter.unusedVariables false
set_option linter.unusedSimpArgs false
def actorOK (a : Int) : Bool := decide (0 ≤ a) && decide (a < 16)
def stampOK (t a : Int) : Bool := decide (1 ≤ t) && decide (t ≤ 1000000000000) && actorOK a
def lessT (t a u b : Int) : Bool := decide (t < u) || (t == u && decide (a < b))
def noneT (t a : Int) : Bool := t == 0 && a == 0
def charOK (c : Int) : Bool := decide (0 ≤ c) && decide (c ≤ 1114111) && (decide (c < 55296) || decide (57343 < c))
def VecOK (xs : List Int) : Prop := xs.length = 16 ∧ ∀ j : Int, 0 ≤ j → j < 16 → 0 ≤ gi xs j ∧ gi xs j ≤ 1000000000000
noncomputable def vecOK (xs : List Int) : Bool := by classical exact decide (VecOK xs)
theorem vecOK_iff {xs : List Int} : vecOK xs = true ↔ VecOK xs := by simp [vecOK]
theorem vecOK_false {xs : List Int} (h : ¬ VecOK xs) : vecOK xs = false := by simp [vecOK, h]
theorem vecOK_true {xs : List Int} (h : VecOK xs) : vecOK xs = true := by simp [vecOK, h]
set_option maxHeartbeats 2000000 in
theorem isActor_calls (a : Int) (w : World) : Calls Try.prog 54 #[.int .i64 a] w fun e w' => e = .returned (.bool (actorOK a)) ∧ Below w.heap.size w w' := by
  refine calls_of_wp Try.func54 rfl ?_
  refine enter_ (N := 9) rfl ?_
  rintro a0 hN hD ⟨s0, -⟩
  have HB : Below w.heap.size w w := Below.refl _ _
  refine wp_seq ?_
  refine deedL [.eq 2 (.bool false), .eq 0 (.int .i64 a), .w (Below w.heap.size w)] 9 [[]] [] [1, 2] hM hN hD (by kernel_rfl) ⟨s0, ⟨Below.refl _ _, below_drew (Below.refl _ _)⟩, trivial⟩ ⟨fun _ _ hb h => below_step h hb, trivial⟩ (fun hgrow => ⟨fun _ _ _ => rv rfl (x_assign rfl rfl) rfl, trivial⟩) ?_
  clear s0
  clear hN hD
  rintro a1 w1 hN hD ⟨s0, hGR, -⟩
  replace HB := below_step HB hGR
  clear hGR
  show Code.wp _ _ _ _ _
  refine wp_seq ?_
  refine deedL [.eq 3 (.int .i64 a), .eq 4 (.bool (decide (0 ≤ a))), .eq 5 (.bool (decide (0 ≤ a))), .gv (((decide (0 ≤ a)) == true)) 6 (.int .i64 a), .gv (((decide (0 ≤ a)) == true)) 7 (.bool (decide (a < 16))), .eq 8 (.bool ((decide (0 ≤ a)) && (decide (a < 16)))), .eq 2 (.bool ((decide (0 ≤ a)) && (decide (a < 16)))), .eq 0 (.int .i64 a), .w (Below w1.heap.size w1)] 9 [[7], [0], [1], [2, 7], [2, 3], [2, 4], [5]] [] [6, 7, 8] hM hN hD (by kernel_rfl) ⟨s0, ⟨Below.refl _ _, below_drew (Below.refl _ _)⟩, trivial⟩ ⟨fun _ _ hb h => below_step h hb, trivial⟩ (fun hgrow => ⟨fun _ _ h => rv rfl (x_move rfl h.1) rfl,
    fun _ _ h => rv rfl (x_geq rfl h.1 rfl) rfl,
    fun _ _ h => rv rfl (x_move rfl h.1) rfl,
    fun _ _ h => rb rfl rfl h.1 (fun hgt => x_move rfl h.2.1) (fun _ z => z),
    fun _ _ h => rb rfl rfl h.1 (fun hgt => x_lss rfl (h.2.1.1 hgt) rfl) (fun _ z => z),
    fun _ _ h => rv rfl (x_and rfl rfl h.1 (fun hc => h.2.1.1 (beq_iff_eq.2 hc))) rfl,
    fun _ _ h => rv rfl (x_assign rfl h.1) rfl, trivial⟩) ?_
  clear s0
  clear hN hD
  rintro a2 w2 hN hD ⟨s2, s0, hGR, -⟩
  replace HB := below_step HB hGR
  clear hGR
  show Code.wp _ _ _ _ _
  refine wp_ret ?_
  refine bodyPost_ret (results_single rfl (vtmp s2 .nil)) hD ?_
  exact ⟨rfl, HB⟩
set_option maxHeartbeats 2000000 in
theorem iStampOK_calls (t a : Int) (w : World) : Calls Try.prog 111 #[.agg #[Value.int .i64 t, Value.int .i64 a]] w fun e w' => e = .returned (.bool (stampOK t a)) ∧ Below w.heap.size w w' := by
  refine calls_of_wp Try.func111 rfl ?_
  refine enter_ (N := 16) rfl ?_
  rintro a0 hN hD ⟨s0, -⟩
  have HB : Below w.heap.size w w := Below.refl _ _
  refine wp_seq ?_
  refine deedL [.s1 1 (NewB w.heap.size [.int .i64 t, .int .i64 a] 65), .eq 2 (.bool false), .eq 0 (.agg #[Value.int .i64 t, Value.int .i64 a]), .w (Below w.heap.size w)] 16 [[3, 2], []] [] [0, 2, 3] hM hN hD (by kernel_rfl) ⟨s0, ⟨Below.refl _ _, below_drew (Below.refl _ _)⟩, trivial⟩ ⟨fun _ _ _ hb h => h.grow hb, fun _ _ hb h => below_step h hb, trivial⟩ (fun hgrow => ⟨fun _ _ h => rbox hgrow rfl (x_box rfl h.2.1) h.1.size (fun _ _ z => z),
    fun _ _ _ => rv rfl (x_assign rfl rfl) rfl, trivial⟩) ?_
  clear s0
  clear hN hD
  rintro a1 w1 hN hD ⟨⟨g1, s1, lg1, HBX1⟩, s0, hGR, -⟩
  replace HB := below_step HB hGR
  clear hGR
  show Code.wp _ _ _ _ _
  refine wp_seq ?_
  refine deedL (.eq 3 (.pointer (some ⟨g1, 0, none⟩)) :: .eq 4 (.int .i64 t) :: .eq 5 (.bool (decide (1 ≤ t))) :: .eq 6 (.bool (decide (1 ≤ t))) :: .gv (((decide (1 ≤ t)) == true)) 7 (.pointer (some ⟨g1, 0, none⟩)) :: .gv (((decide (1 ≤ t)) == true)) 8 (.int .i64 t) :: .gv (((decide (1 ≤ t)) == true)) 9 (.bool (decide (t ≤ 1000000000000))) :: .eq 10 (.bool ((decide (1 ≤ t)) && (decide (t ≤ 1000000000000)))) :: .eq 11 (.bool ((decide (1 ≤ t)) && (decide (t ≤ 1000000000000)))) :: .gv ((((decide (1 ≤ t)) && (decide (t ≤ 1000000000000))) == true)) 12 (.pointer (some ⟨g1, 1, none⟩)) :: .gv ((((decide (1 ≤ t)) && (decide (t ≤ 1000000000000))) == true)) 13 (.int .i64 a) :: .gv ((((decide (1 ≤ t)) && (decide (t ≤ 1000000000000))) == true)) 14 (.bool (actorOK a)) :: .eq 15 (.bool (((decide (1 ≤ t)) && (decide (t ≤ 1000000000000))) && (actorOK a))) :: .eq 2 (.bool (((decide (1 ≤ t)) && (decide (t ≤ 1000000000000))) && (actorOK a))) :: .eq 1 (.pointer (some ⟨g1, 0, none⟩)) :: .w (Below w1.heap.size w1) :: []) 16 [[14], [0, 15], [1], [2], [3, 14], [3, 4, 15], [3, 5], [3, 6], [7], [8, 14], [8, 9, 15], [8, 10], [8, 11], [12]] [] [13, 14, 15] hM hN hD (by kernel_rfl) ⟨s1, ⟨Below.refl _ _, below_drew (Below.refl _ _)⟩, trivial⟩ ⟨fun _ _ hb h => below_step h hb, trivial⟩ (fun hgrow => ⟨fun _ _ h => rv rfl (x_field rfl h.1 Try.underlying65 rfl sz3 (by decide) rfl) rfl,
    fun _ _ h => rv rfl (x_load1 rfl h.1 Try.underlying3 rfl (blk_one (L := [.int .i64 t, .int .i64 a]) (blk_below HBX1 h.2.1) 0 rfl)) rfl,
    fun _ _ h => rv rfl (x_geq rfl h.1 rfl) rfl,
    fun _ _ h => rv rfl (x_move rfl h.1) rfl,
    fun _ _ h => rb rfl rfl h.1 (fun hgt => x_field rfl h.2.1 Try.underlying65 rfl sz3 (by decide) rfl) (fun _ z => z),
    fun _ _ h => rb rfl rfl h.1 (fun hgt => x_load1 rfl (h.2.1.1 hgt) Try.underlying3 rfl (blk_one (L := [.int .i64 t, .int .i64 a]) (blk_below HBX1 h.2.2.1) 0 rfl)) (fun _ z => z),
    fun _ _ h => rb rfl rfl h.1 (fun hgt => x_leq rfl (h.2.1.1 hgt) rfl) (fun _ z => z),
    fun _ _ h => rv rfl (x_and rfl rfl h.1 (fun hc => h.2.1.1 (beq_iff_eq.2 hc))) rfl,
    fun _ _ h => rv rfl (x_move rfl h.1) rfl,
    fun _ _ h => rb rfl rfl h.1 (fun hgt => x_field rfl h.2.1 Try.underlying65 rfl sz3 (by decide) rfl) (fun _ z => z),
    fun _ _ h => rb rfl rfl h.1 (fun hgt => x_load1 rfl (h.2.1.1 hgt) Try.underlying3 rfl (blk_one (L := [.int .i64 t, .int .i64 a]) (blk_below HBX1 h.2.2.1) 1 rfl)) (fun _ z => z),
    fun _ _ h => rcb hgrow rfl rfl h.1 Try.func54 (by kernel_rfl) rfl rfl (fun hgt => args1 (h.2.1.1 hgt)) (fun hgt => isActor_calls a _) (fun _ _ _ h => h) (fun _ _ z => z),
    fun _ _ h => rv rfl (x_and rfl rfl h.1 (fun hc => h.2.1.1 (beq_iff_eq.2 hc))) rfl,
    fun _ _ h => rv rfl (x_assign rfl h.1) rfl, trivial⟩) ?_
  clear s0 s1
  clear hN hD
  rintro a2 w2 hN hD ⟨s2, s1, hGR, -⟩
  replace HB := below_step HB hGR
  replace HBX1 := blk_below HBX1 hGR
  clear hGR
  show Code.wp _ _ _ _ _
  refine wp_ret ?_
  refine bodyPost_ret (results_single rfl (vtmp s2 .nil)) hD ?_
  exact ⟨rfl, HB⟩
set_option maxHeartbeats 2000000 in
theorem sStampOK_calls (t a : Int) (w : World) : Calls Try.prog 106 #[.agg #[Value.int .i64 t, Value.int .i64 a]] w fun e w' => e = .returned (.bool (stampOK t a)) ∧ Below w.heap.size w w' := by
  refine calls_of_wp Try.func106 rfl ?_
  refine enter_ (N := 21) rfl ?_
  rintro a0 hN hD ⟨s0, -⟩
  have HB : Below w.heap.size w w := Below.refl _ _
  refine wp_seq ?_
  refine deedL [.s1 1 (NewB w.heap.size [.int .i64 t, .int .i64 a] 65), .eq 2 (.bool false), .eq 0 (.agg #[Value.int .i64 t, Value.int .i64 a]), .w (Below w.heap.size w)] 21 [[3, 2], []] [] [0, 2, 3] hM hN hD (by kernel_rfl) ⟨s0, ⟨Below.refl _ _, below_drew (Below.refl _ _)⟩, trivial⟩ ⟨fun _ _ _ hb h => h.grow hb, fun _ _ hb h => below_step h hb, trivial⟩ (fun hgrow => ⟨fun _ _ h => rbox hgrow rfl (x_box rfl h.2.1) h.1.size (fun _ _ z => z),
    fun _ _ _ => rv rfl (x_assign rfl rfl) rfl, trivial⟩) ?_
  clear s0
  clear hN hD
  rintro a1 w1 hN hD ⟨⟨g1, s1, lg1, HBX1⟩, s0, hGR, -⟩
  replace HB := below_step HB hGR
  clear hGR
  show Code.wp _ _ _ _ _
  refine wp_seq ?_
  refine deedL (.eq 3 (.pointer (some ⟨g1, 0, none⟩)) :: .eq 4 (.int .i64 t) :: .eq 5 (.bool (decide (1 ≤ t))) :: .eq 6 (.bool (decide (1 ≤ t))) :: .gv (((decide (1 ≤ t)) == true)) 7 (.pointer (some ⟨g1, 0, none⟩)) :: .gv (((decide (1 ≤ t)) == true)) 8 (.int .i64 t) :: .gv (((decide (1 ≤ t)) == true)) 9 (.bool (decide (t ≤ 1000000000000))) :: .eq 10 (.bool ((decide (1 ≤ t)) && (decide (t ≤ 1000000000000)))) :: .eq 11 (.bool ((decide (1 ≤ t)) && (decide (t ≤ 1000000000000)))) :: .gv ((((decide (1 ≤ t)) && (decide (t ≤ 1000000000000))) == true)) 12 (.pointer (some ⟨g1, 1, none⟩)) :: .gv ((((decide (1 ≤ t)) && (decide (t ≤ 1000000000000))) == true)) 13 (.int .i64 a) :: .gv ((((decide (1 ≤ t)) && (decide (t ≤ 1000000000000))) == true)) 14 (.bool (decide (0 ≤ a))) :: .eq 15 (.bool (((decide (1 ≤ t)) && (decide (t ≤ 1000000000000))) && (decide (0 ≤ a)))) :: .eq 16 (.bool (((decide (1 ≤ t)) && (decide (t ≤ 1000000000000))) && (decide (0 ≤ a)))) :: .gv (((((decide (1 ≤ t)) && (decide (t ≤ 1000000000000))) && (decide (0 ≤ a))) == true)) 17 (.pointer (some ⟨g1, 1, none⟩)) :: .gv (((((decide (1 ≤ t)) && (decide (t ≤ 1000000000000))) && (decide (0 ≤ a))) == true)) 18 (.int .i64 a) :: .gv (((((decide (1 ≤ t)) && (decide (t ≤ 1000000000000))) && (decide (0 ≤ a))) == true)) 19 (.bool (decide (a < 16))) :: .eq 20 (.bool ((((decide (1 ≤ t)) && (decide (t ≤ 1000000000000))) && (decide (0 ≤ a))) && (decide (a < 16)))) :: .eq 2 (.bool ((((decide (1 ≤ t)) && (decide (t ≤ 1000000000000))) && (decide (0 ≤ a))) && (decide (a < 16)))) :: .eq 1 (.pointer (some ⟨g1, 0, none⟩)) :: .w (Below w1.heap.size w1) :: []) 21 ([19] :: [0, 20] :: [1] :: [2] :: [3, 19] :: [3, 4, 20] :: [3, 5] :: [3, 6] :: [7] :: [8, 19] :: [8, 9, 20] :: [8, 10] :: [8, 11] :: [12] :: [13, 19] :: [13, 14, 20] :: [13, 15] :: [13, 16] :: [17] :: []) [] [18, 19, 20] hM hN hD (by kernel_rfl) ⟨s1, ⟨Below.refl _ _, below_drew (Below.refl _ _)⟩, trivial⟩ ⟨fun _ _ hb h => below_step h hb, trivial⟩ (fun hgrow => ⟨fun _ _ h => rv rfl (x_field rfl h.1 Try.underlying65 rfl sz3 (by decide) rfl) rfl,
    fun _ _ h => rv rfl (x_load1 rfl h.1 Try.underlying3 rfl (blk_one (L := [.int .i64 t, .int .i64 a]) (blk_below HBX1 h.2.1) 0 rfl)) rfl,
    fun _ _ h => rv rfl (x_geq rfl h.1 rfl) rfl,
    fun _ _ h => rv rfl (x_move rfl h.1) rfl,
    fun _ _ h => rb rfl rfl h.1 (fun hgt => x_field rfl h.2.1 Try.underlying65 rfl sz3 (by decide) rfl) (fun _ z => z),
    fun _ _ h => rb rfl rfl h.1 (fun hgt => x_load1 rfl (h.2.1.1 hgt) Try.underlying3 rfl (blk_one (L := [.int .i64 t, .int .i64 a]) (blk_below HBX1 h.2.2.1) 0 rfl)) (fun _ z => z),
    fun _ _ h => rb rfl rfl h.1 (fun hgt => x_leq rfl (h.2.1.1 hgt) rfl) (fun _ z => z),
    fun _ _ h => rv rfl (x_and rfl rfl h.1 (fun hc => h.2.1.1 (beq_iff_eq.2 hc))) rfl,
    fun _ _ h => rv rfl (x_move rfl h.1) rfl,
    fun _ _ h => rb rfl rfl h.1 (fun hgt => x_field rfl h.2.1 Try.underlying65 rfl sz3 (by decide) rfl) (fun _ z => z),
    fun _ _ h => rb rfl rfl h.1 (fun hgt => x_load1 rfl (h.2.1.1 hgt) Try.underlying3 rfl (blk_one (L := [.int .i64 t, .int .i64 a]) (blk_below HBX1 h.2.2.1) 1 rfl)) (fun _ z => z),
    fun _ _ h => rb rfl rfl h.1 (fun hgt => x_geq rfl (h.2.1.1 hgt) rfl) (fun _ z => z),
    fun _ _ h => rv rfl (x_and rfl rfl h.1 (fun hc => h.2.1.1 (beq_iff_eq.2 hc))) rfl,
    fun _ _ h => rv rfl (x_move rfl h.1) rfl,
    fun _ _ h => rb rfl rfl h.1 (fun hgt => x_field rfl h.2.1 Try.underlying65 rfl sz3 (by decide) rfl) (fun _ z => z),
    fun _ _ h => rb rfl rfl h.1 (fun hgt => x_load1 rfl (h.2.1.1 hgt) Try.underlying3 rfl (blk_one (L := [.int .i64 t, .int .i64 a]) (blk_below HBX1 h.2.2.1) 1 rfl)) (fun _ z => z),
    fun _ _ h => rb rfl rfl h.1 (fun hgt => x_lss rfl (h.2.1.1 hgt) rfl) (fun _ z => z),
    fun _ _ h => rv rfl (x_and rfl rfl h.1 (fun hc => h.2.1.1 (beq_iff_eq.2 hc))) rfl,
    fun _ _ h => rv rfl (x_assign rfl h.1) rfl, trivial⟩) ?_
  clear s0 s1
  clear hN hD
  rintro a2 w2 hN hD ⟨s2, s1, hGR, -⟩
  replace HB := below_step HB hGR
  replace HBX1 := blk_below HBX1 hGR
  clear hGR
  show Code.wp _ _ _ _ _
  refine wp_ret ?_
  refine bodyPost_ret (results_single rfl (vtmp s2 .nil)) hD ?_
  exact ⟨by unfold stampOK actorOK; simp only [Bool.and_assoc], HB⟩
set_option maxHeartbeats 2000000 in
theorem sStamp_calls (o : Op) (A3 : Option Addr) (c3 : Nat) (w : World) : Calls Try.prog 105 #[.agg (opc o A3 c3).toArray] w fun e w' => e = .returned (.agg #[Value.int .i64 o.time, Value.int .i64 o.actor]) ∧ Below w.heap.size w w' := by
  refine calls_of_wp Try.func105 rfl ?_
  refine enter_ (N := 8) rfl ?_
  rintro a0 hN hD ⟨s0, -⟩
  have HB : Below w.heap.size w w := Below.refl _ _
  refine wp_seq ?_
  refine deedL [.s1 1 (NewB w.heap.size (opc o A3 c3) 67), .s1 2 (NewB w.heap.size [.int .i64 0, .int .i64 0] 65), .eq 0 (.agg (opc o A3 c3).toArray), .w (Below w.heap.size w)] 8 [[3, 2], [3]] [] [0, 1, 2, 3] hM hN hD (by kernel_rfl) ⟨s0, ⟨Below.refl _ _, below_drew (Below.refl _ _)⟩, trivial⟩ ⟨fun _ _ _ hb h => h.grow hb, fun _ _ _ hb h => h.grow hb, fun _ _ hb h => below_step h hb, trivial⟩ (fun hgrow => ⟨fun _ _ h => rbox hgrow rfl (x_box rfl h.2.1) h.1.size (fun _ _ z => z),
    fun _ _ h => rbox hgrow rfl (x_alloc rfl zr65) h.1.size (fun _ _ z => z), trivial⟩) ?_
  clear s0
  clear hN hD
  rintro a1 w1 hN hD ⟨⟨g1, s1, lg1, HBX1⟩, ⟨g2, s2, lg2, HBX2⟩, s0, hGR, -⟩
  replace HB := below_step HB hGR
  clear hGR
  show Code.wp _ _ _ _ _
  refine wp_seq ?_
  refine deedL [.eq 3 (.pointer (some ⟨g1, 2, none⟩)), .eq 4 (.int .i64 o.time), .eq 5 (.pointer (some ⟨g1, 0, none⟩)), .eq 6 (.int .i64 o.actor), .eq 7 (.agg #[Value.int .i64 o.time, Value.int .i64 o.actor]), .w fun W => W.heap[g2]? = some (.cells ([.int .i64 o.time, .int .i64 o.actor]).toArray 65 (0, 0)), .eq 1 (.pointer (some ⟨g1, 0, none⟩)), .eq 2 (.pointer (some ⟨g2, 0, none⟩)), .w (Kx (fun k => k = g2) w1), .w fun W => W.heap[g2]? = some (.cells ([.int .i64 0, .int .i64 0]).toArray 65 (0, 0))] 8 [[6], [0, 8], [6], [2, 8], [1, 3], [7, 4, 9]] [[], [], [], [], [], [9]] [5, 6, 7, 8] hM hN hD (by kernel_rfl) ⟨s1, s2, ⟨Kx.refl _ _, Kx.drew _ _⟩, ⟨HBX2, blk_below HBX2 (below_drew (Below.refl _ _))⟩, trivial⟩ ⟨fun _ _ hb h => blk_below h hb, fun _ _ hb h => h.step hb, fun _ _ hb h => blk_below h hb, trivial⟩ (fun hgrow => ⟨fun _ _ h => rv rfl (x_field rfl h.1 Try.underlying67 rfl sz3 (by decide) rfl) rfl,
    fun _ _ h => rv rfl (x_load1 rfl h.1 Try.underlying3 rfl (blk_one (L := opc o A3 c3) (blk_kx HBX1 h.2.1 (fun e => (blk_neT HBX1 HBX2 rfl) e)) 2 rfl)) rfl,
    fun _ _ h => rv rfl (x_field rfl h.1 Try.underlying67 rfl sz3 (by decide) rfl) rfl,
    fun _ _ h => rv rfl (x_load1 rfl h.1 Try.underlying3 rfl (blk_one (L := opc o A3 c3) (blk_kx HBX1 h.2.1 (fun e => (blk_neT HBX1 HBX2 rfl) e)) 0 rfl)) rfl,
    fun _ _ h => rv rfl (x_build rfl Try.underlying65 zr65 bp65 (bcons h.1 (bcons h.2.1 rfl)) (by kernel_rfl) (ps := [(0, _), (1, _)]) (vs := [(0, .int .i64 o.time), (1, .int .i64 o.actor)]) (L := [.int .i64 o.time, .int .i64 o.actor])) rfl,
    ?_, trivial⟩) ?_
  · rintro a_ W ⟨h7, h4, h9, -⟩
    exact rstoreS rfl rfl h7 h4 (by simp [Value.oneCell']) sz65 h9 rfl (blk_stored (cs := [.int .i64 o.time, .int .i64 o.actor]) 0 _ [.int .i64 0, .int .i64 0] h9 (of_decide_eq_true rfl)) ⟨fun h => h.sets rfl _ _, trivial⟩
  clear s0 s1 s2
  clear hN hD
  rintro a2 w2 hN hD ⟨MBX2, s1, s2, hGR, -⟩
  have NB := Kx.below HB hGR HB.size (fun k e => by subst e; exact lg2)
  have NBX1 := blk_kx HBX1 hGR (fun e => (blk_neT HBX1 HBX2 rfl) e)
  replace HB := NB
  replace HBX1 := NBX1
  clear NB NBX1
  replace HBX2 := MBX2
  clear MBX2
  clear hGR
  show Code.wp _ _ _ _ _
  refine wp_ret ?_
  refine bodyPost_ret (results_single rfl (vcell s2 HBX2 Try.underlying65 rfl sz65 .nil)) hD ?_
  exact ⟨rfl, HB⟩
set_option maxHeartbeats 2000000 in
theorem sLess_calls (t a u b : Int) (w : World) : Calls Try.prog 108 #[.agg #[Value.int .i64 t, Value.int .i64 a], .agg #[Value.int .i64 u, Value.int .i64 b]] w fun e w' => e = .returned (.bool (lessT t a u b)) ∧ Below w.heap.size w w' := by
  refine calls_of_wp Try.func108 rfl ?_
  refine enter_ (N := 24) rfl ?_
  rintro a0 hN hD ⟨s0, s1, -⟩
  have HB : Below w.heap.size w w := Below.refl _ _
  refine wp_seq ?_
  refine deedL [.s1 2 (NewB w.heap.size [.int .i64 t, .int .i64 a] 65), .s1 3 (NewB w.heap.size [.int .i64 u, .int .i64 b] 65), .eq 4 (.bool false), .eq 0 (.agg #[Value.int .i64 t, Value.int .i64 a]), .eq 1 (.agg #[Value.int .i64 u, Value.int .i64 b]), .w (Below w.heap.size w)] 24 [[5, 3], [5, 4], []] [] [0, 1, 3, 4, 5] hM hN hD (by kernel_rfl) ⟨s0, s1, ⟨Below.refl _ _, below_drew (Below.refl _ _)⟩, trivial⟩ ⟨fun _ _ _ hb h => h.grow hb, fun _ _ _ hb h => h.grow hb, fun _ _ hb h => below_step h hb, trivial⟩ (fun hgrow => ⟨fun _ _ h => rbox hgrow rfl (x_box rfl h.2.1) h.1.size (fun _ _ z => z),
    fun _ _ h => rbox hgrow rfl (x_box rfl h.2.1) h.1.size (fun _ _ z => z),
    fun _ _ _ => rv rfl (x_assign rfl rfl) rfl, trivial⟩) ?_
  clear s0 s1
  clear hN hD
  rintro a1 w1 hN hD ⟨⟨g2, s2, lg2, HBX2⟩, ⟨g3, s3, lg3, HBX3⟩, s0, s1, hGR, -⟩
  replace HB := below_step HB hGR
  clear hGR
  show Code.wp _ _ _ _ _
  refine wp_seq ?_
  refine deedL (.eq 5 (.pointer (some ⟨g2, 0, none⟩)) :: .eq 6 (.int .i64 t) :: .eq 7 (.pointer (some ⟨g3, 0, none⟩)) :: .eq 8 (.int .i64 u) :: .eq 9 (.bool (decide (t < u))) :: .eq 10 (.bool (decide (t < u))) :: .gv (((decide (t < u)) == false)) 11 (.pointer (some ⟨g2, 0, none⟩)) :: .gv (((decide (t < u)) == false)) 12 (.int .i64 t) :: .gv (((decide (t < u)) == false)) 13 (.pointer (some ⟨g3, 0, none⟩)) :: .gv (((decide (t < u)) == false)) 14 (.int .i64 u) :: .gv (((decide (t < u)) == false)) 15 (.bool (t == u)) :: .gv (((decide (t < u)) == false)) 16 (.bool (t == u)) :: .gv (((decide (t < u)) == false) && ((t == u) == true)) 17 (.pointer (some ⟨g2, 1, none⟩)) :: .gv (((decide (t < u)) == false) && ((t == u) == true)) 18 (.int .i64 a) :: .gv (((decide (t < u)) == false) && ((t == u) == true)) 19 (.pointer (some ⟨g3, 1, none⟩)) :: .gv (((decide (t < u)) == false) && ((t == u) == true)) 20 (.int .i64 b) :: .gv (((decide (t < u)) == false) && ((t == u) == true)) 21 (.bool (decide (a < b))) :: .gv (((decide (t < u)) == false)) 22 (.bool ((t == u) && (decide (a < b)))) :: .eq 23 (.bool ((decide (t < u)) || ((t == u) && (decide (a < b))))) :: .eq 4 (.bool ((decide (t < u)) || ((t == u) && (decide (a < b))))) :: .eq 2 (.pointer (some ⟨g2, 0, none⟩)) :: .eq 3 (.pointer (some ⟨g3, 0, none⟩)) :: .w (Below w1.heap.size w1) :: []) 24 ([20] :: [0, 22] :: [21] :: [2, 22] :: [1, 3] :: [4] :: [5, 20] :: [5, 6, 22] :: [5, 21] :: [5, 8, 22] :: [5, 7, 9] :: [5, 10] :: [11, 20] :: [11, 12, 22] :: [11, 21] :: [11, 14, 22] :: [11, 13, 15] :: [5, 11, 16] :: [5, 17] :: [18] :: []) [] [19, 20, 21, 22] hM hN hD (by kernel_rfl) ⟨s2, s3, ⟨Below.refl _ _, below_drew (Below.refl _ _)⟩, trivial⟩ ⟨fun _ _ hb h => below_step h hb, trivial⟩ (fun hgrow => ⟨fun _ _ h => rv rfl (x_field rfl h.1 Try.underlying65 rfl sz3 (by decide) rfl) rfl,
    fun _ _ h => rv rfl (x_load1 rfl h.1 Try.underlying3 rfl (blk_one (L := [.int .i64 t, .int .i64 a]) (blk_below HBX2 h.2.1) 0 rfl)) rfl,
    fun _ _ h => rv rfl (x_field rfl h.1 Try.underlying65 rfl sz3 (by decide) rfl) rfl,
    fun _ _ h => rv rfl (x_load1 rfl h.1 Try.underlying3 rfl (blk_one (L := [.int .i64 u, .int .i64 b]) (blk_below HBX3 h.2.1) 0 rfl)) rfl,
    fun _ _ h => rv rfl (x_lss rfl h.1 h.2.1) rfl,
    fun _ _ h => rv rfl (x_move rfl h.1) rfl,
    fun _ _ h => rb rfl rfl h.1 (fun hgt => x_field rfl h.2.1 Try.underlying65 rfl sz3 (by decide) rfl) (fun _ z => z),
    fun _ _ h => rb rfl rfl h.1 (fun hgt => x_load1 rfl (h.2.1.1 hgt) Try.underlying3 rfl (blk_one (L := [.int .i64 t, .int .i64 a]) (blk_below HBX2 h.2.2.1) 0 rfl)) (fun _ z => z),
    fun _ _ h => rb rfl rfl h.1 (fun hgt => x_field rfl h.2.1 Try.underlying65 rfl sz3 (by decide) rfl) (fun _ z => z),
    fun _ _ h => rb rfl rfl h.1 (fun hgt => x_load1 rfl (h.2.1.1 hgt) Try.underlying3 rfl (blk_one (L := [.int .i64 u, .int .i64 b]) (blk_below HBX3 h.2.2.1) 0 rfl)) (fun _ z => z),
    fun _ _ h => rb rfl rfl h.1 (fun hgt => x_eql rfl (h.2.1.1 hgt) (h.2.2.1.1 hgt)) (fun _ z => z),
    fun _ _ h => rb rfl rfl h.1 (fun hgt => x_move rfl (h.2.1.1 hgt)) (fun _ z => z),
    fun _ _ h => rg rfl rfl h.1 (fun hgt => x_field rfl h.2.1 Try.underlying65 rfl sz3 (by decide) rfl) (fun _ z => z),
    fun _ _ h => rg rfl rfl h.1 (fun hgt => x_load1 rfl (h.2.1.1 hgt) Try.underlying3 rfl (blk_one (L := [.int .i64 t, .int .i64 a]) (blk_below HBX2 h.2.2.1) 1 rfl)) (fun _ z => z),
    fun _ _ h => rg rfl rfl h.1 (fun hgt => x_field rfl h.2.1 Try.underlying65 rfl sz3 (by decide) rfl) (fun _ z => z),
    fun _ _ h => rg rfl rfl h.1 (fun hgt => x_load1 rfl (h.2.1.1 hgt) Try.underlying3 rfl (blk_one (L := [.int .i64 u, .int .i64 b]) (blk_below HBX3 h.2.2.1) 1 rfl)) (fun _ z => z),
    fun _ _ h => rg rfl rfl h.1 (fun hgt => x_lss rfl (h.2.1.1 hgt) (h.2.2.1.1 hgt)) (fun _ z => z),
    fun _ _ h => rb rfl rfl h.1 (fun hgt => x_and rfl rfl (h.2.1.1 hgt) (fun hc => h.2.2.1.1 (Bool.and_eq_true _ _ ▸ ⟨hgt, beq_iff_eq.2 hc⟩))) (fun _ z => z),
    fun _ _ h => rv rfl (x_or rfl rfl h.1 (fun hc => h.2.1.1 (beq_iff_eq.2 hc))) rfl,
    fun _ _ h => rv rfl (x_assign rfl h.1) rfl, trivial⟩) ?_
  clear s0 s1 s2 s3
  clear hN hD
  rintro a2 w2 hN hD ⟨s4, s2, s3, hGR, -⟩
  replace HB := below_step HB hGR
  replace HBX2 := blk_below HBX2 hGR
  replace HBX3 := blk_below HBX3 hGR
  clear hGR
  show Code.wp _ _ _ _ _
  refine wp_ret ?_
  refine bodyPost_ret (results_single rfl (vtmp s4 .nil)) hD ?_
  exact ⟨rfl, HB⟩
set_option maxHeartbeats 2000000 in
theorem sNone_calls (t a : Int) (w : World) : Calls Try.prog 107 #[.agg #[Value.int .i64 t, Value.int .i64 a]] w fun e w' => e = .returned (.bool (noneT t a)) ∧ Below w.heap.size w w' := by
  refine calls_of_wp Try.func107 rfl ?_
  refine enter_ (N := 11) rfl ?_
  rintro a0 hN hD ⟨s0, -⟩
  have HB : Below w.heap.size w w := Below.refl _ _
  refine wp_seq ?_
  refine deedL [.s1 1 (NewB w.heap.size [.int .i64 t, .int .i64 a] 65), .eq 2 (.bool false), .eq 0 (.agg #[Value.int .i64 t, Value.int .i64 a]), .w (Below w.heap.size w)] 11 [[3, 2], []] [] [0, 2, 3] hM hN hD (by kernel_rfl) ⟨s0, ⟨Below.refl _ _, below_drew (Below.refl _ _)⟩, trivial⟩ ⟨fun _ _ _ hb h => h.grow hb, fun _ _ hb h => below_step h hb, trivial⟩ (fun hgrow => ⟨fun _ _ h => rbox hgrow rfl (x_box rfl h.2.1) h.1.size (fun _ _ z => z),
    fun _ _ _ => rv rfl (x_assign rfl rfl) rfl, trivial⟩) ?_
  clear s0
  clear hN hD
  rintro a1 w1 hN hD ⟨⟨g1, s1, lg1, HBX1⟩, s0, hGR, -⟩
  replace HB := below_step HB hGR
  clear hGR
  show Code.wp _ _ _ _ _
  refine wp_seq ?_
  refine deedL [.eq 3 (.pointer (some ⟨g1, 0, none⟩)), .eq 4 (.int .i64 t), .eq 5 (.bool (t == 0)), .eq 6 (.bool (t == 0)), .gv (((t == 0) == true)) 7 (.pointer (some ⟨g1, 1, none⟩)), .gv (((t == 0) == true)) 8 (.int .i64 a), .gv (((t == 0) == true)) 9 (.bool (a == 0)), .eq 10 (.bool ((t == 0) && (a == 0))), .eq 2 (.bool ((t == 0) && (a == 0))), .eq 1 (.pointer (some ⟨g1, 0, none⟩)), .w (Below w1.heap.size w1)] 11 [[9], [0, 10], [1], [2], [3, 9], [3, 4, 10], [3, 5], [3, 6], [7]] [] [8, 9, 10] hM hN hD (by kernel_rfl) ⟨s1, ⟨Below.refl _ _, below_drew (Below.refl _ _)⟩, trivial⟩ ⟨fun _ _ hb h => below_step h hb, trivial⟩ (fun hgrow => ⟨fun _ _ h => rv rfl (x_field rfl h.1 Try.underlying65 rfl sz3 (by decide) rfl) rfl,
    fun _ _ h => rv rfl (x_load1 rfl h.1 Try.underlying3 rfl (blk_one (L := [.int .i64 t, .int .i64 a]) (blk_below HBX1 h.2.1) 0 rfl)) rfl,
    fun _ _ h => rv rfl (x_eql rfl h.1 rfl) rfl,
    fun _ _ h => rv rfl (x_move rfl h.1) rfl,
    fun _ _ h => rb rfl rfl h.1 (fun hgt => x_field rfl h.2.1 Try.underlying65 rfl sz3 (by decide) rfl) (fun _ z => z),
    fun _ _ h => rb rfl rfl h.1 (fun hgt => x_load1 rfl (h.2.1.1 hgt) Try.underlying3 rfl (blk_one (L := [.int .i64 t, .int .i64 a]) (blk_below HBX1 h.2.2.1) 1 rfl)) (fun _ z => z),
    fun _ _ h => rb rfl rfl h.1 (fun hgt => x_eql rfl (h.2.1.1 hgt) rfl) (fun _ z => z),
    fun _ _ h => rv rfl (x_and rfl rfl h.1 (fun hc => h.2.1.1 (beq_iff_eq.2 hc))) rfl,
    fun _ _ h => rv rfl (x_assign rfl h.1) rfl, trivial⟩) ?_
  clear s0 s1
  clear hN hD
  rintro a2 w2 hN hD ⟨s2, s1, hGR, -⟩
  replace HB := below_step HB hGR
  replace HBX1 := blk_below HBX1 hGR
  clear hGR
  show Code.wp _ _ _ _ _
  refine wp_ret ?_
  refine bodyPost_ret (results_single rfl (vtmp s2 .nil)) hD ?_
  exact ⟨rfl, HB⟩
set_option maxHeartbeats 2000000 in
theorem sChar_calls (c : Int) (w : World) : Calls Try.prog 109 #[.int .i64 c] w fun e w' => e = .returned (.bool (charOK c)) ∧ Below w.heap.size w w' := by
  refine calls_of_wp Try.func109 rfl ?_
  refine enter_ (N := 17) rfl ?_
  rintro a0 hN hD ⟨s0, -⟩
  have HB : Below w.heap.size w w := Below.refl _ _
  refine wp_seq ?_
  refine deedL [.eq 2 (.bool false), .eq 0 (.int .i64 c), .w (Below w.heap.size w)] 17 [[]] [] [1, 2] hM hN hD (by kernel_rfl) ⟨s0, ⟨Below.refl _ _, below_drew (Below.refl _ _)⟩, trivial⟩ ⟨fun _ _ hb h => below_step h hb, trivial⟩ (fun hgrow => ⟨fun _ _ _ => rv rfl (x_assign rfl rfl) rfl, trivial⟩) ?_
  clear s0
  clear hN hD
  rintro a1 w1 hN hD ⟨s0, hGR, -⟩
  replace HB := below_step HB hGR
  clear hGR
  show Code.wp _ _ _ _ _
  refine wp_seq ?_
  refine deedL (.eq 3 (.int .i64 c) :: .eq 4 (.bool (decide (0 ≤ c))) :: .eq 5 (.bool (decide (0 ≤ c))) :: .gv (((decide (0 ≤ c)) == true)) 6 (.int .i64 c) :: .gv (((decide (0 ≤ c)) == true)) 7 (.bool (decide (c ≤ 1114111))) :: .eq 8 (.bool ((decide (0 ≤ c)) && (decide (c ≤ 1114111)))) :: .eq 9 (.bool ((decide (0 ≤ c)) && (decide (c ≤ 1114111)))) :: .gv ((((decide (0 ≤ c)) && (decide (c ≤ 1114111))) == true)) 10 (.int .i64 c) :: .gv ((((decide (0 ≤ c)) && (decide (c ≤ 1114111))) == true)) 11 (.bool (decide (c < 55296))) :: .gv ((((decide (0 ≤ c)) && (decide (c ≤ 1114111))) == true)) 12 (.bool (decide (c < 55296))) :: .gv ((((decide (0 ≤ c)) && (decide (c ≤ 1114111))) == true) && ((decide (c < 55296)) == false)) 13 (.int .i64 c) :: .gv ((((decide (0 ≤ c)) && (decide (c ≤ 1114111))) == true) && ((decide (c < 55296)) == false)) 14 (.bool (decide (57343 < c))) :: .gv ((((decide (0 ≤ c)) && (decide (c ≤ 1114111))) == true)) 15 (.bool ((decide (c < 55296)) || (decide (57343 < c)))) :: .eq 16 (.bool (((decide (0 ≤ c)) && (decide (c ≤ 1114111))) && ((decide (c < 55296)) || (decide (57343 < c))))) :: .eq 2 (.bool (((decide (0 ≤ c)) && (decide (c ≤ 1114111))) && ((decide (c < 55296)) || (decide (57343 < c))))) :: .eq 0 (.int .i64 c) :: .w (Below w1.heap.size w1) :: []) 17 ([15] :: [0] :: [1] :: [2, 15] :: [2, 3] :: [2, 4] :: [5] :: [6, 15] :: [6, 7] :: [6, 8] :: [9, 15] :: [9, 10] :: [6, 9, 11] :: [6, 12] :: [13] :: []) [] [14, 15, 16] hM hN hD (by kernel_rfl) ⟨s0, ⟨Below.refl _ _, below_drew (Below.refl _ _)⟩, trivial⟩ ⟨fun _ _ hb h => below_step h hb, trivial⟩ (fun hgrow => ⟨fun _ _ h => rv rfl (x_move rfl h.1) rfl,
    fun _ _ h => rv rfl (x_geq rfl h.1 rfl) rfl,
    fun _ _ h => rv rfl (x_move rfl h.1) rfl,
    fun _ _ h => rb rfl rfl h.1 (fun hgt => x_move rfl h.2.1) (fun _ z => z),
    fun _ _ h => rb rfl rfl h.1 (fun hgt => x_leq rfl (h.2.1.1 hgt) rfl) (fun _ z => z),
    fun _ _ h => rv rfl (x_and rfl rfl h.1 (fun hc => h.2.1.1 (beq_iff_eq.2 hc))) rfl,
    fun _ _ h => rv rfl (x_move rfl h.1) rfl,
    fun _ _ h => rb rfl rfl h.1 (fun hgt => x_move rfl h.2.1) (fun _ z => z),
    fun _ _ h => rb rfl rfl h.1 (fun hgt => x_lss rfl (h.2.1.1 hgt) rfl) (fun _ z => z),
    fun _ _ h => rb rfl rfl h.1 (fun hgt => x_move rfl (h.2.1.1 hgt)) (fun _ z => z),
    fun _ _ h => rg rfl rfl h.1 (fun hgt => x_move rfl h.2.1) (fun _ z => z),
    fun _ _ h => rg rfl rfl h.1 (fun hgt => x_gtr rfl (h.2.1.1 hgt) rfl) (fun _ z => z),
    fun _ _ h => rb rfl rfl h.1 (fun hgt => x_or rfl rfl (h.2.1.1 hgt) (fun hc => h.2.2.1.1 (Bool.and_eq_true _ _ ▸ ⟨hgt, beq_iff_eq.2 hc⟩))) (fun _ z => z),
    fun _ _ h => rv rfl (x_and rfl rfl h.1 (fun hc => h.2.1.1 (beq_iff_eq.2 hc))) rfl,
    fun _ _ h => rv rfl (x_assign rfl h.1) rfl, trivial⟩) ?_
  clear s0
  clear hN hD
  rintro a2 w2 hN hD ⟨s2, s0, hGR, -⟩
  replace HB := below_step HB hGR
  clear hGR
  show Code.wp _ _ _ _ _
  refine wp_ret ?_
  refine bodyPost_ret (results_single rfl (vtmp s2 .nil)) hD ?_
  exact ⟨rfl, HB⟩
set_option maxHeartbeats 2000000 in
theorem iChar_calls (c : Int) (w : World) : Calls Try.prog 112 #[.int .i64 c] w fun e w' => e = .returned (.bool (charOK c)) ∧ Below w.heap.size w w' := by
  refine calls_of_wp Try.func112 rfl ?_
  refine enter_ (N := 17) rfl ?_
  rintro a0 hN hD ⟨s0, -⟩
  have HB : Below w.heap.size w w := Below.refl _ _
  refine wp_seq ?_
  refine deedL [.eq 2 (.bool false), .eq 0 (.int .i64 c), .w (Below w.heap.size w)] 17 [[]] [] [1, 2] hM hN hD (by kernel_rfl) ⟨s0, ⟨Below.refl _ _, below_drew (Below.refl _ _)⟩, trivial⟩ ⟨fun _ _ hb h => below_step h hb, trivial⟩ (fun hgrow => ⟨fun _ _ _ => rv rfl (x_assign rfl rfl) rfl, trivial⟩) ?_
  clear s0
  clear hN hD
  rintro a1 w1 hN hD ⟨s0, hGR, -⟩
  replace HB := below_step HB hGR
  clear hGR
  show Code.wp _ _ _ _ _
  refine wp_seq ?_
  refine deedL (.eq 3 (.int .i64 c) :: .eq 4 (.bool (decide (0 ≤ c))) :: .eq 5 (.bool (decide (0 ≤ c))) :: .gv (((decide (0 ≤ c)) == true)) 6 (.int .i64 c) :: .gv (((decide (0 ≤ c)) == true)) 7 (.bool (decide (c ≤ 1114111))) :: .eq 8 (.bool ((decide (0 ≤ c)) && (decide (c ≤ 1114111)))) :: .eq 9 (.bool ((decide (0 ≤ c)) && (decide (c ≤ 1114111)))) :: .gv ((((decide (0 ≤ c)) && (decide (c ≤ 1114111))) == true)) 10 (.int .i64 c) :: .gv ((((decide (0 ≤ c)) && (decide (c ≤ 1114111))) == true)) 11 (.bool (decide (c < 55296))) :: .gv ((((decide (0 ≤ c)) && (decide (c ≤ 1114111))) == true)) 12 (.bool (decide (c < 55296))) :: .gv ((((decide (0 ≤ c)) && (decide (c ≤ 1114111))) == true) && ((decide (c < 55296)) == false)) 13 (.int .i64 c) :: .gv ((((decide (0 ≤ c)) && (decide (c ≤ 1114111))) == true) && ((decide (c < 55296)) == false)) 14 (.bool (decide (57343 < c))) :: .gv ((((decide (0 ≤ c)) && (decide (c ≤ 1114111))) == true)) 15 (.bool ((decide (c < 55296)) || (decide (57343 < c)))) :: .eq 16 (.bool (((decide (0 ≤ c)) && (decide (c ≤ 1114111))) && ((decide (c < 55296)) || (decide (57343 < c))))) :: .eq 2 (.bool (((decide (0 ≤ c)) && (decide (c ≤ 1114111))) && ((decide (c < 55296)) || (decide (57343 < c))))) :: .eq 0 (.int .i64 c) :: .w (Below w1.heap.size w1) :: []) 17 ([15] :: [0] :: [1] :: [2, 15] :: [2, 3] :: [2, 4] :: [5] :: [6, 15] :: [6, 7] :: [6, 8] :: [9, 15] :: [9, 10] :: [6, 9, 11] :: [6, 12] :: [13] :: []) [] [14, 15, 16] hM hN hD (by kernel_rfl) ⟨s0, ⟨Below.refl _ _, below_drew (Below.refl _ _)⟩, trivial⟩ ⟨fun _ _ hb h => below_step h hb, trivial⟩ (fun hgrow => ⟨fun _ _ h => rv rfl (x_move rfl h.1) rfl,
    fun _ _ h => rv rfl (x_geq rfl h.1 rfl) rfl,
    fun _ _ h => rv rfl (x_move rfl h.1) rfl,
    fun _ _ h => rb rfl rfl h.1 (fun hgt => x_move rfl h.2.1) (fun _ z => z),
    fun _ _ h => rb rfl rfl h.1 (fun hgt => x_leq rfl (h.2.1.1 hgt) rfl) (fun _ z => z),
    fun _ _ h => rv rfl (x_and rfl rfl h.1 (fun hc => h.2.1.1 (beq_iff_eq.2 hc))) rfl,
    fun _ _ h => rv rfl (x_move rfl h.1) rfl,
    fun _ _ h => rb rfl rfl h.1 (fun hgt => x_move rfl h.2.1) (fun _ z => z),
    fun _ _ h => rb rfl rfl h.1 (fun hgt => x_lss rfl (h.2.1.1 hgt) rfl) (fun _ z => z),
    fun _ _ h => rb rfl rfl h.1 (fun hgt => x_move rfl (h.2.1.1 hgt)) (fun _ z => z),
    fun _ _ h => rg rfl rfl h.1 (fun hgt => x_move rfl h.2.1) (fun _ z => z),
    fun _ _ h => rg rfl rfl h.1 (fun hgt => x_gtr rfl (h.2.1.1 hgt) rfl) (fun _ z => z),
    fun _ _ h => rb rfl rfl h.1 (fun hgt => x_or rfl rfl (h.2.1.1 hgt) (fun hc => h.2.2.1.1 (Bool.and_eq_true _ _ ▸ ⟨hgt, beq_iff_eq.2 hc⟩))) (fun _ z => z),
    fun _ _ h => rv rfl (x_and rfl rfl h.1 (fun hc => h.2.1.1 (beq_iff_eq.2 hc))) rfl,
    fun _ _ h => rv rfl (x_assign rfl h.1) rfl, trivial⟩) ?_
  clear s0
  clear hN hD
  rintro a2 w2 hN hD ⟨s2, s0, hGR, -⟩
  replace HB := below_step HB hGR
  clear hGR
  show Code.wp _ _ _ _ _
  refine wp_ret ?_
  refine bodyPost_ret (results_single rfl (vtmp s2 .nil)) hD ?_
  exact ⟨rfl, HB⟩
set_option maxHeartbeats 2000000 in
theorem sVecOK_calls (A : Option Addr) (xs : List Int) (c : Nat) (w : World) (HR : RI w A xs) : Calls Try.prog 57 #[.agg #[Value.slice A xs.length c]] w fun e w' => e = .returned (.bool (vecOK xs)) ∧ Below w.heap.size w w' := by
  refine calls_of_wp Try.func57 rfl ?_
  refine enter_ (N := 26) rfl ?_
  rintro a0 hN hD ⟨s0, -⟩
  have HB : Below w.heap.size w w := Below.refl _ _
  refine wp_seq ?_
  refine deedL [.s1 1 (NewB w.heap.size [.slice A xs.length c] 41), .eq 2 (.bool false), .eq 0 (.agg #[Value.slice A xs.length c]), .w (Below w.heap.size w)] 26 [[3, 2], []] [] [0, 2, 3] hM hN hD (by kernel_rfl) ⟨s0, ⟨Below.refl _ _, below_drew (Below.refl _ _)⟩, trivial⟩ ⟨fun _ _ _ hb h => h.grow hb, fun _ _ hb h => below_step h hb, trivial⟩ (fun hgrow => ⟨fun _ _ h => rbox hgrow rfl (x_box rfl h.2.1) h.1.size (fun _ _ z => z),
    fun _ _ _ => rv rfl (x_assign rfl rfl) rfl, trivial⟩) ?_
  clear s0
  clear hN hD
  rintro a1 w1 hN hD ⟨⟨g1, s1, lg1, HBX1⟩, s0, hGR, -⟩
  replace HB := below_step HB hGR
  clear hGR
  show Code.wp _ _ _ _ _
  refine wp_seq ?_
  refine wp_seq ?_
  refine deedL [.eq 4 (.pointer (some ⟨g1, 0, none⟩)), .eq 5 (.slice A xs.length c), .eq 6 (.int .i64 (xs.length : Int)), .eq 7 (.bool ((xs.length : Int) != 16)), .eq 1 (.pointer (some ⟨g1, 0, none⟩)), .w (Below w1.heap.size w1)] 26 [[4], [0, 5], [1], [2]] [] [3, 4, 5] hM hN hD (by kernel_rfl) ⟨s1, ⟨Below.refl _ _, below_drew (Below.refl _ _)⟩, trivial⟩ ⟨fun _ _ hb h => below_step h hb, trivial⟩ (fun hgrow => ⟨fun _ _ h => rv rfl (x_field rfl h.1 Try.underlying41 rfl sz24 (by decide) rfl) rfl,
    fun _ _ h => rv rfl (x_load1 rfl h.1 Try.underlying24 rfl (blk_one (L := [.slice A xs.length c]) (blk_below HBX1 h.2.1) 0 rfl)) rfl,
    fun _ _ h => rv rfl (x_len_slice rfl Try.underlying24 h.1) rfl,
    fun _ _ h => rv rfl (x_neq rfl h.1 rfl) rfl, trivial⟩) ?_
  clear s0 s1
  clear hN hD
  rintro a2 w2 hN hD ⟨s7, s1, hGR, -⟩
  replace HB := below_step HB hGR
  replace HBX1 := blk_below HBX1 hGR
  clear hGR
  show Code.wp _ _ _ _ _
  refine wp_cond (t := (xs.length : Int) != 16) s7 ?_
  rcases Bool.eq_false_or_eq_true ((xs.length : Int) != 16) with cd3 | cd3
  · rw [cd3]
    show Code.wp _ _ _ _ _
    have pd3 := cd3
    simp at pd3
    refine wp_seq ?_
    refine deedL [.eq 2 (.bool false), .w (Below w2.heap.size w2)] 26 [[]] [] [0, 1] hM hN hD (by kernel_rfl) ⟨⟨Below.refl _ _, below_drew (Below.refl _ _)⟩, trivial⟩ ⟨fun _ _ hb h => below_step h hb, trivial⟩ (fun hgrow => ⟨fun _ _ _ => rv rfl (x_assign rfl rfl) rfl, trivial⟩) ?_
    clear s1 s7
    clear hN hD
    rintro a4 w4 hN hD ⟨s2, hGR, -⟩
    replace HB := below_step HB hGR
    replace HBX1 := blk_below HBX1 hGR
    clear hGR
    show Code.wp _ _ _ _ _
    refine wp_ret (then_ret ?_)
    refine bodyPost_ret (results_single rfl (vtmp s2 .nil)) hD ?_
    exact ⟨by rw [vecOK_false (fun h => pd3 (by have := h.1; omega))], HB⟩
  · rw [cd3]
    show Code.wp _ _ _ _ _
    have pd3 := cd3
    simp at pd3
    have hl : (xs.length : Int) = 16 := by simpa using cd3
    refine wp_skip ?_
    show Code.wp _ _ _ _ _
    refine wp_seq ?_
    refine wp_seq ?_
    refine deedL [.eq 3 (.int .i64 0), .eq 1 (.pointer (some ⟨g1, 0, none⟩)), .w (Below w2.heap.size w2)] 26 [[]] [] [0, 1, 2] hM hN hD (by kernel_rfl) ⟨s1, ⟨Below.refl _ _, below_drew (Below.refl _ _)⟩, trivial⟩ ⟨fun _ _ hb h => below_step h hb, trivial⟩ (fun hgrow => ⟨fun _ _ _ => rv rfl (x_assign rfl rfl) rfl, trivial⟩) ?_
    clear s1 s7
    clear hN hD
    rintro a5 w5 hN hD ⟨s3, s1, hGR, -⟩
    replace HB := below_step HB hGR
    replace HBX1 := blk_below HBX1 hGR
    clear hGR
    show Code.wp _ _ _ _ _
    refine wp_block ?_
    refine wp_loopN (fun n_ q_ w_ => ∃ (i : Int), (q_.tmps.size = 26) ∧ (q_.defers = []) ∧ (sl q_ 1 = .pointer (some ⟨g1, 0, none⟩)) ∧ (sl q_ 3 = .int .i64 i) ∧ (Below w.heap.size w w_) ∧ (w_.heap[g1]? = some (.cells ([.slice A xs.length c]).toArray 41 (0, 0))) ∧ (0 ≤ i) ∧ (i ≤ 16) ∧ (∀ j : Int, 0 ≤ j → j < i → 0 ≤ gi xs j ∧ gi xs j ≤ 1000000000000) ∧ (n_ = (16 - i).toNat)) ((fun (i : Int) => (16 - i).toNat) 0) ?_ ?_
    · exact ⟨0, hN, hD, s1, s3, HB, HBX1, (by omega), (by omega), (by intro j h0 h1; omega), rfl⟩
    clear s1 s3 HB HBX1 hN hD
    rintro n_6 a6 w6 ⟨i, hN, hD, s1, s3, HB, HBX1, hi0, hi1, hi, hmeas⟩
    refine wp_seq ?_
    refine wp_seq ?_
    refine deedL [.eq 8 (.int .i64 i), .eq 9 (.bool (decide (i < 16))), .eq 1 (.pointer (some ⟨g1, 0, none⟩)), .eq 3 (.int .i64 i), .w (Below w6.heap.size w6)] 26 [[3], [0]] [] [1, 2, 3, 4] hM hN hD (by kernel_rfl) ⟨s1, s3, ⟨Below.refl _ _, below_drew (Below.refl _ _)⟩, trivial⟩ ⟨fun _ _ hb h => below_step h hb, trivial⟩ (fun hgrow => ⟨fun _ _ h => rv rfl (x_move rfl h.1) rfl,
      fun _ _ h => rv rfl (x_lss rfl h.1 rfl) rfl, trivial⟩) ?_
    clear s1 s3
    clear hN hD
    rintro a7 w7 hN hD ⟨s9, s1, s3, hGR, -⟩
    replace HB := below_step HB hGR
    replace HBX1 := blk_below HBX1 hGR
    clear hGR
    show Code.wp _ _ _ _ _
    refine wp_cond (t := decide (i < 16)) s9 ?_
    rcases Bool.eq_false_or_eq_true (decide (i < 16)) with cd8 | cd8
    · rw [cd8]
      show Code.wp _ _ _ _ _
      have pd8 := of_decide_eq_true cd8
      refine wp_skip ?_
      show Code.wp _ _ _ _ _
      refine wp_seq ?_
      refine wp_block ?_
      refine wp_seq ?_
      refine deedL (.eq 12 (.pointer (some ⟨g1, 0, none⟩)) :: .eq 13 (.slice A xs.length c) :: .eq 14 (.int .i64 i) :: .eq 15 (.pointer (some ((adr A).add (i.toNat * 1)))) :: .eq 16 (.int .i64 (gi xs i)) :: .eq 17 (.bool (decide (gi xs i < 0))) :: .eq 18 (.bool (decide (gi xs i < 0))) :: .gv (((decide (gi xs i < 0)) == false)) 19 (.pointer (some ⟨g1, 0, none⟩)) :: .gv (((decide (gi xs i < 0)) == false)) 20 (.slice A xs.length c) :: .gv (((decide (gi xs i < 0)) == false)) 21 (.int .i64 i) :: .gv (((decide (gi xs i < 0)) == false)) 22 (.pointer (some ((adr A).add (i.toNat * 1)))) :: .gv (((decide (gi xs i < 0)) == false)) 23 (.int .i64 (gi xs i)) :: .gv (((decide (gi xs i < 0)) == false)) 24 (.bool (decide (1000000000000 < gi xs i))) :: .eq 25 (.bool ((decide (gi xs i < 0)) || (decide (1000000000000 < gi xs i)))) :: .eq 1 (.pointer (some ⟨g1, 0, none⟩)) :: .eq 3 (.int .i64 i) :: .w (Below w7.heap.size w7) :: []) 26 [[14], [0, 16], [15], [1, 2], [3, 16], [4], [5], [6, 14], [6, 7, 16], [6, 15], [6, 8, 9], [6, 10, 16], [6, 11], [6, 12]] [] [13, 14, 15, 16] hM hN hD (by kernel_rfl) ⟨s1, s3, ⟨Below.refl _ _, below_drew (Below.refl _ _)⟩, trivial⟩ ⟨fun _ _ hb h => below_step h hb, trivial⟩ (fun hgrow => ⟨fun _ _ h => rv rfl (x_field rfl h.1 Try.underlying41 rfl sz24 (by decide) rfl) rfl,
        fun _ _ h => rv rfl (x_load1 rfl h.1 Try.underlying24 rfl (blk_one (L := [.slice A xs.length c]) (blk_below HBX1 h.2.1) 0 rfl)) rfl,
        fun _ _ h => rv rfl (x_move rfl h.1) rfl,
        fun _ _ h => rv rfl (x_index_at rfl h.1 h.2.1 Try.underlying24 sz3 (by omega) (by omega) (RI.ad HR i (by omega) (by omega))) rfl,
        fun _ _ h => rv rfl (x_load1 rfl h.1 Try.underlying3 rfl (RI.at_ HR (below_step HB h.2.1) (by omega) (by omega))) rfl,
        fun _ _ h => rv rfl (x_lss rfl h.1 rfl) rfl,
        fun _ _ h => rv rfl (x_move rfl h.1) rfl,
        fun _ _ h => rb rfl rfl h.1 (fun hgt => x_field rfl h.2.1 Try.underlying41 rfl sz24 (by decide) rfl) (fun _ z => z),
        fun _ _ h => rb rfl rfl h.1 (fun hgt => x_load1 rfl (h.2.1.1 hgt) Try.underlying24 rfl (blk_one (L := [.slice A xs.length c]) (blk_below HBX1 h.2.2.1) 0 rfl)) (fun _ z => z),
        fun _ _ h => rb rfl rfl h.1 (fun hgt => x_move rfl h.2.1) (fun _ z => z),
        fun _ _ h => rb rfl rfl h.1 (fun hgt => x_index_at rfl (h.2.1.1 hgt) (h.2.2.1.1 hgt) Try.underlying24 sz3 (by simp at hgt; omega) (by simp at hgt; omega) (RI.ad HR i (by simp at hgt; omega) (by simp at hgt; omega))) (fun _ z => z),
        fun _ _ h => rb rfl rfl h.1 (fun hgt => x_load1 rfl (h.2.1.1 hgt) Try.underlying3 rfl (RI.at_ HR (below_step HB h.2.2.1) (by simp at hgt; omega) (by simp at hgt; omega))) (fun _ z => z),
        fun _ _ h => rb rfl rfl h.1 (fun hgt => x_gtr rfl (h.2.1.1 hgt) rfl) (fun _ z => z),
        fun _ _ h => rv rfl (x_or rfl rfl h.1 (fun hc => h.2.1.1 (beq_iff_eq.2 hc))) rfl, trivial⟩) ?_
      clear s1 s3 s9
      clear hN hD
      rintro a9 w9 hN hD ⟨s25, s1, s3, hGR, -⟩
      replace HB := below_step HB hGR
      replace HBX1 := blk_below HBX1 hGR
      clear hGR
      show Code.wp _ _ _ _ _
      refine wp_cond (t := (decide (gi xs i < 0)) || (decide (1000000000000 < gi xs i))) s25 ?_
      rcases Bool.eq_false_or_eq_true ((decide (gi xs i < 0)) || (decide (1000000000000 < gi xs i))) with cd10 | cd10
      · rw [cd10]
        show Code.wp _ _ _ _ _
        have hb := cd10
        refine wp_seq ?_
        refine deedL [.eq 2 (.bool false), .w (Below w9.heap.size w9)] 26 [[]] [] [0, 1] hM hN hD (by kernel_rfl) ⟨⟨Below.refl _ _, below_drew (Below.refl _ _)⟩, trivial⟩ ⟨fun _ _ hb h => below_step h hb, trivial⟩ (fun hgrow => ⟨fun _ _ _ => rv rfl (x_assign rfl rfl) rfl, trivial⟩) ?_
        clear s1 s3 s25
        clear hN hD
        rintro a11 w11 hN hD ⟨s2, hGR, -⟩
        replace HB := below_step HB hGR
        replace HBX1 := blk_below HBX1 hGR
        clear hGR
        show Code.wp _ _ _ _ _
        refine wp_ret (blk_ret (then_ret (then_ret (blk_ret (then_ret ?_)))))
        refine bodyPost_ret (results_single rfl (vtmp s2 .nil)) hD ?_
        exact ⟨by rw [vecOK_false (fun h => by have := h.2 i hi0 (by omega); simp at hb; omega)], HB⟩
      · rw [cd10]
        show Code.wp _ _ _ _ _
        have hb : 0 ≤ gi xs i ∧ gi xs i ≤ 1000000000000 := by have := cd10; simp at this; omega
        refine wp_skip ?_
        show Code.wp _ _ _ _ _
        refine deedL [.eq 10 (.int .i64 i), .eq 11 (.int .i64 (i + 1)), .eq 3 (.int .i64 (i + 1)), .eq 1 (.pointer (some ⟨g1, 0, none⟩)), .eq 3 (.int .i64 i), .w (Below w9.heap.size w9)] 26 [[4], [0], [1]] [[], [], [4]] [2, 3, 5] hM hN hD (by kernel_rfl) ⟨s1, s3, ⟨Below.refl _ _, below_drew (Below.refl _ _)⟩, trivial⟩ ⟨fun _ _ hb h => below_step h hb, trivial⟩ (fun hgrow => ⟨fun _ _ h => rv rfl (x_move rfl h.1) rfl,
          fun _ _ h => rv rfl (x_add' rfl h.1 rfl (by omega)) rfl,
          fun _ _ h => rv rfl (x_assign rfl h.1) rfl, trivial⟩) ?_
        clear s1 s3 s25
        clear hN hD
        rintro a12 w12 hN hD ⟨s3, s1, hGR, -⟩
        replace HB := below_step HB hGR
        replace HBX1 := blk_below HBX1 hGR
        clear hGR
        show ∃ m, m < n_6 ∧ _
        exact ⟨_, (by omega), ⟨(i + 1), hN, hD, s1, s3, HB, HBX1, (by omega), (by omega), (by intro j h0 h1; by_cases e : j = i; (subst e; exact hb); exact hi j h0 (by omega)), rfl⟩⟩
    · rw [cd8]
      show Code.wp _ _ _ _ _
      have pd8 := of_decide_eq_false cd8
      refine wp_exit (then_exit (then_exit (at_exit ?_)))
      show Code.wp _ _ _ _ _
      refine wp_seq ?_
      refine deedL [.eq 2 (.bool true), .w (Below w7.heap.size w7)] 26 [[]] [] [0, 1] hM hN hD (by kernel_rfl) ⟨⟨Below.refl _ _, below_drew (Below.refl _ _)⟩, trivial⟩ ⟨fun _ _ hb h => below_step h hb, trivial⟩ (fun hgrow => ⟨fun _ _ _ => rv rfl (x_assign rfl rfl) rfl, trivial⟩) ?_
      clear s1 s3 s9
      clear hN hD
      rintro a13 w13 hN hD ⟨s2, hGR, -⟩
      replace HB := below_step HB hGR
      replace HBX1 := blk_below HBX1 hGR
      clear hGR
      show Code.wp _ _ _ _ _
      refine wp_ret ?_
      refine bodyPost_ret (results_single rfl (vtmp s2 .nil)) hD ?_
      exact ⟨by rw [vecOK_true ⟨by omega, fun j h0 h1 => hi j h0 (by omega)⟩], HB⟩
set_option maxHeartbeats 2000000 in
theorem iVecOK_calls (A : Option Addr) (xs : List Int) (c : Nat) (w : World) (HR : RI w A xs) : Calls Try.prog 60 #[.agg #[Value.slice A xs.length c]] w fun e w' => e = .returned (.bool (vecOK xs)) ∧ Below w.heap.size w w' := by
  refine calls_of_wp Try.func60 rfl ?_
  refine enter_ (N := 23) rfl ?_
  rintro a0 hN hD ⟨s0, -⟩
  have HB : Below w.heap.size w w := Below.refl _ _
  refine wp_seq ?_
  refine deedL [.s1 1 (NewB w.heap.size [.slice A xs.length c] 41), .eq 2 (.bool false), .eq 0 (.agg #[Value.slice A xs.length c]), .w (Below w.heap.size w)] 23 [[3, 2], []] [] [0, 2, 3] hM hN hD (by kernel_rfl) ⟨s0, ⟨Below.refl _ _, below_drew (Below.refl _ _)⟩, trivial⟩ ⟨fun _ _ _ hb h => h.grow hb, fun _ _ hb h => below_step h hb, trivial⟩ (fun hgrow => ⟨fun _ _ h => rbox hgrow rfl (x_box rfl h.2.1) h.1.size (fun _ _ z => z),
    fun _ _ _ => rv rfl (x_assign rfl rfl) rfl, trivial⟩) ?_
  clear s0
  clear hN hD
  rintro a1 w1 hN hD ⟨⟨g1, s1, lg1, HBX1⟩, s0, hGR, -⟩
  replace HB := below_step HB hGR
  clear hGR
  show Code.wp _ _ _ _ _
  refine wp_seq ?_
  refine wp_seq ?_
  refine deedL [.eq 5 (.pointer (some ⟨g1, 0, none⟩)), .eq 6 (.slice A xs.length c), .eq 7 (.int .i64 (xs.length : Int)), .eq 8 (.bool ((xs.length : Int) != 16)), .eq 1 (.pointer (some ⟨g1, 0, none⟩)), .w (Below w1.heap.size w1)] 23 [[4], [0, 5], [1], [2]] [] [3, 4, 5] hM hN hD (by kernel_rfl) ⟨s1, ⟨Below.refl _ _, below_drew (Below.refl _ _)⟩, trivial⟩ ⟨fun _ _ hb h => below_step h hb, trivial⟩ (fun hgrow => ⟨fun _ _ h => rv rfl (x_field rfl h.1 Try.underlying41 rfl sz24 (by decide) rfl) rfl,
    fun _ _ h => rv rfl (x_load1 rfl h.1 Try.underlying24 rfl (blk_one (L := [.slice A xs.length c]) (blk_below HBX1 h.2.1) 0 rfl)) rfl,
    fun _ _ h => rv rfl (x_len_slice rfl Try.underlying24 h.1) rfl,
    fun _ _ h => rv rfl (x_neq rfl h.1 rfl) rfl, trivial⟩) ?_
  clear s0 s1
  clear hN hD
  rintro a2 w2 hN hD ⟨s8, s1, hGR, -⟩
  replace HB := below_step HB hGR
  replace HBX1 := blk_below HBX1 hGR
  clear hGR
  show Code.wp _ _ _ _ _
  refine wp_cond (t := (xs.length : Int) != 16) s8 ?_
  rcases Bool.eq_false_or_eq_true ((xs.length : Int) != 16) with cd3 | cd3
  · rw [cd3]
    show Code.wp _ _ _ _ _
    have pd3 := cd3
    simp at pd3
    refine wp_seq ?_
    refine deedL [.eq 2 (.bool false), .w (Below w2.heap.size w2)] 23 [[]] [] [0, 1] hM hN hD (by kernel_rfl) ⟨⟨Below.refl _ _, below_drew (Below.refl _ _)⟩, trivial⟩ ⟨fun _ _ hb h => below_step h hb, trivial⟩ (fun hgrow => ⟨fun _ _ _ => rv rfl (x_assign rfl rfl) rfl, trivial⟩) ?_
    clear s1 s8
    clear hN hD
    rintro a4 w4 hN hD ⟨s2, hGR, -⟩
    replace HB := below_step HB hGR
    replace HBX1 := blk_below HBX1 hGR
    clear hGR
    show Code.wp _ _ _ _ _
    refine wp_ret (then_ret ?_)
    refine bodyPost_ret (results_single rfl (vtmp s2 .nil)) hD ?_
    exact ⟨by rw [vecOK_false (fun h => pd3 (by have := h.1; omega))], HB⟩
  · rw [cd3]
    show Code.wp _ _ _ _ _
    have pd3 := cd3
    simp at pd3
    have hl : (xs.length : Int) = 16 := by simpa using cd3
    refine wp_skip ?_
    show Code.wp _ _ _ _ _
    refine wp_seq ?_
    refine wp_seq ?_
    refine deedL [.eq 9 (.pointer (some ⟨g1, 0, none⟩)), .eq 10 (.slice A xs.length c), .eq 11 (.int .i64 (xs.length : Int)), .eq 12 (.int .i64 0), .eq 1 (.pointer (some ⟨g1, 0, none⟩)), .w (Below w2.heap.size w2)] 23 [[4], [0, 5], [1], []] [] [1, 2, 3, 4, 5] hM hN hD (by kernel_rfl) ⟨s1, ⟨Below.refl _ _, below_drew (Below.refl _ _)⟩, trivial⟩ ⟨fun _ _ hb h => below_step h hb, trivial⟩ (fun hgrow => ⟨fun _ _ h => rv rfl (x_field rfl h.1 Try.underlying41 rfl sz24 (by decide) rfl) rfl,
      fun _ _ h => rv rfl (x_load1 rfl h.1 Try.underlying24 rfl (blk_one (L := [.slice A xs.length c]) (blk_below HBX1 h.2.1) 0 rfl)) rfl,
      fun _ _ h => rv rfl (x_len_slice rfl Try.underlying24 h.1) rfl,
      fun _ _ _ => rv rfl (x_move rfl rfl) rfl, trivial⟩) ?_
    clear s1 s8
    clear hN hD
    rintro a5 w5 hN hD ⟨s10, s11, s12, s1, hGR, -⟩
    replace HB := below_step HB hGR
    replace HBX1 := blk_below HBX1 hGR
    clear hGR
    show Code.wp _ _ _ _ _
    refine wp_block ?_
    refine wp_loopN (fun n_ q_ w_ => ∃ (i : Int), (q_.tmps.size = 23) ∧ (q_.defers = []) ∧ (sl q_ 10 = .slice A xs.length c) ∧ (sl q_ 11 = .int .i64 (xs.length : Int)) ∧ (sl q_ 12 = .int .i64 i) ∧ (Below w.heap.size w w_) ∧ (w_.heap[g1]? = some (.cells ([.slice A xs.length c]).toArray 41 (0, 0))) ∧ (0 ≤ i) ∧ (i ≤ 16) ∧ (∀ j : Int, 0 ≤ j → j < i → 0 ≤ gi xs j ∧ gi xs j ≤ 1000000000000) ∧ (n_ = (16 - i).toNat)) ((fun (i : Int) => (16 - i).toNat) 0) ?_ ?_
    · exact ⟨0, hN, hD, s10, s11, s12, HB, HBX1, (by omega), (by omega), (by intro j h0 h1; omega), rfl⟩
    clear s1 s10 s11 s12 HB HBX1 hN hD
    rintro n_6 a6 w6 ⟨i, hN, hD, s10, s11, s12, HB, HBX1, hi0, hi1, hi, hmeas⟩
    refine wp_seq ?_
    refine deedL [.eq 13 (.bool (decide (i < (xs.length : Int)))), .eq 10 (.slice A xs.length c), .eq 11 (.int .i64 (xs.length : Int)), .eq 12 (.int .i64 i), .w (Below w6.heap.size w6)] 23 [[3, 2]] [] [0, 1, 2, 3, 4] hM hN hD (by kernel_rfl) ⟨s10, s11, s12, ⟨Below.refl _ _, below_drew (Below.refl _ _)⟩, trivial⟩ ⟨fun _ _ hb h => below_step h hb, trivial⟩ (fun hgrow => ⟨fun _ _ h => rv rfl (x_lss rfl h.1 h.2.1) rfl, trivial⟩) ?_
    clear s10 s11 s12
    clear hN hD
    rintro a7 w7 hN hD ⟨s13, s10, s11, s12, hGR, -⟩
    replace HB := below_step HB hGR
    replace HBX1 := blk_below HBX1 hGR
    clear hGR
    show Code.wp _ _ _ _ _
    refine wp_seq ?_
    refine wp_cond (t := decide (i < (xs.length : Int))) s13 ?_
    rcases Bool.eq_false_or_eq_true (decide (i < (xs.length : Int))) with cd8 | cd8
    · rw [cd8]
      show Code.wp _ _ _ _ _
      have pd8 := of_decide_eq_true cd8
      refine wp_skip ?_
      show Code.wp _ _ _ _ _
      refine wp_seq ?_
      refine wp_block ?_
      refine wp_seq ?_
      refine deedL [.eq 14 (.pointer (some ((adr A).add (i.toNat * 1)))), .eq 15 (.int .i64 (gi xs i)), .eq 4 (.int .i64 (gi xs i)), .eq 10 (.slice A xs.length c), .eq 11 (.int .i64 (xs.length : Int)), .eq 12 (.int .i64 i), .w (Below w7.heap.size w7)] 23 [[3, 5], [0, 6], [1]] [] [2, 3, 4, 5, 6] hM hN hD (by kernel_rfl) ⟨s10, s11, s12, ⟨Below.refl _ _, below_drew (Below.refl _ _)⟩, trivial⟩ ⟨fun _ _ hb h => below_step h hb, trivial⟩ (fun hgrow => ⟨fun _ _ h => rv rfl (x_index_at rfl h.1 h.2.1 Try.underlying24 sz3 (by omega) (by omega) (RI.ad HR i (by omega) (by omega))) rfl,
        fun _ _ h => rv rfl (x_load1 rfl h.1 Try.underlying3 rfl (RI.at_ HR (below_step HB h.2.1) (by omega) (by omega))) rfl,
        fun _ _ h => rv rfl (x_assign rfl h.1) rfl, trivial⟩) ?_
      clear s10 s11 s12 s13
      clear hN hD
      rintro a9 w9 hN hD ⟨s4, s10, s11, s12, hGR, -⟩
      replace HB := below_step HB hGR
      replace HBX1 := blk_below HBX1 hGR
      clear hGR
      show Code.wp _ _ _ _ _
      refine wp_seq ?_
      refine deedL [.eq 16 (.int .i64 (gi xs i)), .eq 17 (.bool (decide (gi xs i < 0))), .eq 18 (.bool (decide (gi xs i < 0))), .gv (((decide (gi xs i < 0)) == false)) 19 (.int .i64 (gi xs i)), .gv (((decide (gi xs i < 0)) == false)) 20 (.bool (decide (1000000000000 < gi xs i))), .eq 21 (.bool ((decide (gi xs i < 0)) || (decide (1000000000000 < gi xs i)))), .eq 4 (.int .i64 (gi xs i)), .eq 10 (.slice A xs.length c), .eq 11 (.int .i64 (xs.length : Int)), .eq 12 (.int .i64 i), .w (Below w9.heap.size w9)] 23 [[6], [0], [1], [2, 6], [2, 3], [2, 4]] [] [5, 6, 7, 8, 9, 10] hM hN hD (by kernel_rfl) ⟨s4, s10, s11, s12, ⟨Below.refl _ _, below_drew (Below.refl _ _)⟩, trivial⟩ ⟨fun _ _ hb h => below_step h hb, trivial⟩ (fun hgrow => ⟨fun _ _ h => rv rfl (x_move rfl h.1) rfl,
        fun _ _ h => rv rfl (x_lss rfl h.1 rfl) rfl,
        fun _ _ h => rv rfl (x_move rfl h.1) rfl,
        fun _ _ h => rb rfl rfl h.1 (fun hgt => x_move rfl h.2.1) (fun _ z => z),
        fun _ _ h => rb rfl rfl h.1 (fun hgt => x_gtr rfl (h.2.1.1 hgt) rfl) (fun _ z => z),
        fun _ _ h => rv rfl (x_or rfl rfl h.1 (fun hc => h.2.1.1 (beq_iff_eq.2 hc))) rfl, trivial⟩) ?_
      clear s10 s11 s12 s4
      clear hN hD
      rintro a10 w10 hN hD ⟨s21, s4, s10, s11, s12, hGR, -⟩
      replace HB := below_step HB hGR
      replace HBX1 := blk_below HBX1 hGR
      clear hGR
      show Code.wp _ _ _ _ _
      refine wp_cond (t := (decide (gi xs i < 0)) || (decide (1000000000000 < gi xs i))) s21 ?_
      rcases Bool.eq_false_or_eq_true ((decide (gi xs i < 0)) || (decide (1000000000000 < gi xs i))) with cd11 | cd11
      · rw [cd11]
        show Code.wp _ _ _ _ _
        have hb := cd11
        refine wp_seq ?_
        refine deedL [.eq 2 (.bool false), .w (Below w10.heap.size w10)] 23 [[]] [] [0, 1] hM hN hD (by kernel_rfl) ⟨⟨Below.refl _ _, below_drew (Below.refl _ _)⟩, trivial⟩ ⟨fun _ _ hb h => below_step h hb, trivial⟩ (fun hgrow => ⟨fun _ _ _ => rv rfl (x_assign rfl rfl) rfl, trivial⟩) ?_
        clear s4 s10 s11 s12 s21
        clear hN hD
        rintro a12 w12 hN hD ⟨s2, hGR, -⟩
        replace HB := below_step HB hGR
        replace HBX1 := blk_below HBX1 hGR
        clear hGR
        show Code.wp _ _ _ _ _
        refine wp_ret (blk_ret (then_ret (then_ret (blk_ret (then_ret ?_)))))
        refine bodyPost_ret (results_single rfl (vtmp s2 .nil)) hD ?_
        exact ⟨by rw [vecOK_false (fun h => by have := h.2 i hi0 (by omega); simp at hb; omega)], HB⟩
      · rw [cd11]
        show Code.wp _ _ _ _ _
        have hb : 0 ≤ gi xs i ∧ gi xs i ≤ 1000000000000 := by have := cd11; simp at this; omega
        refine wp_skip ?_
        show Code.wp _ _ _ _ _
        refine deedL [.eq 22 (.int .i64 (i + 1)), .eq 12 (.int .i64 (i + 1)), .eq 10 (.slice A xs.length c), .eq 11 (.int .i64 (xs.length : Int)), .eq 12 (.int .i64 i), .w (Below w10.heap.size w10)] 23 [[4], [0]] [[], [4]] [1, 2, 3, 5] hM hN hD (by kernel_rfl) ⟨s10, s11, s12, ⟨Below.refl _ _, below_drew (Below.refl _ _)⟩, trivial⟩ ⟨fun _ _ hb h => below_step h hb, trivial⟩ (fun hgrow => ⟨fun _ _ h => rv rfl (x_add' rfl h.1 rfl (by omega)) rfl,
          fun _ _ h => rv rfl (x_move rfl h.1) rfl, trivial⟩) ?_
        clear s4 s10 s11 s12 s21
        clear hN hD
        rintro a13 w13 hN hD ⟨s12, s10, s11, hGR, -⟩
        replace HB := below_step HB hGR
        replace HBX1 := blk_below HBX1 hGR
        clear hGR
        show ∃ m, m < n_6 ∧ _
        exact ⟨_, (by omega), ⟨(i + 1), hN, hD, s10, s11, s12, HB, HBX1, (by omega), (by omega), (by intro j h0 h1; by_cases e : j = i; (subst e; exact hb); exact hi j h0 (by omega)), rfl⟩⟩
    · rw [cd8]
      show Code.wp _ _ _ _ _
      have pd8 := of_decide_eq_false cd8
      refine wp_exit (then_exit (then_exit (at_exit ?_)))
      show Code.wp _ _ _ _ _
      refine wp_seq ?_
      refine deedL [.eq 2 (.bool true), .w (Below w7.heap.size w7)] 23 [[]] [] [0, 1] hM hN hD (by kernel_rfl) ⟨⟨Below.refl _ _, below_drew (Below.refl _ _)⟩, trivial⟩ ⟨fun _ _ hb h => below_step h hb, trivial⟩ (fun hgrow => ⟨fun _ _ _ => rv rfl (x_assign rfl rfl) rfl, trivial⟩) ?_
      clear s10 s11 s12 s13
      clear hN hD
      rintro a14 w14 hN hD ⟨s2, hGR, -⟩
      replace HB := below_step HB hGR
      replace HBX1 := blk_below HBX1 hGR
      clear hGR
      show Code.wp _ _ _ _ _
      refine wp_ret ?_
      refine bodyPost_ret (results_single rfl (vtmp s2 .nil)) hD ?_
      exact ⟨by rw [vecOK_true ⟨by omega, fun j h0 h1 => hi j h0 (by omega)⟩], HB⟩
end Go.Proofs.Ytideafkiaipnoaa.Q

/- Functions walked. -/
namespace Go.Proofs.Ytideafkiaipnoaa.Q
open Go Go.RowKit Go.Proofs.YtideafkiaipnoaaW.PrintWords Go.Proofs.YtideafkiaipnoaaW.PrintLast Go.Proofs.Ytideafkiaipnoaa.Deed
set_option maxRecDepth 100000
set_option linter.unusedVariables false
set_option linter.unusedSimpArgs false
noncomputable def eqB {β : Type} (a b : β) : Bool := by classical exact decide (a = b)
theorem eqB_true {β : Type} {a b : β} (h : a = b) : eqB a b = true := by simp [eqB, h]
theorem eqB_false {β : Type} {a b : β} (h : a ≠ b) : eqB a b = false := by simp [eqB, h]
theorem eqB_iff {β : Type} {a b : β} : eqB a b = true ↔ a = b := by simp [eqB]
theorem eqB_iff' {β : Type} {a b : β} : eqB a b = false ↔ a ≠ b := by simp [eqB]
theorem toList_data (s : ByteArray) : s.toList = s.data.toList := ByteArray.toList_eq s
theorem beq_toList (a b : ByteArray) : (a.toList == b.toList) = eqB a b := by
  by_cases h : a = b
  · subst h; simp [eqB]
  · rw [eqB_false h, beq_eq_false_iff_ne]
    intro e
    rw [toList_data, toList_data] at e
    exact h (ByteArray.ext (Array.ext' e))
theorem map_eq {α β : Type} [Inhabited α] {f : α → β} {xs ys : List α} (hl : xs.length = ys.length) (h : ∀ j : Int, 0 ≤ j → j < xs.length → f (gd xs j) = f (gd ys j)) : xs.map f = ys.map f := by
  apply List.ext_getElem (by simpa using hl)
  intro i h1 h2
  have h3 : i < xs.length := by simpa using h1
  have h4 : i < ys.length := by simpa using h2
  have := h i (by omega) (by omega)
  simpa [gd, List.getD_eq_getElem?_getD, h3, h4] using this
theorem map_ne {α β : Type} [Inhabited α] {f : α → β} {xs ys : List α} {j : Int} (h0 : 0 ≤ j) (h1 : j < xs.length) (h : f (gd xs j) ≠ f (gd ys j)) : xs.map f ≠ ys.map f := by
  intro e
  have hl := congrArg List.length e
  simp at hl
  have h2 := congrArg (·[j.toNat]?) e
  simp only [List.getElem?_map, gd_of h0 h1, gd_of h0 (by omega : j < ys.length)] at h2
  simp at h2
  exact h h2
theorem map_len {α β : Type} {f : α → β} {xs ys : List α} (h : ¬ (xs.length : Int) = ys.length) : xs.map f ≠ ys.map f := by
  intro e
  have hl := congrArg List.length e
  simp at hl
  exact h (by omega)
theorem held_neg {xs : List Int} {k : Int} (h : held xs k < 0) : xs ≠ mk k xs.length ∨ k < 0 := by
  unfold held at h
  split at h
  · exact .inr (by omega)
  · exact .inl (by assumption)
theorem held_ok {xs : List Int} {k : Int} (h : ¬ held xs k < 0) (hk : 0 ≤ k) : xs = mk k xs.length ∧ held xs k = k + (xs.length : Int) := by
  unfold held at h ⊢
  split at h
  · rename_i h1; exact ⟨h1, if_pos h1⟩
  · omega
set_option maxHeartbeats 2000000 in
theorem eqV_calls (A : Option Addr) (xs : List Int) (c : Nat) (E : Option Addr) (ys : List Int) (d : Nat) (w : World) (HR1 : RI w A xs) (HR2 : RI w E ys) (hn : xs.length ≤ 1099511627776) : Calls Try.prog 27 #[.agg #[Value.slice A xs.length c], .agg #[Value.slice E ys.length d]] w fun e w' => e = .returned (.bool (xs == ys)) ∧ Below w.heap.size w w' := by
  refine calls_of_wp Try.func27 rfl ?_
  refine enter_ (N := 11) rfl ?_
  rintro a0 hN hD ⟨s0, s1, -⟩
  have HB : Below w.heap.size w w := Below.refl _ _
  refine wp_seq ?_
  refine deedL [.s1 2 (NewB w.heap.size [.slice A xs.length c] 41), .s1 3 (NewB w.heap.size [.slice E ys.length d] 41), .eq 4 (.bool false), .eq 0 (.agg #[Value.slice A xs.length c]), .eq 1 (.agg #[Value.slice E ys.length d]), .w (Below w.heap.size w)] 11 [[5, 3], [5, 4], []] [] [0, 1, 3, 4, 5] hM hN hD (by kernel_rfl) ⟨s0, s1, ⟨Below.refl _ _, below_drew (Below.refl _ _)⟩, trivial⟩ ⟨fun _ _ _ hb h => h.grow hb, fun _ _ _ hb h => h.grow hb, fun _ _ hb h => below_step h hb, trivial⟩ (fun hgrow => ⟨fun _ _ h => rbox hgrow rfl (x_box rfl h.2.1) h.1.size (fun _ _ z => z),
    fun _ _ h => rbox hgrow rfl (x_box rfl h.2.1) h.1.size (fun _ _ z => z),
    fun _ _ _ => rv rfl (x_assign rfl rfl) rfl, trivial⟩) ?_
  clear s0 s1
  clear hN hD
  rintro a1 w1 hN hD ⟨⟨g2, s2, lg2, HBX2⟩, ⟨g3, s3, lg3, HBX3⟩, s0, s1, hGR, -⟩
  replace HB := below_step HB hGR
  clear hGR
  show Code.wp _ _ _ _ _
  refine wp_seq ?_
  refine wp_seq ?_
  refine deedL [.eq 5 (.pointer (some ⟨g2, 0, none⟩)), .eq 6 (.slice A xs.length c), .eq 7 (.pointer (some ⟨g3, 0, none⟩)), .eq 8 (.slice E ys.length d), .eq 9 (.bool (xs == ys)), .eq 10 (.bool (!(xs == ys))), .eq 2 (.pointer (some ⟨g2, 0, none⟩)), .eq 3 (.pointer (some ⟨g3, 0, none⟩)), .w (Below w1.heap.size w1)] 11 [[6], [0, 8], [7], [2, 8], [1, 3, 8], [4]] [] [5, 6, 7, 8] hM hN hD (by kernel_rfl) ⟨s2, s3, ⟨Below.refl _ _, below_drew (Below.refl _ _)⟩, trivial⟩ ⟨fun _ _ hb h => below_step h hb, trivial⟩ (fun hgrow => ⟨fun _ _ h => rv rfl (x_field rfl h.1 Try.underlying41 rfl sz24 (by decide) rfl) rfl,
    fun _ _ h => rv rfl (x_load1 rfl h.1 Try.underlying24 rfl (blk_one (L := [.slice A xs.length c]) (blk_below HBX2 h.2.1) 0 rfl)) rfl,
    fun _ _ h => rv rfl (x_field rfl h.1 Try.underlying41 rfl sz24 (by decide) rfl) rfl,
    fun _ _ h => rv rfl (x_load1 rfl h.1 Try.underlying24 rfl (blk_one (L := [.slice E ys.length d]) (blk_below HBX3 h.2.1) 0 rfl)) rfl,
    fun _ _ h => rc hgrow rfl Try.func16 (by kernel_rfl) rfl rfl (args2 h.1 h.2.1) (eqI_calls A xs c E ys d _ (RI.below HR1 (below_step HB h.2.2.1)) (RI.below HR2 (below_step HB h.2.2.1)) hn) (fun _ _ h => ⟨_, h.1, h.2, rfl⟩),
    fun _ _ h => rv rfl (x_not rfl h.1) rfl, trivial⟩) ?_
  clear s0 s1 s2 s3
  clear hN hD
  rintro a2 w2 hN hD ⟨s10, s2, s3, hGR, -⟩
  replace HB := below_step HB hGR
  replace HBX2 := blk_below HBX2 hGR
  replace HBX3 := blk_below HBX3 hGR
  clear hGR
  show Code.wp _ _ _ _ _
  refine wp_cond (t := !(xs == ys)) s10 ?_
  rcases Bool.eq_false_or_eq_true (!(xs == ys)) with cd3 | cd3
  · rw [cd3]
    show Code.wp _ _ _ _ _
    have pd3 := cd3
    simp at pd3
    refine wp_seq ?_
    refine deedL [.eq 4 (.bool false), .w (Below w2.heap.size w2)] 11 [[]] [] [0, 1] hM hN hD (by kernel_rfl) ⟨⟨Below.refl _ _, below_drew (Below.refl _ _)⟩, trivial⟩ ⟨fun _ _ hb h => below_step h hb, trivial⟩ (fun hgrow => ⟨fun _ _ _ => rv rfl (x_assign rfl rfl) rfl, trivial⟩) ?_
    clear s2 s3 s10
    clear hN hD
    rintro a4 w4 hN hD ⟨s4, hGR, -⟩
    replace HB := below_step HB hGR
    replace HBX2 := blk_below HBX2 hGR
    replace HBX3 := blk_below HBX3 hGR
    clear hGR
    show Code.wp _ _ _ _ _
    refine wp_ret (then_ret ?_)
    refine bodyPost_ret (results_single rfl (vtmp s4 .nil)) hD ?_
    exact ⟨by simp at cd3; simp [cd3], HB⟩
  · rw [cd3]
    show Code.wp _ _ _ _ _
    have pd3 := cd3
    simp at pd3
    refine wp_skip ?_
    show Code.wp _ _ _ _ _
    refine wp_seq ?_
    refine deedL [.eq 4 (.bool true), .w (Below w2.heap.size w2)] 11 [[]] [] [0, 1] hM hN hD (by kernel_rfl) ⟨⟨Below.refl _ _, below_drew (Below.refl _ _)⟩, trivial⟩ ⟨fun _ _ hb h => below_step h hb, trivial⟩ (fun hgrow => ⟨fun _ _ _ => rv rfl (x_assign rfl rfl) rfl, trivial⟩) ?_
    clear s2 s3 s10
    clear hN hD
    rintro a5 w5 hN hD ⟨s4, hGR, -⟩
    replace HB := below_step HB hGR
    replace HBX2 := blk_below HBX2 hGR
    replace HBX3 := blk_below HBX3 hGR
    clear hGR
    show Code.wp _ _ _ _ _
    refine wp_ret ?_
    refine bodyPost_ret (results_single rfl (vtmp s4 .nil)) hD ?_
    exact ⟨by simp at cd3; simp [cd3], HB⟩
set_option maxHeartbeats 2000000 in
theorem eqSt_calls (t a u b : Int) (w : World) : Calls Try.prog 96 #[.agg #[Value.int .i64 t, Value.int .i64 a], .agg #[Value.int .i64 u, Value.int .i64 b]] w fun e w' => e = .returned (.bool (t == u && a == b)) ∧ Below w.heap.size w w' := by
  refine calls_of_wp Try.func96 rfl ?_
  refine enter_ (N := 15) rfl ?_
  rintro a0 hN hD ⟨s0, s1, -⟩
  have HB : Below w.heap.size w w := Below.refl _ _
  refine wp_seq ?_
  refine deedL [.s1 2 (NewB w.heap.size [.int .i64 t, .int .i64 a] 65), .s1 3 (NewB w.heap.size [.int .i64 u, .int .i64 b] 65), .eq 4 (.bool false), .eq 0 (.agg #[Value.int .i64 t, Value.int .i64 a]), .eq 1 (.agg #[Value.int .i64 u, Value.int .i64 b]), .w (Below w.heap.size w)] 15 [[5, 3], [5, 4], []] [] [0, 1, 3, 4, 5] hM hN hD (by kernel_rfl) ⟨s0, s1, ⟨Below.refl _ _, below_drew (Below.refl _ _)⟩, trivial⟩ ⟨fun _ _ _ hb h => h.grow hb, fun _ _ _ hb h => h.grow hb, fun _ _ hb h => below_step h hb, trivial⟩ (fun hgrow => ⟨fun _ _ h => rbox hgrow rfl (x_box rfl h.2.1) h.1.size (fun _ _ z => z),
    fun _ _ h => rbox hgrow rfl (x_box rfl h.2.1) h.1.size (fun _ _ z => z),
    fun _ _ _ => rv rfl (x_assign rfl rfl) rfl, trivial⟩) ?_
  clear s0 s1
  clear hN hD
  rintro a1 w1 hN hD ⟨⟨g2, s2, lg2, HBX2⟩, ⟨g3, s3, lg3, HBX3⟩, s0, s1, hGR, -⟩
  replace HB := below_step HB hGR
  clear hGR
  show Code.wp _ _ _ _ _
  refine wp_seq ?_
  refine wp_seq ?_
  refine deedL [.eq 5 (.pointer (some ⟨g2, 0, none⟩)), .eq 6 (.int .i64 t), .eq 7 (.pointer (some ⟨g3, 0, none⟩)), .eq 8 (.int .i64 u), .eq 9 (.bool (t != u)), .eq 2 (.pointer (some ⟨g2, 0, none⟩)), .eq 3 (.pointer (some ⟨g3, 0, none⟩)), .w (Below w1.heap.size w1)] 15 [[5], [0, 7], [6], [2, 7], [1, 3]] [] [4, 5, 6, 7] hM hN hD (by kernel_rfl) ⟨s2, s3, ⟨Below.refl _ _, below_drew (Below.refl _ _)⟩, trivial⟩ ⟨fun _ _ hb h => below_step h hb, trivial⟩ (fun hgrow => ⟨fun _ _ h => rv rfl (x_field rfl h.1 Try.underlying65 rfl sz3 (by decide) rfl) rfl,
    fun _ _ h => rv rfl (x_load1 rfl h.1 Try.underlying3 rfl (blk_one (L := [.int .i64 t, .int .i64 a]) (blk_below HBX2 h.2.1) 0 rfl)) rfl,
    fun _ _ h => rv rfl (x_field rfl h.1 Try.underlying65 rfl sz3 (by decide) rfl) rfl,
    fun _ _ h => rv rfl (x_load1 rfl h.1 Try.underlying3 rfl (blk_one (L := [.int .i64 u, .int .i64 b]) (blk_below HBX3 h.2.1) 0 rfl)) rfl,
    fun _ _ h => rv rfl (x_neq rfl h.1 h.2.1) rfl, trivial⟩) ?_
  clear s0 s1 s2 s3
  clear hN hD
  rintro a2 w2 hN hD ⟨s9, s2, s3, hGR, -⟩
  replace HB := below_step HB hGR
  replace HBX2 := blk_below HBX2 hGR
  replace HBX3 := blk_below HBX3 hGR
  clear hGR
  show Code.wp _ _ _ _ _
  refine wp_cond (t := t != u) s9 ?_
  rcases Bool.eq_false_or_eq_true (t != u) with cd3 | cd3
  · rw [cd3]
    show Code.wp _ _ _ _ _
    have pd3 := cd3
    simp at pd3
    refine wp_seq ?_
    refine deedL [.eq 4 (.bool false), .w (Below w2.heap.size w2)] 15 [[]] [] [0, 1] hM hN hD (by kernel_rfl) ⟨⟨Below.refl _ _, below_drew (Below.refl _ _)⟩, trivial⟩ ⟨fun _ _ hb h => below_step h hb, trivial⟩ (fun hgrow => ⟨fun _ _ _ => rv rfl (x_assign rfl rfl) rfl, trivial⟩) ?_
    clear s2 s3 s9
    clear hN hD
    rintro a4 w4 hN hD ⟨s4, hGR, -⟩
    replace HB := below_step HB hGR
    replace HBX2 := blk_below HBX2 hGR
    replace HBX3 := blk_below HBX3 hGR
    clear hGR
    show Code.wp _ _ _ _ _
    refine wp_ret (then_ret ?_)
    refine bodyPost_ret (results_single rfl (vtmp s4 .nil)) hD ?_
    exact ⟨by simp at cd3; simp [cd3], HB⟩
  · rw [cd3]
    show Code.wp _ _ _ _ _
    have pd3 := cd3
    simp at pd3
    refine wp_skip ?_
    show Code.wp _ _ _ _ _
    refine wp_seq ?_
    refine wp_seq ?_
    refine deedL [.eq 10 (.pointer (some ⟨g2, 1, none⟩)), .eq 11 (.int .i64 a), .eq 12 (.pointer (some ⟨g3, 1, none⟩)), .eq 13 (.int .i64 b), .eq 14 (.bool (a != b)), .eq 2 (.pointer (some ⟨g2, 0, none⟩)), .eq 3 (.pointer (some ⟨g3, 0, none⟩)), .w (Below w2.heap.size w2)] 15 [[5], [0, 7], [6], [2, 7], [1, 3]] [] [4, 5, 6, 7] hM hN hD (by kernel_rfl) ⟨s2, s3, ⟨Below.refl _ _, below_drew (Below.refl _ _)⟩, trivial⟩ ⟨fun _ _ hb h => below_step h hb, trivial⟩ (fun hgrow => ⟨fun _ _ h => rv rfl (x_field rfl h.1 Try.underlying65 rfl sz3 (by decide) rfl) rfl,
      fun _ _ h => rv rfl (x_load1 rfl h.1 Try.underlying3 rfl (blk_one (L := [.int .i64 t, .int .i64 a]) (blk_below HBX2 h.2.1) 1 rfl)) rfl,
      fun _ _ h => rv rfl (x_field rfl h.1 Try.underlying65 rfl sz3 (by decide) rfl) rfl,
      fun _ _ h => rv rfl (x_load1 rfl h.1 Try.underlying3 rfl (blk_one (L := [.int .i64 u, .int .i64 b]) (blk_below HBX3 h.2.1) 1 rfl)) rfl,
      fun _ _ h => rv rfl (x_neq rfl h.1 h.2.1) rfl, trivial⟩) ?_
    clear s2 s3 s9
    clear hN hD
    rintro a5 w5 hN hD ⟨s14, s2, s3, hGR, -⟩
    replace HB := below_step HB hGR
    replace HBX2 := blk_below HBX2 hGR
    replace HBX3 := blk_below HBX3 hGR
    clear hGR
    show Code.wp _ _ _ _ _
    refine wp_cond (t := a != b) s14 ?_
    rcases Bool.eq_false_or_eq_true (a != b) with cd6 | cd6
    · rw [cd6]
      show Code.wp _ _ _ _ _
      have pd6 := cd6
      simp at pd6
      refine wp_seq ?_
      refine deedL [.eq 4 (.bool false), .w (Below w5.heap.size w5)] 15 [[]] [] [0, 1] hM hN hD (by kernel_rfl) ⟨⟨Below.refl _ _, below_drew (Below.refl _ _)⟩, trivial⟩ ⟨fun _ _ hb h => below_step h hb, trivial⟩ (fun hgrow => ⟨fun _ _ _ => rv rfl (x_assign rfl rfl) rfl, trivial⟩) ?_
      clear s2 s3 s14
      clear hN hD
      rintro a7 w7 hN hD ⟨s4, hGR, -⟩
      replace HB := below_step HB hGR
      replace HBX2 := blk_below HBX2 hGR
      replace HBX3 := blk_below HBX3 hGR
      clear hGR
      show Code.wp _ _ _ _ _
      refine wp_ret (then_ret ?_)
      refine bodyPost_ret (results_single rfl (vtmp s4 .nil)) hD ?_
      exact ⟨by simp at cd3; simp at cd6; simp [cd3, cd6], HB⟩
    · rw [cd6]
      show Code.wp _ _ _ _ _
      have pd6 := cd6
      simp at pd6
      refine wp_skip ?_
      show Code.wp _ _ _ _ _
      refine wp_seq ?_
      refine deedL [.eq 4 (.bool true), .w (Below w5.heap.size w5)] 15 [[]] [] [0, 1] hM hN hD (by kernel_rfl) ⟨⟨Below.refl _ _, below_drew (Below.refl _ _)⟩, trivial⟩ ⟨fun _ _ hb h => below_step h hb, trivial⟩ (fun hgrow => ⟨fun _ _ _ => rv rfl (x_assign rfl rfl) rfl, trivial⟩) ?_
      clear s2 s3 s14
      clear hN hD
      rintro a8 w8 hN hD ⟨s4, hGR, -⟩
      replace HB := below_step HB hGR
      replace HBX2 := blk_below HBX2 hGR
      replace HBX3 := blk_below HBX3 hGR
      clear hGR
      show Code.wp _ _ _ _ _
      refine wp_ret ?_
      refine bodyPost_ret (results_single rfl (vtmp s4 .nil)) hD ?_
      exact ⟨by simp at cd3; simp at cd6; simp [cd3, cd6], HB⟩
end Go.Proofs.Ytideafkiaipnoaa.Q

