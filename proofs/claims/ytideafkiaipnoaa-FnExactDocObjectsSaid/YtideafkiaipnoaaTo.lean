/- Functions walked. -/
import Derived.Test.YtideafkiaipnoaaOwn
namespace Go.Proofs.Ytideafkiaipnoaa.Q
open Go Go.RowKit Go.Proofs.YtideafkiaipnoaaW.PrintWords Go.Proofs.YtideafkiaipnoaaW.PrintLast Go.Proofs.Ytideafkiaipnoaa.Deed
set_option maxRecDepth 100000
/-- The first i copied, the rest zeros. -/
def cpy (xs : List Int) (i : Int) : List Int := xs.take i.toNat ++ List.replicate (xs.length - i.toNat) 0
theorem cpy_length {xs : List Int} {i : Int} (h : i ≤ xs.length) : (cpy xs i).length = xs.length := by simp [cpy]; omega
theorem cpy_zero (xs : List Int) : cpy xs 0 = List.replicate xs.length 0 := by simp [cpy]
theorem cpy_all {xs : List Int} {i : Int} (h : i.toNat = xs.length) : cpy xs i = xs := by simp [cpy, h]
theorem cpy_step {xs : List Int} {i : Int} (h0 : 0 ≤ i) (h1 : i < xs.length) : si (cpy xs i) i (gi xs i) = cpy xs (i + 1) := by
  have hl : i.toNat < xs.length := by omega
  have e : (i + 1).toNat = i.toNat + 1 := by omega
  unfold si cpy
  rw [e, List.set_append_right _ _ (by simp; omega)]
  rw [show i.toNat - (xs.take i.toNat).length = 0 by simp; omega, show xs.length - i.toNat = (xs.length - (i.toNat + 1)) + 1 by omega, List.replicate_succ, List.set_cons_zero, List.take_add_one, gi_of h0 h1]
  simp
set_option maxHeartbeats 2000000 in
theorem toI_calls (A : Option Addr) (xs : List Int) (c : Nat) (w : World) (HR : RI w A xs) (hn : xs.length ≤ 1048576) : Calls Try.prog 59 #[.slice A xs.length c] w fun e w' => ∃ g, e = .returned (.slice (some ⟨g, 0, none⟩) xs.length xs.length) ∧ w.heap.size ≤ g ∧ IB w' g xs 3 ∧ Below w.heap.size w w' := by
  refine calls_of_wp Try.func59 rfl ?_
  refine enter_ (N := 22) rfl ?_
  rintro a0 hN hD ⟨s0, -⟩
  have HB : Below w.heap.size w w := Below.refl _ _
  refine wp_seq ?_
  refine deedL [.eq 2 (.slice none 0 0), .eq 0 (.slice A xs.length c), .w (Below w.heap.size w)] 22 [[]] [] [1, 2] hM hN hD (by kernel_rfl) ⟨s0, ⟨Below.refl _ _, below_drew (Below.refl _ _)⟩, trivial⟩ ⟨fun _ _ hb h => below_step h hb, trivial⟩ (fun hgrow => ⟨fun _ _ _ => rv rfl (x_assign rfl rfl) rfl, trivial⟩) ?_
  clear s0
  clear hN hD
  rintro a1 w1 hN hD ⟨s0, hGR, -⟩
  replace HB := below_step HB hGR
  clear hGR
  show Code.wp _ _ _ _ _
  refine wp_seq ?_
  refine deedL [.eq 5 (.slice A xs.length c), .eq 6 (.int .i64 (xs.length : Int)), .s1 7 (NewS w1.heap.size xs.length (List.replicate xs.length 0) 3), .s2 7 3 fun x_ y_ _ => ∃ (g7 : Nat), x_ = .slice (some ⟨g7, 0, none⟩) xs.length xs.length ∧ y_ = .slice (some ⟨g7, 0, none⟩) xs.length xs.length, .eq 0 (.slice A xs.length c), .w (Below w1.heap.size w1)] 22 [[4], [0], [1, 5], [2]] [] [2, 3, 4, 5] hM hN hD (by kernel_rfl) ⟨s0, ⟨Below.refl _ _, below_drew (Below.refl _ _)⟩, trivial⟩ ⟨fun _ _ _ hb h => h.grow hb, fun _ _ _ _ hb h => h, fun _ _ hb h => below_step h hb, trivial⟩ (fun hgrow => ⟨fun _ _ h => rv rfl (x_move rfl h.1) rfl,
    fun _ _ h => rv rfl (x_len_slice rfl Try.underlying24 h.1) rfl,
    fun _ _ h => rmakeI hgrow rfl (x_makeI rfl h.1 h.1 Try.underlying24 inf3 rfl (by omega)) h.2.1.size (fun _ _ z => z),
    ?_, trivial⟩) ?_
  · rintro a_ W ⟨h2, -⟩
    obtain ⟨g7, e2, l2, hb2⟩ := h2
    exact rv rfl (x_assign rfl e2) ⟨_, e2, rfl⟩
  clear s0
  clear hN hD
  rintro a2 w2 hN hD ⟨⟨g7, s7, lg7, HBX7⟩, q3, s0, hGR, -⟩
  obtain ⟨g7_, e_, s3⟩ := q3
  cases s7.symm.trans e_
  replace lg7 := Nat.le_trans HB.size lg7
  replace HB := below_step HB hGR
  clear hGR
  show Code.wp _ _ _ _ _
  refine wp_seq ?_
  refine wp_seq ?_
  refine deedL [.eq 4 (.int .i64 0), .eq 0 (.slice A xs.length c), .eq 3 (.slice (some ⟨g7, 0, none⟩) xs.length xs.length), .w (Below w2.heap.size w2)] 22 [[]] [] [0, 1, 2, 3] hM hN hD (by kernel_rfl) ⟨s0, s3, ⟨Below.refl _ _, below_drew (Below.refl _ _)⟩, trivial⟩ ⟨fun _ _ hb h => below_step h hb, trivial⟩ (fun hgrow => ⟨fun _ _ _ => rv rfl (x_assign rfl rfl) rfl, trivial⟩) ?_
  clear s0 s3
  clear hN hD
  rintro a3 w3 hN hD ⟨s4, s0, s3, hGR, -⟩
  replace HB := below_step HB hGR
  replace HBX7 := HBX7.below hGR
  clear hGR
  show Code.wp _ _ _ _ _
  refine wp_block ?_
  refine wp_loopN (fun n_ q_ w_ => ∃ (i : Int), (q_.tmps.size = 22) ∧ (q_.defers = []) ∧ (sl q_ 0 = .slice A xs.length c) ∧ (sl q_ 3 = .slice (some ⟨g7, 0, none⟩) xs.length xs.length) ∧ (sl q_ 4 = .int .i64 i) ∧ (Below w.heap.size w w_) ∧ (IB w_ g7 (cpy xs i) 3) ∧ (0 ≤ i) ∧ (i ≤ xs.length) ∧ (n_ = (xs.length - i).toNat)) ((fun (i : Int) => (xs.length - i).toNat) 0) ?_ ?_
  · exact ⟨0, hN, hD, s0, s3, s4, HB, (by rw [cpy_zero]; exact HBX7), (by omega), (by omega), rfl⟩
  clear s0 s3 s4 HB HBX7 hN hD
  rintro n_4 a4 w4 ⟨i, hN, hD, s0, s3, s4, HB, HBX7, hi0, hi1, hmeas⟩
  have hcl := cpy_length hi1
  refine wp_seq ?_
  refine wp_seq ?_
  refine deedL [.eq 8 (.int .i64 i), .eq 9 (.slice A xs.length c), .eq 10 (.int .i64 (xs.length : Int)), .eq 11 (.bool (decide (i < (xs.length : Int)))), .eq 0 (.slice A xs.length c), .eq 3 (.slice (some ⟨g7, 0, none⟩) xs.length xs.length), .eq 4 (.int .i64 i), .w (Below w4.heap.size w4)] 22 [[6], [4], [1], [0, 2]] [] [3, 4, 5, 6, 7] hM hN hD (by kernel_rfl) ⟨s0, s3, s4, ⟨Below.refl _ _, below_drew (Below.refl _ _)⟩, trivial⟩ ⟨fun _ _ hb h => below_step h hb, trivial⟩ (fun hgrow => ⟨fun _ _ h => rv rfl (x_move rfl h.1) rfl,
    fun _ _ h => rv rfl (x_move rfl h.1) rfl,
    fun _ _ h => rv rfl (x_len_slice rfl Try.underlying24 h.1) rfl,
    fun _ _ h => rv rfl (x_lss rfl h.1 h.2.1) rfl, trivial⟩) ?_
  clear s0 s3 s4
  clear hN hD
  rintro a5 w5 hN hD ⟨s11, s0, s3, s4, hGR, -⟩
  replace HB := below_step HB hGR
  replace HBX7 := HBX7.below hGR
  clear hGR
  show Code.wp _ _ _ _ _
  refine wp_cond (t := decide (i < (xs.length : Int))) s11 ?_
  rcases Bool.eq_false_or_eq_true (decide (i < (xs.length : Int))) with cd6 | cd6
  · rw [cd6]
    show Code.wp _ _ _ _ _
    have pd6 := of_decide_eq_true cd6
    have hi2 := pd6
    refine wp_skip ?_
    show Code.wp _ _ _ _ _
    refine wp_seq ?_
    refine wp_block ?_
    refine deedL [.eq 14 (.slice (some ⟨g7, 0, none⟩) xs.length xs.length), .eq 15 (.int .i64 i), .eq 16 (.slice A xs.length c), .eq 17 (.int .i64 i), .eq 18 (.pointer (some ((adr A).add (i.toNat * 1)))), .eq 19 (.int .i64 (gi xs i)), .eq 20 (.pointer (some ⟨g7, i.toNat, none⟩)), .w fun W => IB W g7 (si (cpy xs i) i (gi xs i)) 3, .eq 0 (.slice A xs.length c), .eq 3 (.slice (some ⟨g7, 0, none⟩) xs.length xs.length), .eq 4 (.int .i64 i), .w (Kx (fun k => k = g7) w5), .w fun W => IB W g7 (cpy xs i) 3] 22 [[9], [10], [8], [10], [2, 3], [4, 11], [0, 1], [6, 5, 12]] [[], [], [], [], [], [], [], [12]] [7, 8, 9, 10, 11] hM hN hD (by kernel_rfl) ⟨s0, s3, s4, ⟨Kx.refl _ _, Kx.drew _ _⟩, ⟨HBX7, HBX7.below (below_drew (Below.refl _ _))⟩, trivial⟩ ⟨fun _ _ hb h => h.below hb, fun _ _ hb h => h.step hb, fun _ _ hb h => h.below hb, trivial⟩ (fun hgrow => ⟨fun _ _ h => rv rfl (x_move rfl h.1) rfl,
      fun _ _ h => rv rfl (x_move rfl h.1) rfl,
      fun _ _ h => rv rfl (x_move rfl h.1) rfl,
      fun _ _ h => rv rfl (x_move rfl h.1) rfl,
      fun _ _ h => rv rfl (x_index_at rfl h.1 h.2.1 Try.underlying24 sz3 (by omega) (by omega) (RI.ad HR i (by omega) (by omega))) rfl,
      fun _ _ h => rv rfl (x_load1 rfl h.1 Try.underlying3 rfl (RI.at_ HR (Kx.below HB h.2.1 HB.size (fun k e => by subst e; exact lg7)) (by omega) (by omega))) rfl,
      fun _ _ h => rv rfl (x_index_slice rfl h.1 h.2.1 Try.underlying24 sz3 (by omega) (by omega) (ptr1 _ _)) rfl,
      ?_, trivial⟩) ?_
    · rintro a_ W ⟨h6, h5, h12, -⟩
      exact rstoreI rfl rfl h6 h5 sz3 h12 (by omega) (by omega) (IB.set h12 _ _) ⟨fun h => h.set rfl _ _, trivial⟩
    clear s0 s3 s4 s11
    clear hN hD
    rintro a7 w7 hN hD ⟨MBX7, s0, s3, s4, hGR, -⟩
    have NB := Kx.below HB hGR HB.size (fun k e => by subst e; exact lg7)
    replace HB := NB
    clear NB
    replace HBX7 := MBX7
    clear MBX7
    clear hGR
    show Code.wp _ _ _ _ _
    refine deedL [.eq 12 (.int .i64 i), .eq 13 (.int .i64 (i + 1)), .eq 4 (.int .i64 (i + 1)), .eq 0 (.slice A xs.length c), .eq 3 (.slice (some ⟨g7, 0, none⟩) xs.length xs.length), .eq 4 (.int .i64 i), .w (Below w7.heap.size w7)] 22 [[5], [0], [1]] [[], [], [5]] [2, 3, 4, 6] hM hN hD (by kernel_rfl) ⟨s0, s3, s4, ⟨Below.refl _ _, below_drew (Below.refl _ _)⟩, trivial⟩ ⟨fun _ _ hb h => below_step h hb, trivial⟩ (fun hgrow => ⟨fun _ _ h => rv rfl (x_move rfl h.1) rfl,
      fun _ _ h => rv rfl (x_add' rfl h.1 rfl (by omega)) rfl,
      fun _ _ h => rv rfl (x_assign rfl h.1) rfl, trivial⟩) ?_
    clear s0 s3 s4
    clear hN hD
    rintro a8 w8 hN hD ⟨s4, s0, s3, hGR, -⟩
    replace HB := below_step HB hGR
    replace HBX7 := HBX7.below hGR
    clear hGR
    show ∃ m, m < n_4 ∧ _
    exact ⟨_, (by omega), ⟨(i + 1), hN, hD, s0, s3, s4, HB, (by rw [← cpy_step hi0 hi2]; exact HBX7), (by omega), (by omega), rfl⟩⟩
  · rw [cd6]
    show Code.wp _ _ _ _ _
    have pd6 := of_decide_eq_false cd6
    refine wp_exit (then_exit (then_exit (at_exit ?_)))
    show Code.wp _ _ _ _ _
    refine wp_seq ?_
    refine deedL [.eq 21 (.slice (some ⟨g7, 0, none⟩) xs.length xs.length), .eq 2 (.slice (some ⟨g7, 0, none⟩) xs.length xs.length), .eq 3 (.slice (some ⟨g7, 0, none⟩) xs.length xs.length), .w (Below w5.heap.size w5)] 22 [[2], [0]] [] [1, 2, 3] hM hN hD (by kernel_rfl) ⟨s3, ⟨Below.refl _ _, below_drew (Below.refl _ _)⟩, trivial⟩ ⟨fun _ _ hb h => below_step h hb, trivial⟩ (fun hgrow => ⟨fun _ _ h => rv rfl (x_move rfl h.1) rfl,
      fun _ _ h => rv rfl (x_assign rfl h.1) rfl, trivial⟩) ?_
    clear s0 s3 s4 s11
    clear hN hD
    rintro a9 w9 hN hD ⟨s2, s3, hGR, -⟩
    replace HB := below_step HB hGR
    replace HBX7 := HBX7.below hGR
    clear hGR
    show Code.wp _ _ _ _ _
    refine wp_ret ?_
    refine bodyPost_ret (results_single rfl (vtmp s2 .nil)) hD ?_
    exact ⟨g7, rfl, lg7, (by rw [cpy_all (by omega)] at HBX7; exact HBX7), HB⟩
set_option maxHeartbeats 2000000 in
theorem toV_calls (A : Option Addr) (xs : List Int) (c : Nat) (w : World) (HR : RI w A xs) (hn : xs.length ≤ 1048576) : Calls Try.prog 25 #[.agg #[Value.slice A xs.length c]] w fun e w' => ∃ g, e = .returned (.agg #[.slice (some ⟨g, 0, none⟩) xs.length xs.length]) ∧ w.heap.size ≤ g ∧ IB w' g xs 3 ∧ Below w.heap.size w w' := by
  refine calls_of_wp Try.func25 rfl ?_
  refine enter_ (N := 9) rfl ?_
  rintro a0 hN hD ⟨s0, -⟩
  have HB : Below w.heap.size w w := Below.refl _ _
  refine wp_seq ?_
  refine deedL [.s1 1 (NewB w.heap.size [.slice A xs.length c] 37), .s1 2 (NewB w.heap.size [.slice none 0 0] 41), .eq 0 (.agg #[Value.slice A xs.length c]), .w (Below w.heap.size w)] 9 [[3, 2], [3]] [] [0, 1, 2, 3] hM hN hD (by kernel_rfl) ⟨s0, ⟨Below.refl _ _, below_drew (Below.refl _ _)⟩, trivial⟩ ⟨fun _ _ _ hb h => h.grow hb, fun _ _ _ hb h => h.grow hb, fun _ _ hb h => below_step h hb, trivial⟩ (fun hgrow => ⟨fun _ _ h => rbox hgrow rfl (x_box rfl h.2.1) h.1.size (fun _ _ z => z),
    fun _ _ h => rbox hgrow rfl (x_alloc rfl zr41) h.1.size (fun _ _ z => z), trivial⟩) ?_
  clear s0
  clear hN hD
  rintro a1 w1 hN hD ⟨⟨g1, s1, lg1, HBX1⟩, ⟨g2, s2, lg2, HBX2⟩, s0, hGR, -⟩
  replace HB := below_step HB hGR
  clear hGR
  show Code.wp _ _ _ _ _
  refine wp_seq ?_
  refine deedL [.s1 3 (NewB w1.heap.size [.slice none 0 0] 41), .eq 1 (.pointer (some ⟨g1, 0, none⟩)), .eq 2 (.pointer (some ⟨g2, 0, none⟩)), .w (Below w1.heap.size w1)] 9 [[3]] [] [0, 1, 2, 3] hM hN hD (by kernel_rfl) ⟨s1, s2, ⟨Below.refl _ _, below_drew (Below.refl _ _)⟩, trivial⟩ ⟨fun _ _ _ hb h => h.grow hb, fun _ _ hb h => below_step h hb, trivial⟩ (fun hgrow => ⟨fun _ _ h => rbox hgrow rfl (x_alloc rfl zr41) h.1.size (fun _ _ z => z), trivial⟩) ?_
  clear s0 s1 s2
  clear hN hD
  rintro a2 w2 hN hD ⟨⟨g3, s3, lg3, HBX3⟩, s1, s2, hGR, -⟩
  have n_g2_g3 : g2 ≠ g3 := by have := blk_lt HBX2; omega
  replace lg3 := Nat.le_trans HB.size lg3
  replace HB := below_step HB hGR
  replace HBX1 := blk_below HBX1 hGR
  replace HBX2 := blk_below HBX2 hGR
  clear hGR
  show Code.wp _ _ _ _ _
  refine wp_seq ?_
  refine deedL [.eq 4 (.pointer (some ⟨g1, 0, none⟩)), .eq 5 (.slice A xs.length c), .s1 6 fun x_ W => ∃ (gt : Nat), x_ = .slice (some ⟨gt, 0, none⟩) xs.length xs.length ∧ w2.heap.size ≤ gt ∧ IB W gt xs 3, .eq 7 (.pointer (some ⟨g3, 0, none⟩)), .s1 6 fun x_ W => ∃ (gt : Nat), x_ = .slice (some ⟨gt, 0, none⟩) xs.length xs.length ∧ W.heap[g3]? = some (.cells ([.slice (some ⟨gt, 0, none⟩) xs.length xs.length]).toArray 41 (0, 0)), .eq 1 (.pointer (some ⟨g1, 0, none⟩)), .eq 2 (.pointer (some ⟨g2, 0, none⟩)), .eq 3 (.pointer (some ⟨g3, 0, none⟩)), .w (Kx (fun k => k = g3) w2), .w fun W => W.heap[g3]? = some (.cells ([.slice none 0 0]).toArray 41 (0, 0))] 9 [[5], [0, 8], [1, 8], [7], [3, 2, 9]] [[], [], [], [], [9]] [2, 4, 5, 6, 7, 8] hM hN hD (by kernel_rfl) ⟨s1, s2, s3, ⟨Kx.refl _ _, Kx.drew _ _⟩, ⟨HBX3, blk_below HBX3 (below_drew (Below.refl _ _))⟩, trivial⟩ ⟨fun _ _ _ hb h => by obtain ⟨gt, e_, z0, z1⟩ := h; exact ⟨_, e_, z0, z1.below hb⟩, fun _ _ _ hb h => by obtain ⟨gt, e_, h_⟩ := h; exact ⟨_, e_, blk_below h_ hb⟩, fun _ _ hb h => h.step hb, fun _ _ hb h => blk_below h hb, trivial⟩ (fun hgrow => ⟨fun _ _ h => rv rfl (x_field rfl h.1 Try.underlying37 rfl sz24 (by decide) rfl) rfl,
    fun _ _ h => rv rfl (x_load1 rfl h.1 Try.underlying24 rfl (blk_one (L := [.slice A xs.length c]) (blk_kx HBX1 h.2.1 (fun e => (blk_neT HBX1 HBX3 rfl) e)) 0 rfl)) rfl,
    fun _ _ h => rc hgrow rfl Try.func59 (by kernel_rfl) rfl rfl (args1 h.1) (toI_calls A xs c _ (RI.below HR (Kx.below HB h.2.1 HB.size (fun k e => by subst e; exact lg3))) hn) (fun _ _ hR => by obtain ⟨gt, e_, z0, z1, hb⟩ := hR; exact ⟨_, e_, hb, gt, rfl, (Nat.le_trans h.2.1.size z0), z1⟩),
    fun _ _ h => rv rfl (x_field rfl h.1 Try.underlying41 rfl sz24 (by decide) rfl) rfl,
    ?_, trivial⟩) ?_
  · rintro a_ W ⟨h3, h2, h9, -⟩
    obtain ⟨gt, e2, HLgt, HCgt⟩ := h2
    exact rstore1 rfl rfl h3 e2 rfl sz24 (L := [.slice none 0 0]) (off := 0) h9 rfl ⟨_, e2, blk_setL h9 0 _⟩ ⟨fun h => by obtain ⟨gt, e_, z0, z1⟩ := h; exact ⟨_, e_, z0, (Below.heap_setCell _ _ _ _ (blk_neT z1 h9 rfl)).trans z1⟩, fun h => h.set rfl _ _, trivial⟩
  clear s1 s2 s3
  clear hN hD
  rintro a3 w3 hN hD ⟨⟨gt, s6, HLgt, HCgt⟩, qs4, s1, s2, s3, hGR, -⟩
  obtain ⟨gt_, e_, MBX3⟩ := qs4
  cases s6.symm.trans e_
  have lgt := HLgt
  clear HLgt
  replace lgt := Nat.le_trans HB.size lgt
  have NB := Kx.below HB hGR HB.size (fun k e => by subst e; exact lg3)
  have NBX1 := blk_kx HBX1 hGR (fun e => (blk_neT HBX1 HBX3 rfl) e)
  have NBX2 := blk_kx HBX2 hGR (fun e => n_g2_g3 e)
  replace HB := NB
  replace HBX1 := NBX1
  replace HBX2 := NBX2
  clear NB NBX1 NBX2
  replace HBX3 := MBX3
  clear MBX3
  clear hGR
  show Code.wp _ _ _ _ _
  refine wp_seq ?_
  refine deedL [.eq 8 (.agg #[Value.slice (some ⟨gt, 0, none⟩) xs.length xs.length]), .w fun W => W.heap[g2]? = some (.cells ([.slice (some ⟨gt, 0, none⟩) xs.length xs.length]).toArray 41 (0, 0)), .eq 2 (.pointer (some ⟨g2, 0, none⟩)), .eq 3 (.pointer (some ⟨g3, 0, none⟩)), .w (Kx (fun k => k = g2) w3), .w fun W => W.heap[g2]? = some (.cells ([.slice none 0 0]).toArray 41 (0, 0))] 9 [[3, 4], [2, 0, 5]] [[], [5]] [1, 2, 3, 4] hM hN hD (by kernel_rfl) ⟨s2, s3, ⟨Kx.refl _ _, Kx.drew _ _⟩, ⟨HBX2, blk_below HBX2 (below_drew (Below.refl _ _))⟩, trivial⟩ ⟨fun _ _ hb h => blk_below h hb, fun _ _ hb h => h.step hb, fun _ _ hb h => blk_below h hb, trivial⟩ (fun hgrow => ⟨fun _ _ h => rv rfl (x_loadS rfl h.1 Try.underlying41 [.slice (some ⟨gt, 0, none⟩) xs.length xs.length] sz41 (blk_list (L := [.slice (some ⟨gt, 0, none⟩) xs.length xs.length]) (blk_kx HBX3 h.2.1 (fun e => (Ne.symm n_g2_g3) e)) 0 rfl)) rfl,
    ?_, trivial⟩) ?_
  · rintro a_ W ⟨h2, h0, h5, -⟩
    exact rstoreS rfl rfl h2 h0 (by simp [Value.oneCell']) sz41 h5 rfl (blk_stored (cs := [.slice (some ⟨gt, 0, none⟩) xs.length xs.length]) 0 _ [.slice none 0 0] h5 (of_decide_eq_true rfl)) ⟨fun h => h.sets rfl _ _, trivial⟩
  clear s1 s2 s3
  clear hN hD
  rintro a4 w4 hN hD ⟨MBX2, s2, s3, hGR, -⟩
  have NB := Kx.below HB hGR HB.size (fun k e => by subst e; exact lg2)
  have NBX1 := blk_kx HBX1 hGR (fun e => (blk_neT HBX1 HBX2 rfl) e)
  have NCgt : IB w4 gt xs 3 := blk_kx HCgt hGR (fun e => (blk_neT HCgt HBX2 rfl) e)
  have NBX3 := blk_kx HBX3 hGR (fun e => (Ne.symm n_g2_g3) e)
  replace HB := NB
  replace HBX1 := NBX1
  replace HCgt := NCgt
  replace HBX3 := NBX3
  clear NB NBX1 NCgt NBX3
  replace HBX2 := MBX2
  clear MBX2
  clear hGR
  show Code.wp _ _ _ _ _
  refine wp_ret ?_
  refine bodyPost_ret (results_single rfl (vcell s2 HBX2 Try.underlying41 rfl sz41 .nil)) hD ?_
  exact ⟨gt, rfl, lgt, HCgt, HB⟩
set_option maxHeartbeats 2000000 in
theorem toSt_calls (t a : Int) (w : World) : Calls Try.prog 92 #[.agg #[Value.int .i64 t, Value.int .i64 a]] w fun e w' => e = .returned (.agg #[Value.int .i64 t, Value.int .i64 a]) ∧ Below w.heap.size w w' := by
  refine calls_of_wp Try.func92 rfl ?_
  refine enter_ (N := 11) rfl ?_
  rintro a0 hN hD ⟨s0, -⟩
  have HB : Below w.heap.size w w := Below.refl _ _
  refine wp_seq ?_
  refine deedL [.s1 1 (NewB w.heap.size [.int .i64 t, .int .i64 a] 61), .s1 2 (NewB w.heap.size [.int .i64 0, .int .i64 0] 65), .eq 0 (.agg #[Value.int .i64 t, Value.int .i64 a]), .w (Below w.heap.size w)] 11 [[3, 2], [3]] [] [0, 1, 2, 3] hM hN hD (by kernel_rfl) ⟨s0, ⟨Below.refl _ _, below_drew (Below.refl _ _)⟩, trivial⟩ ⟨fun _ _ _ hb h => h.grow hb, fun _ _ _ hb h => h.grow hb, fun _ _ hb h => below_step h hb, trivial⟩ (fun hgrow => ⟨fun _ _ h => rbox hgrow rfl (x_box rfl h.2.1) h.1.size (fun _ _ z => z),
    fun _ _ h => rbox hgrow rfl (x_alloc rfl zr65) h.1.size (fun _ _ z => z), trivial⟩) ?_
  clear s0
  clear hN hD
  rintro a1 w1 hN hD ⟨⟨g1, s1, lg1, HBX1⟩, ⟨g2, s2, lg2, HBX2⟩, s0, hGR, -⟩
  replace HB := below_step HB hGR
  clear hGR
  show Code.wp _ _ _ _ _
  refine wp_seq ?_
  refine deedL [.s1 3 (NewB w1.heap.size [.int .i64 0, .int .i64 0] 65), .eq 1 (.pointer (some ⟨g1, 0, none⟩)), .eq 2 (.pointer (some ⟨g2, 0, none⟩)), .w (Below w1.heap.size w1)] 11 [[3]] [] [0, 1, 2, 3] hM hN hD (by kernel_rfl) ⟨s1, s2, ⟨Below.refl _ _, below_drew (Below.refl _ _)⟩, trivial⟩ ⟨fun _ _ _ hb h => h.grow hb, fun _ _ hb h => below_step h hb, trivial⟩ (fun hgrow => ⟨fun _ _ h => rbox hgrow rfl (x_alloc rfl zr65) h.1.size (fun _ _ z => z), trivial⟩) ?_
  clear s0 s1 s2
  clear hN hD
  rintro a2 w2 hN hD ⟨⟨g3, s3, lg3, HBX3⟩, s1, s2, hGR, -⟩
  have n_g2_g3 : g2 ≠ g3 := by have := blk_lt HBX2; omega
  replace lg3 := Nat.le_trans HB.size lg3
  replace HB := below_step HB hGR
  replace HBX1 := blk_below HBX1 hGR
  replace HBX2 := blk_below HBX2 hGR
  clear hGR
  show Code.wp _ _ _ _ _
  refine wp_seq ?_
  refine deedL [.eq 4 (.pointer (some ⟨g1, 0, none⟩)), .eq 5 (.int .i64 t), .eq 6 (.pointer (some ⟨g3, 0, none⟩)), .w fun W => W.heap[g3]? = some (.cells ([.int .i64 t, .int .i64 0]).toArray 65 (0, 0)), .eq 1 (.pointer (some ⟨g1, 0, none⟩)), .eq 2 (.pointer (some ⟨g2, 0, none⟩)), .eq 3 (.pointer (some ⟨g3, 0, none⟩)), .w (Kx (fun k => k = g3) w2), .w fun W => W.heap[g3]? = some (.cells ([.int .i64 0, .int .i64 0]).toArray 65 (0, 0))] 11 [[4], [0, 7], [6], [2, 1, 8]] [[], [], [], [8]] [3, 4, 5, 6, 7] hM hN hD (by kernel_rfl) ⟨s1, s2, s3, ⟨Kx.refl _ _, Kx.drew _ _⟩, ⟨HBX3, blk_below HBX3 (below_drew (Below.refl _ _))⟩, trivial⟩ ⟨fun _ _ hb h => blk_below h hb, fun _ _ hb h => h.step hb, fun _ _ hb h => blk_below h hb, trivial⟩ (fun hgrow => ⟨fun _ _ h => rv rfl (x_field rfl h.1 Try.underlying61 rfl sz3 (by decide) rfl) rfl,
    fun _ _ h => rv rfl (x_load1 rfl h.1 Try.underlying3 rfl (blk_one (L := [.int .i64 t, .int .i64 a]) (blk_kx HBX1 h.2.1 (fun e => (blk_neT HBX1 HBX3 rfl) e)) 0 rfl)) rfl,
    fun _ _ h => rv rfl (x_field rfl h.1 Try.underlying65 rfl sz3 (by decide) rfl) rfl,
    ?_, trivial⟩) ?_
  · rintro a_ W ⟨h2, h1, h8, -⟩
    exact rstore1 rfl rfl h2 h1 rfl sz3 (L := [.int .i64 0, .int .i64 0]) (off := 0) h8 rfl (blk_setL h8 0 _) ⟨fun h => h.set rfl _ _, trivial⟩
  clear s1 s2 s3
  clear hN hD
  rintro a3 w3 hN hD ⟨MBX3, s1, s2, s3, hGR, -⟩
  have NB := Kx.below HB hGR HB.size (fun k e => by subst e; exact lg3)
  have NBX1 := blk_kx HBX1 hGR (fun e => (blk_neT HBX1 HBX3 rfl) e)
  have NBX2 := blk_kx HBX2 hGR (fun e => n_g2_g3 e)
  replace HB := NB
  replace HBX1 := NBX1
  replace HBX2 := NBX2
  clear NB NBX1 NBX2
  replace HBX3 := MBX3
  clear MBX3
  clear hGR
  show Code.wp _ _ _ _ _
  refine wp_seq ?_
  refine deedL [.eq 7 (.pointer (some ⟨g1, 1, none⟩)), .eq 8 (.int .i64 a), .eq 9 (.pointer (some ⟨g3, 1, none⟩)), .w fun W => W.heap[g3]? = some (.cells ([.int .i64 t, .int .i64 a]).toArray 65 (0, 0)), .eq 1 (.pointer (some ⟨g1, 0, none⟩)), .eq 2 (.pointer (some ⟨g2, 0, none⟩)), .eq 3 (.pointer (some ⟨g3, 0, none⟩)), .w (Kx (fun k => k = g3) w3), .w fun W => W.heap[g3]? = some (.cells ([.int .i64 t, .int .i64 0]).toArray 65 (0, 0))] 11 [[4], [0, 7], [6], [2, 1, 8]] [[], [], [], [8]] [3, 4, 5, 6, 7] hM hN hD (by kernel_rfl) ⟨s1, s2, s3, ⟨Kx.refl _ _, Kx.drew _ _⟩, ⟨HBX3, blk_below HBX3 (below_drew (Below.refl _ _))⟩, trivial⟩ ⟨fun _ _ hb h => blk_below h hb, fun _ _ hb h => h.step hb, fun _ _ hb h => blk_below h hb, trivial⟩ (fun hgrow => ⟨fun _ _ h => rv rfl (x_field rfl h.1 Try.underlying61 rfl sz3 (by decide) rfl) rfl,
    fun _ _ h => rv rfl (x_load1 rfl h.1 Try.underlying3 rfl (blk_one (L := [.int .i64 t, .int .i64 a]) (blk_kx HBX1 h.2.1 (fun e => (blk_neT HBX1 HBX3 rfl) e)) 1 rfl)) rfl,
    fun _ _ h => rv rfl (x_field rfl h.1 Try.underlying65 rfl sz3 (by decide) rfl) rfl,
    ?_, trivial⟩) ?_
  · rintro a_ W ⟨h2, h1, h8, -⟩
    exact rstore1 rfl rfl h2 h1 rfl sz3 (L := [.int .i64 t, .int .i64 0]) (off := 1) h8 rfl (blk_setL h8 1 _) ⟨fun h => h.set rfl _ _, trivial⟩
  clear s1 s2 s3
  clear hN hD
  rintro a4 w4 hN hD ⟨MBX3, s1, s2, s3, hGR, -⟩
  have NB := Kx.below HB hGR HB.size (fun k e => by subst e; exact lg3)
  have NBX1 := blk_kx HBX1 hGR (fun e => (blk_neT HBX1 HBX3 rfl) e)
  have NBX2 := blk_kx HBX2 hGR (fun e => n_g2_g3 e)
  replace HB := NB
  replace HBX1 := NBX1
  replace HBX2 := NBX2
  clear NB NBX1 NBX2
  replace HBX3 := MBX3
  clear MBX3
  clear hGR
  show Code.wp _ _ _ _ _
  refine wp_seq ?_
  refine deedL [.eq 10 (.agg #[Value.int .i64 t, Value.int .i64 a]), .w fun W => W.heap[g2]? = some (.cells ([.int .i64 t, .int .i64 a]).toArray 65 (0, 0)), .eq 2 (.pointer (some ⟨g2, 0, none⟩)), .eq 3 (.pointer (some ⟨g3, 0, none⟩)), .w (Kx (fun k => k = g2) w4), .w fun W => W.heap[g2]? = some (.cells ([.int .i64 0, .int .i64 0]).toArray 65 (0, 0))] 11 [[3, 4], [2, 0, 5]] [[], [5]] [1, 2, 3, 4] hM hN hD (by kernel_rfl) ⟨s2, s3, ⟨Kx.refl _ _, Kx.drew _ _⟩, ⟨HBX2, blk_below HBX2 (below_drew (Below.refl _ _))⟩, trivial⟩ ⟨fun _ _ hb h => blk_below h hb, fun _ _ hb h => h.step hb, fun _ _ hb h => blk_below h hb, trivial⟩ (fun hgrow => ⟨fun _ _ h => rv rfl (x_loadS rfl h.1 Try.underlying65 [.int .i64 t, .int .i64 a] sz65 (blk_list (L := [.int .i64 t, .int .i64 a]) (blk_kx HBX3 h.2.1 (fun e => (Ne.symm n_g2_g3) e)) 0 rfl)) rfl,
    ?_, trivial⟩) ?_
  · rintro a_ W ⟨h2, h0, h5, -⟩
    exact rstoreS rfl rfl h2 h0 (by simp [Value.oneCell']) sz65 h5 rfl (blk_stored (cs := [.int .i64 t, .int .i64 a]) 0 _ [.int .i64 0, .int .i64 0] h5 (of_decide_eq_true rfl)) ⟨fun h => h.sets rfl _ _, trivial⟩
  clear s1 s2 s3
  clear hN hD
  rintro a5 w5 hN hD ⟨MBX2, s2, s3, hGR, -⟩
  have NB := Kx.below HB hGR HB.size (fun k e => by subst e; exact lg2)
  have NBX1 := blk_kx HBX1 hGR (fun e => (blk_neT HBX1 HBX2 rfl) e)
  have NBX3 := blk_kx HBX3 hGR (fun e => (Ne.symm n_g2_g3) e)
  replace HB := NB
  replace HBX1 := NBX1
  replace HBX3 := NBX3
  clear NB NBX1 NBX3
  replace HBX2 := MBX2
  clear MBX2
  clear hGR
  show Code.wp _ _ _ _ _
  refine wp_ret ?_
  refine bodyPost_ret (results_single rfl (vcell s2 HBX2 Try.underlying65 rfl sz65 .nil)) hD ?_
  exact ⟨rfl, HB⟩
set_option maxHeartbeats 2000000 in
theorem toO_calls (o : Op) (A : Option Addr) (c : Nat) (w : World) (HR : RI w A o.deps) (hn : o.deps.length ≤ 1048576) : Calls Try.prog 49 #[.agg (opc o A c).toArray] w fun e w' => ∃ g, e = .returned (.agg (opc o (some ⟨g, 0, none⟩) o.deps.length).toArray) ∧ w.heap.size ≤ g ∧ IB w' g o.deps 3 ∧ Below w.heap.size w w' := by
  refine calls_of_wp Try.func49 rfl ?_
  refine enter_ (N := 40) rfl ?_
  rintro a0 hN hD ⟨s0, -⟩
  have HB : Below w.heap.size w w := Below.refl _ _
  refine wp_seq ?_
  refine deedL [.s1 1 (NewB w.heap.size (opc o A c) 63), .s1 2 (NewB w.heap.size [.int .i64 0, .int .i64 0, .int .i64 0, .slice none 0 0, .int .i64 0, .int .i64 0, .int .i64 0, .int .i64 0, .int .i64 0, .int .i64 0, .string ⟨#[]⟩, .string ⟨#[]⟩] 67), .eq 0 (.agg (opc o A c).toArray), .w (Below w.heap.size w)] 40 [[3, 2], [3]] [] [0, 1, 2, 3] hM hN hD (by kernel_rfl) ⟨s0, ⟨Below.refl _ _, below_drew (Below.refl _ _)⟩, trivial⟩ ⟨fun _ _ _ hb h => h.grow hb, fun _ _ _ hb h => h.grow hb, fun _ _ hb h => below_step h hb, trivial⟩ (fun hgrow => ⟨fun _ _ h => rbox hgrow rfl (x_box rfl h.2.1) h.1.size (fun _ _ z => z),
    fun _ _ h => rbox hgrow rfl (x_alloc rfl zr67) h.1.size (fun _ _ z => z), trivial⟩) ?_
  clear s0
  clear hN hD
  rintro a1 w1 hN hD ⟨⟨g1, s1, lg1, HBX1⟩, ⟨g2, s2, lg2, HBX2⟩, s0, hGR, -⟩
  replace HB := below_step HB hGR
  clear hGR
  show Code.wp _ _ _ _ _
  refine wp_seq ?_
  refine deedL [.s1 3 (NewB w1.heap.size [.int .i64 0, .int .i64 0, .int .i64 0, .slice none 0 0, .int .i64 0, .int .i64 0, .int .i64 0, .int .i64 0, .int .i64 0, .int .i64 0, .string ⟨#[]⟩, .string ⟨#[]⟩] 67), .eq 1 (.pointer (some ⟨g1, 0, none⟩)), .eq 2 (.pointer (some ⟨g2, 0, none⟩)), .w (Below w1.heap.size w1)] 40 [[3]] [] [0, 1, 2, 3] hM hN hD (by kernel_rfl) ⟨s1, s2, ⟨Below.refl _ _, below_drew (Below.refl _ _)⟩, trivial⟩ ⟨fun _ _ _ hb h => h.grow hb, fun _ _ hb h => below_step h hb, trivial⟩ (fun hgrow => ⟨fun _ _ h => rbox hgrow rfl (x_alloc rfl zr67) h.1.size (fun _ _ z => z), trivial⟩) ?_
  clear s0 s1 s2
  clear hN hD
  rintro a2 w2 hN hD ⟨⟨g3, s3, lg3, HBX3⟩, s1, s2, hGR, -⟩
  have n_g2_g3 : g2 ≠ g3 := by have := blk_lt HBX2; omega
  replace lg3 := Nat.le_trans HB.size lg3
  replace HB := below_step HB hGR
  replace HBX1 := blk_below HBX1 hGR
  replace HBX2 := blk_below HBX2 hGR
  clear hGR
  show Code.wp _ _ _ _ _
  refine wp_seq ?_
  refine deedL [.eq 4 (.pointer (some ⟨g1, 0, none⟩)), .eq 5 (.int .i64 o.actor), .eq 6 (.pointer (some ⟨g3, 0, none⟩)), .w fun W => W.heap[g3]? = some (.cells ([.int .i64 o.actor, .int .i64 0, .int .i64 0, .slice none 0 0, .int .i64 0, .int .i64 0, .int .i64 0, .int .i64 0, .int .i64 0, .int .i64 0, .string ⟨#[]⟩, .string ⟨#[]⟩]).toArray 67 (0, 0)), .eq 1 (.pointer (some ⟨g1, 0, none⟩)), .eq 2 (.pointer (some ⟨g2, 0, none⟩)), .eq 3 (.pointer (some ⟨g3, 0, none⟩)), .w (Kx (fun k => k = g3) w2), .w fun W => W.heap[g3]? = some (.cells ([.int .i64 0, .int .i64 0, .int .i64 0, .slice none 0 0, .int .i64 0, .int .i64 0, .int .i64 0, .int .i64 0, .int .i64 0, .int .i64 0, .string ⟨#[]⟩, .string ⟨#[]⟩]).toArray 67 (0, 0))] 40 [[4], [0, 7], [6], [2, 1, 8]] [[], [], [], [8]] [3, 4, 5, 6, 7] hM hN hD (by kernel_rfl) ⟨s1, s2, s3, ⟨Kx.refl _ _, Kx.drew _ _⟩, ⟨HBX3, blk_below HBX3 (below_drew (Below.refl _ _))⟩, trivial⟩ ⟨fun _ _ hb h => blk_below h hb, fun _ _ hb h => h.step hb, fun _ _ hb h => blk_below h hb, trivial⟩ (fun hgrow => ⟨fun _ _ h => rv rfl (x_field rfl h.1 Try.underlying63 rfl sz3 (by decide) rfl) rfl,
    fun _ _ h => rv rfl (x_load1 rfl h.1 Try.underlying3 rfl (blk_one (L := opc o A c) (blk_kx HBX1 h.2.1 (fun e => (blk_neT HBX1 HBX3 rfl) e)) 0 rfl)) rfl,
    fun _ _ h => rv rfl (x_field rfl h.1 Try.underlying67 rfl sz3 (by decide) rfl) rfl,
    ?_, trivial⟩) ?_
  · rintro a_ W ⟨h2, h1, h8, -⟩
    exact rstore1 rfl rfl h2 h1 rfl sz3 (L := [.int .i64 0, .int .i64 0, .int .i64 0, .slice none 0 0, .int .i64 0, .int .i64 0, .int .i64 0, .int .i64 0, .int .i64 0, .int .i64 0, .string ⟨#[]⟩, .string ⟨#[]⟩]) (off := 0) h8 rfl (blk_setL h8 0 _) ⟨fun h => h.set rfl _ _, trivial⟩
  clear s1 s2 s3
  clear hN hD
  rintro a3 w3 hN hD ⟨MBX3, s1, s2, s3, hGR, -⟩
  have NB := Kx.below HB hGR HB.size (fun k e => by subst e; exact lg3)
  have NBX1 := blk_kx HBX1 hGR (fun e => (blk_neT HBX1 HBX3 rfl) e)
  have NBX2 := blk_kx HBX2 hGR (fun e => n_g2_g3 e)
  replace HB := NB
  replace HBX1 := NBX1
  replace HBX2 := NBX2
  clear NB NBX1 NBX2
  replace HBX3 := MBX3
  clear MBX3
  clear hGR
  show Code.wp _ _ _ _ _
  refine wp_seq ?_
  refine deedL [.eq 7 (.pointer (some ⟨g1, 1, none⟩)), .eq 8 (.int .i64 o.seq), .eq 9 (.pointer (some ⟨g3, 1, none⟩)), .w fun W => W.heap[g3]? = some (.cells ([.int .i64 o.actor, .int .i64 o.seq, .int .i64 0, .slice none 0 0, .int .i64 0, .int .i64 0, .int .i64 0, .int .i64 0, .int .i64 0, .int .i64 0, .string ⟨#[]⟩, .string ⟨#[]⟩]).toArray 67 (0, 0)), .eq 1 (.pointer (some ⟨g1, 0, none⟩)), .eq 2 (.pointer (some ⟨g2, 0, none⟩)), .eq 3 (.pointer (some ⟨g3, 0, none⟩)), .w (Kx (fun k => k = g3) w3), .w fun W => W.heap[g3]? = some (.cells ([.int .i64 o.actor, .int .i64 0, .int .i64 0, .slice none 0 0, .int .i64 0, .int .i64 0, .int .i64 0, .int .i64 0, .int .i64 0, .int .i64 0, .string ⟨#[]⟩, .string ⟨#[]⟩]).toArray 67 (0, 0))] 40 [[4], [0, 7], [6], [2, 1, 8]] [[], [], [], [8]] [3, 4, 5, 6, 7] hM hN hD (by kernel_rfl) ⟨s1, s2, s3, ⟨Kx.refl _ _, Kx.drew _ _⟩, ⟨HBX3, blk_below HBX3 (below_drew (Below.refl _ _))⟩, trivial⟩ ⟨fun _ _ hb h => blk_below h hb, fun _ _ hb h => h.step hb, fun _ _ hb h => blk_below h hb, trivial⟩ (fun hgrow => ⟨fun _ _ h => rv rfl (x_field rfl h.1 Try.underlying63 rfl sz3 (by decide) rfl) rfl,
    fun _ _ h => rv rfl (x_load1 rfl h.1 Try.underlying3 rfl (blk_one (L := opc o A c) (blk_kx HBX1 h.2.1 (fun e => (blk_neT HBX1 HBX3 rfl) e)) 1 rfl)) rfl,
    fun _ _ h => rv rfl (x_field rfl h.1 Try.underlying67 rfl sz3 (by decide) rfl) rfl,
    ?_, trivial⟩) ?_
  · rintro a_ W ⟨h2, h1, h8, -⟩
    exact rstore1 rfl rfl h2 h1 rfl sz3 (L := [.int .i64 o.actor, .int .i64 0, .int .i64 0, .slice none 0 0, .int .i64 0, .int .i64 0, .int .i64 0, .int .i64 0, .int .i64 0, .int .i64 0, .string ⟨#[]⟩, .string ⟨#[]⟩]) (off := 1) h8 rfl (blk_setL h8 1 _) ⟨fun h => h.set rfl _ _, trivial⟩
  clear s1 s2 s3
  clear hN hD
  rintro a4 w4 hN hD ⟨MBX3, s1, s2, s3, hGR, -⟩
  have NB := Kx.below HB hGR HB.size (fun k e => by subst e; exact lg3)
  have NBX1 := blk_kx HBX1 hGR (fun e => (blk_neT HBX1 HBX3 rfl) e)
  have NBX2 := blk_kx HBX2 hGR (fun e => n_g2_g3 e)
  replace HB := NB
  replace HBX1 := NBX1
  replace HBX2 := NBX2
  clear NB NBX1 NBX2
  replace HBX3 := MBX3
  clear MBX3
  clear hGR
  show Code.wp _ _ _ _ _
  refine wp_seq ?_
  refine deedL [.eq 10 (.pointer (some ⟨g1, 2, none⟩)), .eq 11 (.int .i64 o.time), .eq 12 (.pointer (some ⟨g3, 2, none⟩)), .w fun W => W.heap[g3]? = some (.cells ([.int .i64 o.actor, .int .i64 o.seq, .int .i64 o.time, .slice none 0 0, .int .i64 0, .int .i64 0, .int .i64 0, .int .i64 0, .int .i64 0, .int .i64 0, .string ⟨#[]⟩, .string ⟨#[]⟩]).toArray 67 (0, 0)), .eq 1 (.pointer (some ⟨g1, 0, none⟩)), .eq 2 (.pointer (some ⟨g2, 0, none⟩)), .eq 3 (.pointer (some ⟨g3, 0, none⟩)), .w (Kx (fun k => k = g3) w4), .w fun W => W.heap[g3]? = some (.cells ([.int .i64 o.actor, .int .i64 o.seq, .int .i64 0, .slice none 0 0, .int .i64 0, .int .i64 0, .int .i64 0, .int .i64 0, .int .i64 0, .int .i64 0, .string ⟨#[]⟩, .string ⟨#[]⟩]).toArray 67 (0, 0))] 40 [[4], [0, 7], [6], [2, 1, 8]] [[], [], [], [8]] [3, 4, 5, 6, 7] hM hN hD (by kernel_rfl) ⟨s1, s2, s3, ⟨Kx.refl _ _, Kx.drew _ _⟩, ⟨HBX3, blk_below HBX3 (below_drew (Below.refl _ _))⟩, trivial⟩ ⟨fun _ _ hb h => blk_below h hb, fun _ _ hb h => h.step hb, fun _ _ hb h => blk_below h hb, trivial⟩ (fun hgrow => ⟨fun _ _ h => rv rfl (x_field rfl h.1 Try.underlying63 rfl sz3 (by decide) rfl) rfl,
    fun _ _ h => rv rfl (x_load1 rfl h.1 Try.underlying3 rfl (blk_one (L := opc o A c) (blk_kx HBX1 h.2.1 (fun e => (blk_neT HBX1 HBX3 rfl) e)) 2 rfl)) rfl,
    fun _ _ h => rv rfl (x_field rfl h.1 Try.underlying67 rfl sz3 (by decide) rfl) rfl,
    ?_, trivial⟩) ?_
  · rintro a_ W ⟨h2, h1, h8, -⟩
    exact rstore1 rfl rfl h2 h1 rfl sz3 (L := [.int .i64 o.actor, .int .i64 o.seq, .int .i64 0, .slice none 0 0, .int .i64 0, .int .i64 0, .int .i64 0, .int .i64 0, .int .i64 0, .int .i64 0, .string ⟨#[]⟩, .string ⟨#[]⟩]) (off := 2) h8 rfl (blk_setL h8 2 _) ⟨fun h => h.set rfl _ _, trivial⟩
  clear s1 s2 s3
  clear hN hD
  rintro a5 w5 hN hD ⟨MBX3, s1, s2, s3, hGR, -⟩
  have NB := Kx.below HB hGR HB.size (fun k e => by subst e; exact lg3)
  have NBX1 := blk_kx HBX1 hGR (fun e => (blk_neT HBX1 HBX3 rfl) e)
  have NBX2 := blk_kx HBX2 hGR (fun e => n_g2_g3 e)
  replace HB := NB
  replace HBX1 := NBX1
  replace HBX2 := NBX2
  clear NB NBX1 NBX2
  replace HBX3 := MBX3
  clear MBX3
  clear hGR
  show Code.wp _ _ _ _ _
  refine wp_seq ?_
  refine deedL [.eq 13 (.pointer (some ⟨g1, 3, none⟩)), .eq 14 (.agg #[Value.slice A o.deps.length c]), .s1 15 fun x_ W => ∃ (gt : Nat), x_ = .agg #[Value.slice (some ⟨gt, 0, none⟩) o.deps.length o.deps.length] ∧ w5.heap.size ≤ gt ∧ IB W gt o.deps 3, .eq 16 (.pointer (some ⟨g3, 3, none⟩)), .s1 15 fun x_ W => ∃ (gt : Nat), x_ = .agg #[Value.slice (some ⟨gt, 0, none⟩) o.deps.length o.deps.length] ∧ W.heap[g3]? = some (.cells ([.int .i64 o.actor, .int .i64 o.seq, .int .i64 o.time, .slice (some ⟨gt, 0, none⟩) o.deps.length o.deps.length, .int .i64 0, .int .i64 0, .int .i64 0, .int .i64 0, .int .i64 0, .int .i64 0, .string ⟨#[]⟩, .string ⟨#[]⟩]).toArray 67 (0, 0)), .eq 1 (.pointer (some ⟨g1, 0, none⟩)), .eq 2 (.pointer (some ⟨g2, 0, none⟩)), .eq 3 (.pointer (some ⟨g3, 0, none⟩)), .w (Kx (fun k => k = g3) w5), .w fun W => W.heap[g3]? = some (.cells ([.int .i64 o.actor, .int .i64 o.seq, .int .i64 o.time, .slice none 0 0, .int .i64 0, .int .i64 0, .int .i64 0, .int .i64 0, .int .i64 0, .int .i64 0, .string ⟨#[]⟩, .string ⟨#[]⟩]).toArray 67 (0, 0))] 40 [[5], [0, 8], [1, 8], [7], [3, 2, 9]] [[], [], [], [], [9]] [2, 4, 5, 6, 7, 8] hM hN hD (by kernel_rfl) ⟨s1, s2, s3, ⟨Kx.refl _ _, Kx.drew _ _⟩, ⟨HBX3, blk_below HBX3 (below_drew (Below.refl _ _))⟩, trivial⟩ ⟨fun _ _ _ hb h => by obtain ⟨gt, e_, z0, z1⟩ := h; exact ⟨_, e_, z0, z1.below hb⟩, fun _ _ _ hb h => by obtain ⟨gt, e_, h_⟩ := h; exact ⟨_, e_, blk_below h_ hb⟩, fun _ _ hb h => h.step hb, fun _ _ hb h => blk_below h hb, trivial⟩ (fun hgrow => ⟨fun _ _ h => rv rfl (x_field rfl h.1 Try.underlying63 rfl sz37 (by decide) rfl) rfl,
    fun _ _ h => rv rfl (x_loadS rfl h.1 Try.underlying37 [.slice A o.deps.length c] sz37 (blk_list (L := opc o A c) (blk_kx HBX1 h.2.1 (fun e => (blk_neT HBX1 HBX3 rfl) e)) 3 rfl)) rfl,
    fun _ _ h => rc hgrow rfl Try.func25 (by kernel_rfl) rfl rfl (args1 h.1) (toV_calls A o.deps c _ (RI.below HR (Kx.below HB h.2.1 HB.size (fun k e => by subst e; exact lg3))) hn) (fun _ _ hR => by obtain ⟨gt, e_, z0, z1, hb⟩ := hR; exact ⟨_, e_, hb, gt, rfl, (Nat.le_trans h.2.1.size z0), z1⟩),
    fun _ _ h => rv rfl (x_field rfl h.1 Try.underlying67 rfl sz41 (by decide) rfl) rfl,
    ?_, trivial⟩) ?_
  · rintro a_ W ⟨h3, h2, h9, -⟩
    obtain ⟨gt, e2, HLgt, HCgt⟩ := h2
    exact rstoreS rfl rfl h3 e2 (by simp [Value.oneCell']) sz41 h9 rfl ⟨_, e2, blk_stored (cs := [.slice (some ⟨gt, 0, none⟩) o.deps.length o.deps.length]) 3 _ [.int .i64 o.actor, .int .i64 o.seq, .int .i64 o.time, .slice none 0 0, .int .i64 0, .int .i64 0, .int .i64 0, .int .i64 0, .int .i64 0, .int .i64 0, .string ⟨#[]⟩, .string ⟨#[]⟩] h9 (of_decide_eq_true rfl)⟩ ⟨fun h => by obtain ⟨gt, e_, z0, z1⟩ := h; exact ⟨_, e_, z0, (setCells_far _ _ _ (blk_neT z1 h9 rfl)).trans z1⟩, fun h => h.sets rfl _ _, trivial⟩
  clear s1 s2 s3
  clear hN hD
  rintro a6 w6 hN hD ⟨⟨gt, s15, HLgt, HCgt⟩, qs4, s1, s2, s3, hGR, -⟩
  obtain ⟨gt_, e_, MBX3⟩ := qs4
  cases s15.symm.trans e_
  have lgt := HLgt
  clear HLgt
  replace lgt := Nat.le_trans HB.size lgt
  have NB := Kx.below HB hGR HB.size (fun k e => by subst e; exact lg3)
  have NBX1 := blk_kx HBX1 hGR (fun e => (blk_neT HBX1 HBX3 rfl) e)
  have NBX2 := blk_kx HBX2 hGR (fun e => n_g2_g3 e)
  replace HB := NB
  replace HBX1 := NBX1
  replace HBX2 := NBX2
  clear NB NBX1 NBX2
  replace HBX3 := MBX3
  clear MBX3
  clear hGR
  show Code.wp _ _ _ _ _
  refine wp_seq ?_
  refine deedL [.eq 17 (.pointer (some ⟨g1, 4, none⟩)), .eq 18 (.int .i64 o.kind), .eq 19 (.pointer (some ⟨g3, 4, none⟩)), .w fun W => W.heap[g3]? = some (.cells ([.int .i64 o.actor, .int .i64 o.seq, .int .i64 o.time, .slice (some ⟨gt, 0, none⟩) o.deps.length o.deps.length, .int .i64 o.kind, .int .i64 0, .int .i64 0, .int .i64 0, .int .i64 0, .int .i64 0, .string ⟨#[]⟩, .string ⟨#[]⟩]).toArray 67 (0, 0)), .eq 1 (.pointer (some ⟨g1, 0, none⟩)), .eq 2 (.pointer (some ⟨g2, 0, none⟩)), .eq 3 (.pointer (some ⟨g3, 0, none⟩)), .w (Kx (fun k => k = g3) w6), .w fun W => W.heap[g3]? = some (.cells ([.int .i64 o.actor, .int .i64 o.seq, .int .i64 o.time, .slice (some ⟨gt, 0, none⟩) o.deps.length o.deps.length, .int .i64 0, .int .i64 0, .int .i64 0, .int .i64 0, .int .i64 0, .int .i64 0, .string ⟨#[]⟩, .string ⟨#[]⟩]).toArray 67 (0, 0))] 40 [[4], [0, 7], [6], [2, 1, 8]] [[], [], [], [8]] [3, 4, 5, 6, 7] hM hN hD (by kernel_rfl) ⟨s1, s2, s3, ⟨Kx.refl _ _, Kx.drew _ _⟩, ⟨HBX3, blk_below HBX3 (below_drew (Below.refl _ _))⟩, trivial⟩ ⟨fun _ _ hb h => blk_below h hb, fun _ _ hb h => h.step hb, fun _ _ hb h => blk_below h hb, trivial⟩ (fun hgrow => ⟨fun _ _ h => rv rfl (x_field rfl h.1 Try.underlying63 rfl sz3 (by decide) rfl) rfl,
    fun _ _ h => rv rfl (x_load1 rfl h.1 Try.underlying3 rfl (blk_one (L := opc o A c) (blk_kx HBX1 h.2.1 (fun e => (blk_neT HBX1 HBX3 rfl) e)) 4 rfl)) rfl,
    fun _ _ h => rv rfl (x_field rfl h.1 Try.underlying67 rfl sz3 (by decide) rfl) rfl,
    ?_, trivial⟩) ?_
  · rintro a_ W ⟨h2, h1, h8, -⟩
    exact rstore1 rfl rfl h2 h1 rfl sz3 (L := [.int .i64 o.actor, .int .i64 o.seq, .int .i64 o.time, .slice (some ⟨gt, 0, none⟩) o.deps.length o.deps.length, .int .i64 0, .int .i64 0, .int .i64 0, .int .i64 0, .int .i64 0, .int .i64 0, .string ⟨#[]⟩, .string ⟨#[]⟩]) (off := 4) h8 rfl (blk_setL h8 4 _) ⟨fun h => h.set rfl _ _, trivial⟩
  clear s1 s2 s3
  clear hN hD
  rintro a7 w7 hN hD ⟨MBX3, s1, s2, s3, hGR, -⟩
  have NB := Kx.below HB hGR HB.size (fun k e => by subst e; exact lg3)
  have NBX1 := blk_kx HBX1 hGR (fun e => (blk_neT HBX1 HBX3 rfl) e)
  have NBX2 := blk_kx HBX2 hGR (fun e => n_g2_g3 e)
  have NCgt : IB w7 gt o.deps 3 := blk_kx HCgt hGR (fun e => (blk_neT HCgt HBX3 rfl) e)
  replace HB := NB
  replace HBX1 := NBX1
  replace HBX2 := NBX2
  replace HCgt := NCgt
  clear NB NBX1 NBX2 NCgt
  replace HBX3 := MBX3
  clear MBX3
  clear hGR
  show Code.wp _ _ _ _ _
  refine wp_seq ?_
  refine deedL [.eq 20 (.pointer (some ⟨g1, 5, none⟩)), .eq 21 (.int .i64 o.obj), .eq 22 (.pointer (some ⟨g3, 5, none⟩)), .w fun W => W.heap[g3]? = some (.cells ([.int .i64 o.actor, .int .i64 o.seq, .int .i64 o.time, .slice (some ⟨gt, 0, none⟩) o.deps.length o.deps.length, .int .i64 o.kind, .int .i64 o.obj, .int .i64 0, .int .i64 0, .int .i64 0, .int .i64 0, .string ⟨#[]⟩, .string ⟨#[]⟩]).toArray 67 (0, 0)), .eq 1 (.pointer (some ⟨g1, 0, none⟩)), .eq 2 (.pointer (some ⟨g2, 0, none⟩)), .eq 3 (.pointer (some ⟨g3, 0, none⟩)), .w (Kx (fun k => k = g3) w7), .w fun W => W.heap[g3]? = some (.cells ([.int .i64 o.actor, .int .i64 o.seq, .int .i64 o.time, .slice (some ⟨gt, 0, none⟩) o.deps.length o.deps.length, .int .i64 o.kind, .int .i64 0, .int .i64 0, .int .i64 0, .int .i64 0, .int .i64 0, .string ⟨#[]⟩, .string ⟨#[]⟩]).toArray 67 (0, 0))] 40 [[4], [0, 7], [6], [2, 1, 8]] [[], [], [], [8]] [3, 4, 5, 6, 7] hM hN hD (by kernel_rfl) ⟨s1, s2, s3, ⟨Kx.refl _ _, Kx.drew _ _⟩, ⟨HBX3, blk_below HBX3 (below_drew (Below.refl _ _))⟩, trivial⟩ ⟨fun _ _ hb h => blk_below h hb, fun _ _ hb h => h.step hb, fun _ _ hb h => blk_below h hb, trivial⟩ (fun hgrow => ⟨fun _ _ h => rv rfl (x_field rfl h.1 Try.underlying63 rfl sz3 (by decide) rfl) rfl,
    fun _ _ h => rv rfl (x_load1 rfl h.1 Try.underlying3 rfl (blk_one (L := opc o A c) (blk_kx HBX1 h.2.1 (fun e => (blk_neT HBX1 HBX3 rfl) e)) 5 rfl)) rfl,
    fun _ _ h => rv rfl (x_field rfl h.1 Try.underlying67 rfl sz3 (by decide) rfl) rfl,
    ?_, trivial⟩) ?_
  · rintro a_ W ⟨h2, h1, h8, -⟩
    exact rstore1 rfl rfl h2 h1 rfl sz3 (L := [.int .i64 o.actor, .int .i64 o.seq, .int .i64 o.time, .slice (some ⟨gt, 0, none⟩) o.deps.length o.deps.length, .int .i64 o.kind, .int .i64 0, .int .i64 0, .int .i64 0, .int .i64 0, .int .i64 0, .string ⟨#[]⟩, .string ⟨#[]⟩]) (off := 5) h8 rfl (blk_setL h8 5 _) ⟨fun h => h.set rfl _ _, trivial⟩
  clear s1 s2 s3
  clear hN hD
  rintro a8 w8 hN hD ⟨MBX3, s1, s2, s3, hGR, -⟩
  have NB := Kx.below HB hGR HB.size (fun k e => by subst e; exact lg3)
  have NBX1 := blk_kx HBX1 hGR (fun e => (blk_neT HBX1 HBX3 rfl) e)
  have NBX2 := blk_kx HBX2 hGR (fun e => n_g2_g3 e)
  have NCgt : IB w8 gt o.deps 3 := blk_kx HCgt hGR (fun e => (blk_neT HCgt HBX3 rfl) e)
  replace HB := NB
  replace HBX1 := NBX1
  replace HBX2 := NBX2
  replace HCgt := NCgt
  clear NB NBX1 NBX2 NCgt
  replace HBX3 := MBX3
  clear MBX3
  clear hGR
  show Code.wp _ _ _ _ _
  refine wp_seq ?_
  refine deedL [.eq 23 (.pointer (some ⟨g1, 6, none⟩)), .eq 24 (.int .i64 o.num), .eq 25 (.pointer (some ⟨g3, 6, none⟩)), .w fun W => W.heap[g3]? = some (.cells ([.int .i64 o.actor, .int .i64 o.seq, .int .i64 o.time, .slice (some ⟨gt, 0, none⟩) o.deps.length o.deps.length, .int .i64 o.kind, .int .i64 o.obj, .int .i64 o.num, .int .i64 0, .int .i64 0, .int .i64 0, .string ⟨#[]⟩, .string ⟨#[]⟩]).toArray 67 (0, 0)), .eq 1 (.pointer (some ⟨g1, 0, none⟩)), .eq 2 (.pointer (some ⟨g2, 0, none⟩)), .eq 3 (.pointer (some ⟨g3, 0, none⟩)), .w (Kx (fun k => k = g3) w8), .w fun W => W.heap[g3]? = some (.cells ([.int .i64 o.actor, .int .i64 o.seq, .int .i64 o.time, .slice (some ⟨gt, 0, none⟩) o.deps.length o.deps.length, .int .i64 o.kind, .int .i64 o.obj, .int .i64 0, .int .i64 0, .int .i64 0, .int .i64 0, .string ⟨#[]⟩, .string ⟨#[]⟩]).toArray 67 (0, 0))] 40 [[4], [0, 7], [6], [2, 1, 8]] [[], [], [], [8]] [3, 4, 5, 6, 7] hM hN hD (by kernel_rfl) ⟨s1, s2, s3, ⟨Kx.refl _ _, Kx.drew _ _⟩, ⟨HBX3, blk_below HBX3 (below_drew (Below.refl _ _))⟩, trivial⟩ ⟨fun _ _ hb h => blk_below h hb, fun _ _ hb h => h.step hb, fun _ _ hb h => blk_below h hb, trivial⟩ (fun hgrow => ⟨fun _ _ h => rv rfl (x_field rfl h.1 Try.underlying63 rfl sz3 (by decide) rfl) rfl,
    fun _ _ h => rv rfl (x_load1 rfl h.1 Try.underlying3 rfl (blk_one (L := opc o A c) (blk_kx HBX1 h.2.1 (fun e => (blk_neT HBX1 HBX3 rfl) e)) 6 rfl)) rfl,
    fun _ _ h => rv rfl (x_field rfl h.1 Try.underlying67 rfl sz3 (by decide) rfl) rfl,
    ?_, trivial⟩) ?_
  · rintro a_ W ⟨h2, h1, h8, -⟩
    exact rstore1 rfl rfl h2 h1 rfl sz3 (L := [.int .i64 o.actor, .int .i64 o.seq, .int .i64 o.time, .slice (some ⟨gt, 0, none⟩) o.deps.length o.deps.length, .int .i64 o.kind, .int .i64 o.obj, .int .i64 0, .int .i64 0, .int .i64 0, .int .i64 0, .string ⟨#[]⟩, .string ⟨#[]⟩]) (off := 6) h8 rfl (blk_setL h8 6 _) ⟨fun h => h.set rfl _ _, trivial⟩
  clear s1 s2 s3
  clear hN hD
  rintro a9 w9 hN hD ⟨MBX3, s1, s2, s3, hGR, -⟩
  have NB := Kx.below HB hGR HB.size (fun k e => by subst e; exact lg3)
  have NBX1 := blk_kx HBX1 hGR (fun e => (blk_neT HBX1 HBX3 rfl) e)
  have NBX2 := blk_kx HBX2 hGR (fun e => n_g2_g3 e)
  have NCgt : IB w9 gt o.deps 3 := blk_kx HCgt hGR (fun e => (blk_neT HCgt HBX3 rfl) e)
  replace HB := NB
  replace HBX1 := NBX1
  replace HBX2 := NBX2
  replace HCgt := NCgt
  clear NB NBX1 NBX2 NCgt
  replace HBX3 := MBX3
  clear MBX3
  clear hGR
  show Code.wp _ _ _ _ _
  refine wp_seq ?_
  refine deedL [.eq 26 (.pointer (some ⟨g1, 7, none⟩)), .eq 27 (.int .i64 o.undo), .eq 28 (.pointer (some ⟨g3, 7, none⟩)), .w fun W => W.heap[g3]? = some (.cells ([.int .i64 o.actor, .int .i64 o.seq, .int .i64 o.time, .slice (some ⟨gt, 0, none⟩) o.deps.length o.deps.length, .int .i64 o.kind, .int .i64 o.obj, .int .i64 o.num, .int .i64 o.undo, .int .i64 0, .int .i64 0, .string ⟨#[]⟩, .string ⟨#[]⟩]).toArray 67 (0, 0)), .eq 1 (.pointer (some ⟨g1, 0, none⟩)), .eq 2 (.pointer (some ⟨g2, 0, none⟩)), .eq 3 (.pointer (some ⟨g3, 0, none⟩)), .w (Kx (fun k => k = g3) w9), .w fun W => W.heap[g3]? = some (.cells ([.int .i64 o.actor, .int .i64 o.seq, .int .i64 o.time, .slice (some ⟨gt, 0, none⟩) o.deps.length o.deps.length, .int .i64 o.kind, .int .i64 o.obj, .int .i64 o.num, .int .i64 0, .int .i64 0, .int .i64 0, .string ⟨#[]⟩, .string ⟨#[]⟩]).toArray 67 (0, 0))] 40 [[4], [0, 7], [6], [2, 1, 8]] [[], [], [], [8]] [3, 4, 5, 6, 7] hM hN hD (by kernel_rfl) ⟨s1, s2, s3, ⟨Kx.refl _ _, Kx.drew _ _⟩, ⟨HBX3, blk_below HBX3 (below_drew (Below.refl _ _))⟩, trivial⟩ ⟨fun _ _ hb h => blk_below h hb, fun _ _ hb h => h.step hb, fun _ _ hb h => blk_below h hb, trivial⟩ (fun hgrow => ⟨fun _ _ h => rv rfl (x_field rfl h.1 Try.underlying63 rfl sz3 (by decide) rfl) rfl,
    fun _ _ h => rv rfl (x_load1 rfl h.1 Try.underlying3 rfl (blk_one (L := opc o A c) (blk_kx HBX1 h.2.1 (fun e => (blk_neT HBX1 HBX3 rfl) e)) 7 rfl)) rfl,
    fun _ _ h => rv rfl (x_field rfl h.1 Try.underlying67 rfl sz3 (by decide) rfl) rfl,
    ?_, trivial⟩) ?_
  · rintro a_ W ⟨h2, h1, h8, -⟩
    exact rstore1 rfl rfl h2 h1 rfl sz3 (L := [.int .i64 o.actor, .int .i64 o.seq, .int .i64 o.time, .slice (some ⟨gt, 0, none⟩) o.deps.length o.deps.length, .int .i64 o.kind, .int .i64 o.obj, .int .i64 o.num, .int .i64 0, .int .i64 0, .int .i64 0, .string ⟨#[]⟩, .string ⟨#[]⟩]) (off := 7) h8 rfl (blk_setL h8 7 _) ⟨fun h => h.set rfl _ _, trivial⟩
  clear s1 s2 s3
  clear hN hD
  rintro a10 w10 hN hD ⟨MBX3, s1, s2, s3, hGR, -⟩
  have NB := Kx.below HB hGR HB.size (fun k e => by subst e; exact lg3)
  have NBX1 := blk_kx HBX1 hGR (fun e => (blk_neT HBX1 HBX3 rfl) e)
  have NBX2 := blk_kx HBX2 hGR (fun e => n_g2_g3 e)
  have NCgt : IB w10 gt o.deps 3 := blk_kx HCgt hGR (fun e => (blk_neT HCgt HBX3 rfl) e)
  replace HB := NB
  replace HBX1 := NBX1
  replace HBX2 := NBX2
  replace HCgt := NCgt
  clear NB NBX1 NBX2 NCgt
  replace HBX3 := MBX3
  clear MBX3
  clear hGR
  show Code.wp _ _ _ _ _
  refine wp_seq ?_
  refine deedL [.eq 29 (.pointer (some ⟨g1, 8, none⟩)), .eq 30 (.agg #[Value.int .i64 o.att, Value.int .i64 o.ata]), .eq 31 (.agg #[Value.int .i64 o.att, Value.int .i64 o.ata]), .eq 32 (.pointer (some ⟨g3, 8, none⟩)), .w fun W => W.heap[g3]? = some (.cells ([.int .i64 o.actor, .int .i64 o.seq, .int .i64 o.time, .slice (some ⟨gt, 0, none⟩) o.deps.length o.deps.length, .int .i64 o.kind, .int .i64 o.obj, .int .i64 o.num, .int .i64 o.undo, .int .i64 o.att, .int .i64 o.ata, .string ⟨#[]⟩, .string ⟨#[]⟩]).toArray 67 (0, 0)), .eq 1 (.pointer (some ⟨g1, 0, none⟩)), .eq 2 (.pointer (some ⟨g2, 0, none⟩)), .eq 3 (.pointer (some ⟨g3, 0, none⟩)), .w (Kx (fun k => k = g3) w10), .w fun W => W.heap[g3]? = some (.cells ([.int .i64 o.actor, .int .i64 o.seq, .int .i64 o.time, .slice (some ⟨gt, 0, none⟩) o.deps.length o.deps.length, .int .i64 o.kind, .int .i64 o.obj, .int .i64 o.num, .int .i64 o.undo, .int .i64 0, .int .i64 0, .string ⟨#[]⟩, .string ⟨#[]⟩]).toArray 67 (0, 0))] 40 [[5], [0, 8], [1], [7], [3, 2, 9]] [[], [], [], [], [9]] [4, 5, 6, 7, 8] hM hN hD (by kernel_rfl) ⟨s1, s2, s3, ⟨Kx.refl _ _, Kx.drew _ _⟩, ⟨HBX3, blk_below HBX3 (below_drew (Below.refl _ _))⟩, trivial⟩ ⟨fun _ _ hb h => blk_below h hb, fun _ _ hb h => h.step hb, fun _ _ hb h => blk_below h hb, trivial⟩ (fun hgrow => ⟨fun _ _ h => rv rfl (x_field rfl h.1 Try.underlying63 rfl sz61 (by decide) rfl) rfl,
    fun _ _ h => rv rfl (x_loadS rfl h.1 Try.underlying61 [.int .i64 o.att, .int .i64 o.ata] sz61 (blk_list (L := opc o A c) (blk_kx HBX1 h.2.1 (fun e => (blk_neT HBX1 HBX3 rfl) e)) 8 rfl)) rfl,
    fun _ _ h => rc hgrow rfl Try.func92 (by kernel_rfl) rfl rfl (args1 h.1) (toSt_calls o.att o.ata _) (fun _ _ h => ⟨_, h.1, h.2, rfl⟩),
    fun _ _ h => rv rfl (x_field rfl h.1 Try.underlying67 rfl sz65 (by decide) rfl) rfl,
    ?_, trivial⟩) ?_
  · rintro a_ W ⟨h3, h2, h9, -⟩
    exact rstoreS rfl rfl h3 h2 (by simp [Value.oneCell']) sz65 h9 rfl (blk_stored (cs := [.int .i64 o.att, .int .i64 o.ata]) 8 _ [.int .i64 o.actor, .int .i64 o.seq, .int .i64 o.time, .slice (some ⟨gt, 0, none⟩) o.deps.length o.deps.length, .int .i64 o.kind, .int .i64 o.obj, .int .i64 o.num, .int .i64 o.undo, .int .i64 0, .int .i64 0, .string ⟨#[]⟩, .string ⟨#[]⟩] h9 (of_decide_eq_true rfl)) ⟨fun h => h.sets rfl _ _, trivial⟩
  clear s1 s2 s3
  clear hN hD
  rintro a11 w11 hN hD ⟨MBX3, s1, s2, s3, hGR, -⟩
  have NB := Kx.below HB hGR HB.size (fun k e => by subst e; exact lg3)
  have NBX1 := blk_kx HBX1 hGR (fun e => (blk_neT HBX1 HBX3 rfl) e)
  have NBX2 := blk_kx HBX2 hGR (fun e => n_g2_g3 e)
  have NCgt : IB w11 gt o.deps 3 := blk_kx HCgt hGR (fun e => (blk_neT HCgt HBX3 rfl) e)
  replace HB := NB
  replace HBX1 := NBX1
  replace HBX2 := NBX2
  replace HCgt := NCgt
  clear NB NBX1 NBX2 NCgt
  replace HBX3 := MBX3
  clear MBX3
  clear hGR
  show Code.wp _ _ _ _ _
  refine wp_seq ?_
  refine deedL [.eq 33 (.pointer (some ⟨g1, 10, none⟩)), .eq 34 (.string o.key), .eq 35 (.pointer (some ⟨g3, 10, none⟩)), .w fun W => W.heap[g3]? = some (.cells ([.int .i64 o.actor, .int .i64 o.seq, .int .i64 o.time, .slice (some ⟨gt, 0, none⟩) o.deps.length o.deps.length, .int .i64 o.kind, .int .i64 o.obj, .int .i64 o.num, .int .i64 o.undo, .int .i64 o.att, .int .i64 o.ata, .string o.key, .string ⟨#[]⟩]).toArray 67 (0, 0)), .eq 1 (.pointer (some ⟨g1, 0, none⟩)), .eq 2 (.pointer (some ⟨g2, 0, none⟩)), .eq 3 (.pointer (some ⟨g3, 0, none⟩)), .w (Kx (fun k => k = g3) w11), .w fun W => W.heap[g3]? = some (.cells ([.int .i64 o.actor, .int .i64 o.seq, .int .i64 o.time, .slice (some ⟨gt, 0, none⟩) o.deps.length o.deps.length, .int .i64 o.kind, .int .i64 o.obj, .int .i64 o.num, .int .i64 o.undo, .int .i64 o.att, .int .i64 o.ata, .string ⟨#[]⟩, .string ⟨#[]⟩]).toArray 67 (0, 0))] 40 [[4], [0, 7], [6], [2, 1, 8]] [[], [], [], [8]] [3, 4, 5, 6, 7] hM hN hD (by kernel_rfl) ⟨s1, s2, s3, ⟨Kx.refl _ _, Kx.drew _ _⟩, ⟨HBX3, blk_below HBX3 (below_drew (Below.refl _ _))⟩, trivial⟩ ⟨fun _ _ hb h => blk_below h hb, fun _ _ hb h => h.step hb, fun _ _ hb h => blk_below h hb, trivial⟩ (fun hgrow => ⟨fun _ _ h => rv rfl (x_field rfl h.1 Try.underlying63 rfl sz9 (by decide) rfl) rfl,
    fun _ _ h => rv rfl (x_load1 rfl h.1 Try.underlying9 rfl (blk_one (L := opc o A c) (blk_kx HBX1 h.2.1 (fun e => (blk_neT HBX1 HBX3 rfl) e)) 10 rfl)) rfl,
    fun _ _ h => rv rfl (x_field rfl h.1 Try.underlying67 rfl sz9 (by decide) rfl) rfl,
    ?_, trivial⟩) ?_
  · rintro a_ W ⟨h2, h1, h8, -⟩
    exact rstore1 rfl rfl h2 h1 rfl sz9 (L := [.int .i64 o.actor, .int .i64 o.seq, .int .i64 o.time, .slice (some ⟨gt, 0, none⟩) o.deps.length o.deps.length, .int .i64 o.kind, .int .i64 o.obj, .int .i64 o.num, .int .i64 o.undo, .int .i64 o.att, .int .i64 o.ata, .string ⟨#[]⟩, .string ⟨#[]⟩]) (off := 10) h8 rfl (blk_setL h8 10 _) ⟨fun h => h.set rfl _ _, trivial⟩
  clear s1 s2 s3
  clear hN hD
  rintro a12 w12 hN hD ⟨MBX3, s1, s2, s3, hGR, -⟩
  have NB := Kx.below HB hGR HB.size (fun k e => by subst e; exact lg3)
  have NBX1 := blk_kx HBX1 hGR (fun e => (blk_neT HBX1 HBX3 rfl) e)
  have NBX2 := blk_kx HBX2 hGR (fun e => n_g2_g3 e)
  have NCgt : IB w12 gt o.deps 3 := blk_kx HCgt hGR (fun e => (blk_neT HCgt HBX3 rfl) e)
  replace HB := NB
  replace HBX1 := NBX1
  replace HBX2 := NBX2
  replace HCgt := NCgt
  clear NB NBX1 NBX2 NCgt
  replace HBX3 := MBX3
  clear MBX3
  clear hGR
  show Code.wp _ _ _ _ _
  refine wp_seq ?_
  refine deedL [.eq 36 (.pointer (some ⟨g1, 11, none⟩)), .eq 37 (.string o.text), .eq 38 (.pointer (some ⟨g3, 11, none⟩)), .w fun W => W.heap[g3]? = some (.cells ([.int .i64 o.actor, .int .i64 o.seq, .int .i64 o.time, .slice (some ⟨gt, 0, none⟩) o.deps.length o.deps.length, .int .i64 o.kind, .int .i64 o.obj, .int .i64 o.num, .int .i64 o.undo, .int .i64 o.att, .int .i64 o.ata, .string o.key, .string o.text]).toArray 67 (0, 0)), .eq 1 (.pointer (some ⟨g1, 0, none⟩)), .eq 2 (.pointer (some ⟨g2, 0, none⟩)), .eq 3 (.pointer (some ⟨g3, 0, none⟩)), .w (Kx (fun k => k = g3) w12), .w fun W => W.heap[g3]? = some (.cells ([.int .i64 o.actor, .int .i64 o.seq, .int .i64 o.time, .slice (some ⟨gt, 0, none⟩) o.deps.length o.deps.length, .int .i64 o.kind, .int .i64 o.obj, .int .i64 o.num, .int .i64 o.undo, .int .i64 o.att, .int .i64 o.ata, .string o.key, .string ⟨#[]⟩]).toArray 67 (0, 0))] 40 [[4], [0, 7], [6], [2, 1, 8]] [[], [], [], [8]] [3, 4, 5, 6, 7] hM hN hD (by kernel_rfl) ⟨s1, s2, s3, ⟨Kx.refl _ _, Kx.drew _ _⟩, ⟨HBX3, blk_below HBX3 (below_drew (Below.refl _ _))⟩, trivial⟩ ⟨fun _ _ hb h => blk_below h hb, fun _ _ hb h => h.step hb, fun _ _ hb h => blk_below h hb, trivial⟩ (fun hgrow => ⟨fun _ _ h => rv rfl (x_field rfl h.1 Try.underlying63 rfl sz9 (by decide) rfl) rfl,
    fun _ _ h => rv rfl (x_load1 rfl h.1 Try.underlying9 rfl (blk_one (L := opc o A c) (blk_kx HBX1 h.2.1 (fun e => (blk_neT HBX1 HBX3 rfl) e)) 11 rfl)) rfl,
    fun _ _ h => rv rfl (x_field rfl h.1 Try.underlying67 rfl sz9 (by decide) rfl) rfl,
    ?_, trivial⟩) ?_
  · rintro a_ W ⟨h2, h1, h8, -⟩
    exact rstore1 rfl rfl h2 h1 rfl sz9 (L := [.int .i64 o.actor, .int .i64 o.seq, .int .i64 o.time, .slice (some ⟨gt, 0, none⟩) o.deps.length o.deps.length, .int .i64 o.kind, .int .i64 o.obj, .int .i64 o.num, .int .i64 o.undo, .int .i64 o.att, .int .i64 o.ata, .string o.key, .string ⟨#[]⟩]) (off := 11) h8 rfl (blk_setL h8 11 _) ⟨fun h => h.set rfl _ _, trivial⟩
  clear s1 s2 s3
  clear hN hD
  rintro a13 w13 hN hD ⟨MBX3, s1, s2, s3, hGR, -⟩
  have NB := Kx.below HB hGR HB.size (fun k e => by subst e; exact lg3)
  have NBX1 := blk_kx HBX1 hGR (fun e => (blk_neT HBX1 HBX3 rfl) e)
  have NBX2 := blk_kx HBX2 hGR (fun e => n_g2_g3 e)
  have NCgt : IB w13 gt o.deps 3 := blk_kx HCgt hGR (fun e => (blk_neT HCgt HBX3 rfl) e)
  replace HB := NB
  replace HBX1 := NBX1
  replace HBX2 := NBX2
  replace HCgt := NCgt
  clear NB NBX1 NBX2 NCgt
  replace HBX3 := MBX3
  clear MBX3
  clear hGR
  show Code.wp _ _ _ _ _
  refine wp_seq ?_
  refine deedL [.eq 39 (.agg #[Value.int .i64 o.actor, Value.int .i64 o.seq, Value.int .i64 o.time, Value.slice (some ⟨gt, 0, none⟩) o.deps.length o.deps.length, Value.int .i64 o.kind, Value.int .i64 o.obj, Value.int .i64 o.num, Value.int .i64 o.undo, Value.int .i64 o.att, Value.int .i64 o.ata, Value.string o.key, Value.string o.text]), .w fun W => W.heap[g2]? = some (.cells ([.int .i64 o.actor, .int .i64 o.seq, .int .i64 o.time, .slice (some ⟨gt, 0, none⟩) o.deps.length o.deps.length, .int .i64 o.kind, .int .i64 o.obj, .int .i64 o.num, .int .i64 o.undo, .int .i64 o.att, .int .i64 o.ata, .string o.key, .string o.text]).toArray 67 (0, 0)), .eq 2 (.pointer (some ⟨g2, 0, none⟩)), .eq 3 (.pointer (some ⟨g3, 0, none⟩)), .w (Kx (fun k => k = g2) w13), .w fun W => W.heap[g2]? = some (.cells ([.int .i64 0, .int .i64 0, .int .i64 0, .slice none 0 0, .int .i64 0, .int .i64 0, .int .i64 0, .int .i64 0, .int .i64 0, .int .i64 0, .string ⟨#[]⟩, .string ⟨#[]⟩]).toArray 67 (0, 0))] 40 [[3, 4], [2, 0, 5]] [[], [5]] [1, 2, 3, 4] hM hN hD (by kernel_rfl) ⟨s2, s3, ⟨Kx.refl _ _, Kx.drew _ _⟩, ⟨HBX2, blk_below HBX2 (below_drew (Below.refl _ _))⟩, trivial⟩ ⟨fun _ _ hb h => blk_below h hb, fun _ _ hb h => h.step hb, fun _ _ hb h => blk_below h hb, trivial⟩ (fun hgrow => ⟨fun _ _ h => rv rfl (x_loadS rfl h.1 Try.underlying67 [.int .i64 o.actor, .int .i64 o.seq, .int .i64 o.time, .slice (some ⟨gt, 0, none⟩) o.deps.length o.deps.length, .int .i64 o.kind, .int .i64 o.obj, .int .i64 o.num, .int .i64 o.undo, .int .i64 o.att, .int .i64 o.ata, .string o.key, .string o.text] sz67 (blk_list (L := [.int .i64 o.actor, .int .i64 o.seq, .int .i64 o.time, .slice (some ⟨gt, 0, none⟩) o.deps.length o.deps.length, .int .i64 o.kind, .int .i64 o.obj, .int .i64 o.num, .int .i64 o.undo, .int .i64 o.att, .int .i64 o.ata, .string o.key, .string o.text]) (blk_kx HBX3 h.2.1 (fun e => (Ne.symm n_g2_g3) e)) 0 rfl)) rfl,
    ?_, trivial⟩) ?_
  · rintro a_ W ⟨h2, h0, h5, -⟩
    exact rstoreS rfl rfl h2 h0 (by simp [Value.oneCell']) sz67 h5 rfl (blk_stored (cs := [.int .i64 o.actor, .int .i64 o.seq, .int .i64 o.time, .slice (some ⟨gt, 0, none⟩) o.deps.length o.deps.length, .int .i64 o.kind, .int .i64 o.obj, .int .i64 o.num, .int .i64 o.undo, .int .i64 o.att, .int .i64 o.ata, .string o.key, .string o.text]) 0 _ [.int .i64 0, .int .i64 0, .int .i64 0, .slice none 0 0, .int .i64 0, .int .i64 0, .int .i64 0, .int .i64 0, .int .i64 0, .int .i64 0, .string ⟨#[]⟩, .string ⟨#[]⟩] h5 (of_decide_eq_true rfl)) ⟨fun h => h.sets rfl _ _, trivial⟩
  clear s1 s2 s3
  clear hN hD
  rintro a14 w14 hN hD ⟨MBX2, s2, s3, hGR, -⟩
  have NB := Kx.below HB hGR HB.size (fun k e => by subst e; exact lg2)
  have NBX1 := blk_kx HBX1 hGR (fun e => (blk_neT HBX1 HBX2 rfl) e)
  have NCgt : IB w14 gt o.deps 3 := blk_kx HCgt hGR (fun e => (blk_neT HCgt HBX2 rfl) e)
  have NBX3 := blk_kx HBX3 hGR (fun e => (Ne.symm n_g2_g3) e)
  replace HB := NB
  replace HBX1 := NBX1
  replace HCgt := NCgt
  replace HBX3 := NBX3
  clear NB NBX1 NCgt NBX3
  replace HBX2 := MBX2
  clear MBX2
  clear hGR
  show Code.wp _ _ _ _ _
  refine wp_ret ?_
  refine bodyPost_ret (results_single rfl (vcell s2 HBX2 Try.underlying67 rfl sz67 .nil)) hD ?_
  exact ⟨gt, rfl, lgt, HCgt, HB⟩
end Go.Proofs.Ytideafkiaipnoaa.Q
