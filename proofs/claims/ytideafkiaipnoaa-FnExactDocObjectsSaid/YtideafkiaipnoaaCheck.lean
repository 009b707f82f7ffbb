/- Stamps, vectors, letters: are they well formed. -/
import Derived.Test.YtideafkiaipnoaaSmall
namespace Go.Proofs.Ytideafkiaipnoaa.Q
open Go Go.RowKit Go.Proofs.YtideafkiaipnoaaW.PrintWords Go.Proofs.YtideafkiaipnoaaW.PrintLast Go.Proofs.Ytideafkiaipnoaa.Deed
set_option maxRecDepth 100000
def actorOK (a : Int) : Bool := decide (0 ≤ a) && decide (a < 16)
def stampOK (t a : Int) : Bool := decide (1 ≤ t) && decide (t ≤ 1000000000000) && actorOK a
def lessT (t a u b : Int) : Bool := decide (t < u) || (t == u && decide (a < b))
def noneT (t a : Int) : Bool := t == 0 && a == 0
def charOK (c : Int) : Bool := decide (0 ≤ c) && decide (c ≤ 1114111) && (decide (c < 55296) || decide (57343 < c))
def VecOK (xs : List Int) : Prop := xs.length = 16 ∧ ∀ j : Int, 0 ≤ j → j < 16 → 0 ≤ gi xs j ∧ gi xs j ≤ 1000000000000
noncomputable def vecOK (xs : List Int) : Bool := by classical exact decide (VecOK xs)
theorem vecOK_iff {xs : List Int} : vecOK xs = true ↔ VecOK xs := by simp [vecOK]
theorem vecOK_false {xs : List Int} (h : ¬ VecOK xs) : vecOK xs = false := by simp [vecOK, h]
theorem vecOK_true {xs : List Int} (h : VecOK xs) : vecOK xs = true := by simp [vecOK, h]
set_option maxHeartbeats 2000000 in
theorem isActor_calls (a : Int) (w : World) : Calls Try.prog 54 #[.int .i64 a] w fun e w' => e = .returned (.bool (actorOK a)) ∧ Below w.heap.size w w' := by
  refine calls_of_wp Try.func54 rfl ?_
  refine enter_ (N := 9) rfl ?_
  rintro a0 hN hD ⟨s0, -⟩
  have HB : Below w.heap.size w w := Below.refl _ _
  refine wp_seq ?_
  refine deedL [.eq 2 (.bool false), .eq 0 (.int .i64 a), .w (Below w.heap.size w)] 9 [[]] [] [1, 2] hM hN hD (by kernel_rfl) ⟨s0, ⟨Below.refl _ _, below_drew (Below.refl _ _)⟩, trivial⟩ ⟨fun _ _ hb h => below_step h hb, trivial⟩ (fun hgrow => ⟨fun _ _ _ => rv rfl (x_assign rfl rfl) rfl, trivial⟩) ?_
  clear s0
  clear hN hD
  rintro a1 w1 hN hD ⟨s0, hGR, -⟩
  replace HB := below_step HB hGR
  clear hGR
  show Code.wp _ _ _ _ _
  refine wp_seq ?_
  refine deedL [.eq 3 (.int .i64 a), .eq 4 (.bool (decide (0 ≤ a))), .eq 5 (.bool (decide (0 ≤ a))), .gv (((decide (0 ≤ a)) == true)) 6 (.int .i64 a), .gv (((decide (0 ≤ a)) == true)) 7 (.bool (decide (a < 16))), .eq 8 (.bool ((decide (0 ≤ a)) && (decide (a < 16)))), .eq 2 (.bool ((decide (0 ≤ a)) && (decide (a < 16)))), .eq 0 (.int .i64 a), .w (Below w1.heap.size w1)] 9 [[7], [0], [1], [2, 7], [2, 3], [2, 4], [5]] [] [6, 7, 8] hM hN hD (by kernel_rfl) ⟨s0, ⟨Below.refl _ _, below_drew (Below.refl _ _)⟩, trivial⟩ ⟨fun _ _ hb h => below_step h hb, trivial⟩ (fun hgrow => ⟨fun _ _ h => rv rfl (x_move rfl h.1) rfl,
    fun _ _ h => rv rfl (x_geq rfl h.1 rfl) rfl,
    fun _ _ h => rv rfl (x_move rfl h.1) rfl,
    fun _ _ h => rb rfl rfl h.1 (fun hgt => x_move rfl h.2.1) (fun _ z => z),
    fun _ _ h => rb rfl rfl h.1 (fun hgt => x_lss rfl (h.2.1.1 hgt) rfl) (fun _ z => z),
    fun _ _ h => rv rfl (x_and rfl rfl h.1 (fun hc => h.2.1.1 (beq_iff_eq.2 hc))) rfl,
    fun _ _ h => rv rfl (x_assign rfl h.1) rfl, trivial⟩) ?_
  clear s0
  clear hN hD
  rintro a2 w2 hN hD ⟨s2, s0, hGR, -⟩
  replace HB := below_step HB hGR
  clear hGR
  show Code.wp _ _ _ _ _
  refine wp_ret ?_
  refine bodyPost_ret (results_single rfl (vtmp s2 .nil)) hD ?_
  exact ⟨rfl, HB⟩
set_option maxHeartbeats 2000000 in
theorem iStampOK_calls (t a : Int) (w : World) : Calls Try.prog 111 #[.agg #[Value.int .i64 t, Value.int .i64 a]] w fun e w' => e = .returned (.bool (stampOK t a)) ∧ Below w.heap.size w w' := by
  refine calls_of_wp Try.func111 rfl ?_
  refine enter_ (N := 16) rfl ?_
  rintro a0 hN hD ⟨s0, -⟩
  have HB : Below w.heap.size w w := Below.refl _ _
  refine wp_seq ?_
  refine deedL [.s1 1 (NewB w.heap.size [.int .i64 t, .int .i64 a] 65), .eq 2 (.bool false), .eq 0 (.agg #[Value.int .i64 t, Value.int .i64 a]), .w (Below w.heap.size w)] 16 [[3, 2], []] [] [0, 2, 3] hM hN hD (by kernel_rfl) ⟨s0, ⟨Below.refl _ _, below_drew (Below.refl _ _)⟩, trivial⟩ ⟨fun _ _ _ hb h => h.grow hb, fun _ _ hb h => below_step h hb, trivial⟩ (fun hgrow => ⟨fun _ _ h => rbox hgrow rfl (x_box rfl h.2.1) h.1.size (fun _ _ z => z),
    fun _ _ _ => rv rfl (x_assign rfl rfl) rfl, trivial⟩) ?_
  clear s0
  clear hN hD
  rintro a1 w1 hN hD ⟨⟨g1, s1, lg1, HBX1⟩, s0, hGR, -⟩
  replace HB := below_step HB hGR
  clear hGR
  show Code.wp _ _ _ _ _
  refine wp_seq ?_
  refine deedL (.eq 3 (.pointer (some ⟨g1, 0, none⟩)) :: .eq 4 (.int .i64 t) :: .eq 5 (.bool (decide (1 ≤ t))) :: .eq 6 (.bool (decide (1 ≤ t))) :: .gv (((decide (1 ≤ t)) == true)) 7 (.pointer (some ⟨g1, 0, none⟩)) :: .gv (((decide (1 ≤ t)) == true)) 8 (.int .i64 t) :: .gv (((decide (1 ≤ t)) == true)) 9 (.bool (decide (t ≤ 1000000000000))) :: .eq 10 (.bool ((decide (1 ≤ t)) && (decide (t ≤ 1000000000000)))) :: .eq 11 (.bool ((decide (1 ≤ t)) && (decide (t ≤ 1000000000000)))) :: .gv ((((decide (1 ≤ t)) && (decide (t ≤ 1000000000000))) == true)) 12 (.pointer (some ⟨g1, 1, none⟩)) :: .gv ((((decide (1 ≤ t)) && (decide (t ≤ 1000000000000))) == true)) 13 (.int .i64 a) :: .gv ((((decide (1 ≤ t)) && (decide (t ≤ 1000000000000))) == true)) 14 (.bool (actorOK a)) :: .eq 15 (.bool (((decide (1 ≤ t)) && (decide (t ≤ 1000000000000))) && (actorOK a))) :: .eq 2 (.bool (((decide (1 ≤ t)) && (decide (t ≤ 1000000000000))) && (actorOK a))) :: .eq 1 (.pointer (some ⟨g1, 0, none⟩)) :: .w (Below w1.heap.size w1) :: []) 16 [[14], [0, 15], [1], [2], [3, 14], [3, 4, 15], [3, 5], [3, 6], [7], [8, 14], [8, 9, 15], [8, 10], [8, 11], [12]] [] [13, 14, 15] hM hN hD (by kernel_rfl) ⟨s1, ⟨Below.refl _ _, below_drew (Below.refl _ _)⟩, trivial⟩ ⟨fun _ _ hb h => below_step h hb, trivial⟩ (fun hgrow => ⟨fun _ _ h => rv rfl (x_field rfl h.1 Try.underlying65 rfl sz3 (by decide) rfl) rfl,
    fun _ _ h => rv rfl (x_load1 rfl h.1 Try.underlying3 rfl (blk_one (L := [.int .i64 t, .int .i64 a]) (blk_below HBX1 h.2.1) 0 rfl)) rfl,
    fun _ _ h => rv rfl (x_geq rfl h.1 rfl) rfl,
    fun _ _ h => rv rfl (x_move rfl h.1) rfl,
    fun _ _ h => rb rfl rfl h.1 (fun hgt => x_field rfl h.2.1 Try.underlying65 rfl sz3 (by decide) rfl) (fun _ z => z),
    fun _ _ h => rb rfl rfl h.1 (fun hgt => x_load1 rfl (h.2.1.1 hgt) Try.underlying3 rfl (blk_one (L := [.int .i64 t, .int .i64 a]) (blk_below HBX1 h.2.2.1) 0 rfl)) (fun _ z => z),
    fun _ _ h => rb rfl rfl h.1 (fun hgt => x_leq rfl (h.2.1.1 hgt) rfl) (fun _ z => z),
    fun _ _ h => rv rfl (x_and rfl rfl h.1 (fun hc => h.2.1.1 (beq_iff_eq.2 hc))) rfl,
    fun _ _ h => rv rfl (x_move rfl h.1) rfl,
    fun _ _ h => rb rfl rfl h.1 (fun hgt => x_field rfl h.2.1 Try.underlying65 rfl sz3 (by decide) rfl) (fun _ z => z),
    fun _ _ h => rb rfl rfl h.1 (fun hgt => x_load1 rfl (h.2.1.1 hgt) Try.underlying3 rfl (blk_one (L := [.int .i64 t, .int .i64 a]) (blk_below HBX1 h.2.2.1) 1 rfl)) (fun _ z => z),
    fun _ _ h => rcb hgrow rfl rfl h.1 Try.func54 (by kernel_rfl) rfl rfl (fun hgt => args1 (h.2.1.1 hgt)) (fun hgt => isActor_calls a _) (fun _ _ _ h => h) (fun _ _ z => z),
    fun _ _ h => rv rfl (x_and rfl rfl h.1 (fun hc => h.2.1.1 (beq_iff_eq.2 hc))) rfl,
    fun _ _ h => rv rfl (x_assign rfl h.1) rfl, trivial⟩) ?_
  clear s0 s1
  clear hN hD
  rintro a2 w2 hN hD ⟨s2, s1, hGR, -⟩
  replace HB := below_step HB hGR
  replace HBX1 := blk_below HBX1 hGR
  clear hGR
  show Code.wp _ _ _ _ _
  refine wp_ret ?_
  refine bodyPost_ret (results_single rfl (vtmp s2 .nil)) hD ?_
  exact ⟨rfl, HB⟩
set_option maxHeartbeats 2000000 in
theorem sStampOK_calls (t a : Int) (w : World) : Calls Try.prog 106 #[.agg #[Value.int .i64 t, Value.int .i64 a]] w fun e w' => e = .returned (.bool (stampOK t a)) ∧ Below w.heap.size w w' := by
  refine calls_of_wp Try.func106 rfl ?_
  refine enter_ (N := 21) rfl ?_
  rintro a0 hN hD ⟨s0, -⟩
  have HB : Below w.heap.size w w := Below.refl _ _
  refine wp_seq ?_
  refine deedL [.s1 1 (NewB w.heap.size [.int .i64 t, .int .i64 a] 65), .eq 2 (.bool false), .eq 0 (.agg #[Value.int .i64 t, Value.int .i64 a]), .w (Below w.heap.size w)] 21 [[3, 2], []] [] [0, 2, 3] hM hN hD (by kernel_rfl) ⟨s0, ⟨Below.refl _ _, below_drew (Below.refl _ _)⟩, trivial⟩ ⟨fun _ _ _ hb h => h.grow hb, fun _ _ hb h => below_step h hb, trivial⟩ (fun hgrow => ⟨fun _ _ h => rbox hgrow rfl (x_box rfl h.2.1) h.1.size (fun _ _ z => z),
    fun _ _ _ => rv rfl (x_assign rfl rfl) rfl, trivial⟩) ?_
  clear s0
  clear hN hD
  rintro a1 w1 hN hD ⟨⟨g1, s1, lg1, HBX1⟩, s0, hGR, -⟩
  replace HB := below_step HB hGR
  clear hGR
  show Code.wp _ _ _ _ _
  refine wp_seq ?_
  refine deedL (.eq 3 (.pointer (some ⟨g1, 0, none⟩)) :: .eq 4 (.int .i64 t) :: .eq 5 (.bool (decide (1 ≤ t))) :: .eq 6 (.bool (decide (1 ≤ t))) :: .gv (((decide (1 ≤ t)) == true)) 7 (.pointer (some ⟨g1, 0, none⟩)) :: .gv (((decide (1 ≤ t)) == true)) 8 (.int .i64 t) :: .gv (((decide (1 ≤ t)) == true)) 9 (.bool (decide (t ≤ 1000000000000))) :: .eq 10 (.bool ((decide (1 ≤ t)) && (decide (t ≤ 1000000000000)))) :: .eq 11 (.bool ((decide (1 ≤ t)) && (decide (t ≤ 1000000000000)))) :: .gv ((((decide (1 ≤ t)) && (decide (t ≤ 1000000000000))) == true)) 12 (.pointer (some ⟨g1, 1, none⟩)) :: .gv ((((decide (1 ≤ t)) && (decide (t ≤ 1000000000000))) == true)) 13 (.int .i64 a) :: .gv ((((decide (1 ≤ t)) && (decide (t ≤ 1000000000000))) == true)) 14 (.bool (decide (0 ≤ a))) :: .eq 15 (.bool (((decide (1 ≤ t)) && (decide (t ≤ 1000000000000))) && (decide (0 ≤ a)))) :: .eq 16 (.bool (((decide (1 ≤ t)) && (decide (t ≤ 1000000000000))) && (decide (0 ≤ a)))) :: .gv (((((decide (1 ≤ t)) && (decide (t ≤ 1000000000000))) && (decide (0 ≤ a))) == true)) 17 (.pointer (some ⟨g1, 1, none⟩)) :: .gv (((((decide (1 ≤ t)) && (decide (t ≤ 1000000000000))) && (decide (0 ≤ a))) == true)) 18 (.int .i64 a) :: .gv (((((decide (1 ≤ t)) && (decide (t ≤ 1000000000000))) && (decide (0 ≤ a))) == true)) 19 (.bool (decide (a < 16))) :: .eq 20 (.bool ((((decide (1 ≤ t)) && (decide (t ≤ 1000000000000))) && (decide (0 ≤ a))) && (decide (a < 16)))) :: .eq 2 (.bool ((((decide (1 ≤ t)) && (decide (t ≤ 1000000000000))) && (decide (0 ≤ a))) && (decide (a < 16)))) :: .eq 1 (.pointer (some ⟨g1, 0, none⟩)) :: .w (Below w1.heap.size w1) :: []) 21 ([19] :: [0, 20] :: [1] :: [2] :: [3, 19] :: [3, 4, 20] :: [3, 5] :: [3, 6] :: [7] :: [8, 19] :: [8, 9, 20] :: [8, 10] :: [8, 11] :: [12] :: [13, 19] :: [13, 14, 20] :: [13, 15] :: [13, 16] :: [17] :: []) [] [18, 19, 20] hM hN hD (by kernel_rfl) ⟨s1, ⟨Below.refl _ _, below_drew (Below.refl _ _)⟩, trivial⟩ ⟨fun _ _ hb h => below_step h hb, trivial⟩ (fun hgrow => ⟨fun _ _ h => rv rfl (x_field rfl h.1 Try.underlying65 rfl sz3 (by decide) rfl) rfl,
    fun _ _ h => rv rfl (x_load1 rfl h.1 Try.underlying3 rfl (blk_one (L := [.int .i64 t, .int .i64 a]) (blk_below HBX1 h.2.1) 0 rfl)) rfl,
    fun _ _ h => rv rfl (x_geq rfl h.1 rfl) rfl,
    fun _ _ h => rv rfl (x_move rfl h.1) rfl,
    fun _ _ h => rb rfl rfl h.1 (fun hgt => x_field rfl h.2.1 Try.underlying65 rfl sz3 (by decide) rfl) (fun _ z => z),
    fun _ _ h => rb rfl rfl h.1 (fun hgt => x_load1 rfl (h.2.1.1 hgt) Try.underlying3 rfl (blk_one (L := [.int .i64 t, .int .i64 a]) (blk_below HBX1 h.2.2.1) 0 rfl)) (fun _ z => z),
    fun _ _ h => rb rfl rfl h.1 (fun hgt => x_leq rfl (h.2.1.1 hgt) rfl) (fun _ z => z),
    fun _ _ h => rv rfl (x_and rfl rfl h.1 (fun hc => h.2.1.1 (beq_iff_eq.2 hc))) rfl,
    fun _ _ h => rv rfl (x_move rfl h.1) rfl,
    fun _ _ h => rb rfl rfl h.1 (fun hgt => x_field rfl h.2.1 Try.underlying65 rfl sz3 (by decide) rfl) (fun _ z => z),
    fun _ _ h => rb rfl rfl h.1 (fun hgt => x_load1 rfl (h.2.1.1 hgt) Try.underlying3 rfl (blk_one (L := [.int .i64 t, .int .i64 a]) (blk_below HBX1 h.2.2.1) 1 rfl)) (fun _ z => z),
    fun _ _ h => rb rfl rfl h.1 (fun hgt => x_geq rfl (h.2.1.1 hgt) rfl) (fun _ z => z),
    fun _ _ h => rv rfl (x_and rfl rfl h.1 (fun hc => h.2.1.1 (beq_iff_eq.2 hc))) rfl,
    fun _ _ h => rv rfl (x_move rfl h.1) rfl,
    fun _ _ h => rb rfl rfl h.1 (fun hgt => x_field rfl h.2.1 Try.underlying65 rfl sz3 (by decide) rfl) (fun _ z => z),
    fun _ _ h => rb rfl rfl h.1 (fun hgt => x_load1 rfl (h.2.1.1 hgt) Try.underlying3 rfl (blk_one (L := [.int .i64 t, .int .i64 a]) (blk_below HBX1 h.2.2.1) 1 rfl)) (fun _ z => z),
    fun _ _ h => rb rfl rfl h.1 (fun hgt => x_lss rfl (h.2.1.1 hgt) rfl) (fun _ z => z),
    fun _ _ h => rv rfl (x_and rfl rfl h.1 (fun hc => h.2.1.1 (beq_iff_eq.2 hc))) rfl,
    fun _ _ h => rv rfl (x_assign rfl h.1) rfl, trivial⟩) ?_
  clear s0 s1
  clear hN hD
  rintro a2 w2 hN hD ⟨s2, s1, hGR, -⟩
  replace HB := below_step HB hGR
  replace HBX1 := blk_below HBX1 hGR
  clear hGR
  show Code.wp _ _ _ _ _
  refine wp_ret ?_
  refine bodyPost_ret (results_single rfl (vtmp s2 .nil)) hD ?_
  exact ⟨by unfold stampOK actorOK; simp only [Bool.and_assoc], HB⟩
set_option maxHeartbeats 2000000 in
theorem sStamp_calls (o : Op) (A3 : Option Addr) (c3 : Nat) (w : World) : Calls Try.prog 105 #[.agg (opc o A3 c3).toArray] w fun e w' => e = .returned (.agg #[Value.int .i64 o.time, Value.int .i64 o.actor]) ∧ Below w.heap.size w w' := by
  refine calls_of_wp Try.func105 rfl ?_
  refine enter_ (N := 8) rfl ?_
  rintro a0 hN hD ⟨s0, -⟩
  have HB : Below w.heap.size w w := Below.refl _ _
  refine wp_seq ?_
  refine deedL [.s1 1 (NewB w.heap.size (opc o A3 c3) 67), .s1 2 (NewB w.heap.size [.int .i64 0, .int .i64 0] 65), .eq 0 (.agg (opc o A3 c3).toArray), .w (Below w.heap.size w)] 8 [[3, 2], [3]] [] [0, 1, 2, 3] hM hN hD (by kernel_rfl) ⟨s0, ⟨Below.refl _ _, below_drew (Below.refl _ _)⟩, trivial⟩ ⟨fun _ _ _ hb h => h.grow hb, fun _ _ _ hb h => h.grow hb, fun _ _ hb h => below_step h hb, trivial⟩ (fun hgrow => ⟨fun _ _ h => rbox hgrow rfl (x_box rfl h.2.1) h.1.size (fun _ _ z => z),
    fun _ _ h => rbox hgrow rfl (x_alloc rfl zr65) h.1.size (fun _ _ z => z), trivial⟩) ?_
  clear s0
  clear hN hD
  rintro a1 w1 hN hD ⟨⟨g1, s1, lg1, HBX1⟩, ⟨g2, s2, lg2, HBX2⟩, s0, hGR, -⟩
  replace HB := below_step HB hGR
  clear hGR
  show Code.wp _ _ _ _ _
  refine wp_seq ?_
  refine deedL [.eq 3 (.pointer (some ⟨g1, 2, none⟩)), .eq 4 (.int .i64 o.time), .eq 5 (.pointer (some ⟨g1, 0, none⟩)), .eq 6 (.int .i64 o.actor), .eq 7 (.agg #[Value.int .i64 o.time, Value.int .i64 o.actor]), .w fun W => W.heap[g2]? = some (.cells ([.int .i64 o.time, .int .i64 o.actor]).toArray 65 (0, 0)), .eq 1 (.pointer (some ⟨g1, 0, none⟩)), .eq 2 (.pointer (some ⟨g2, 0, none⟩)), .w (Kx (fun k => k = g2) w1), .w fun W => W.heap[g2]? = some (.cells ([.int .i64 0, .int .i64 0]).toArray 65 (0, 0))] 8 [[6], [0, 8], [6], [2, 8], [1, 3], [7, 4, 9]] [[], [], [], [], [], [9]] [5, 6, 7, 8] hM hN hD (by kernel_rfl) ⟨s1, s2, ⟨Kx.refl _ _, Kx.drew _ _⟩, ⟨HBX2, blk_below HBX2 (below_drew (Below.refl _ _))⟩, trivial⟩ ⟨fun _ _ hb h => blk_below h hb, fun _ _ hb h => h.step hb, fun _ _ hb h => blk_below h hb, trivial⟩ (fun hgrow => ⟨fun _ _ h => rv rfl (x_field rfl h.1 Try.underlying67 rfl sz3 (by decide) rfl) rfl,
    fun _ _ h => rv rfl (x_load1 rfl h.1 Try.underlying3 rfl (blk_one (L := opc o A3 c3) (blk_kx HBX1 h.2.1 (fun e => (blk_neT HBX1 HBX2 rfl) e)) 2 rfl)) rfl,
    fun _ _ h => rv rfl (x_field rfl h.1 Try.underlying67 rfl sz3 (by decide) rfl) rfl,
    fun _ _ h => rv rfl (x_load1 rfl h.1 Try.underlying3 rfl (blk_one (L := opc o A3 c3) (blk_kx HBX1 h.2.1 (fun e => (blk_neT HBX1 HBX2 rfl) e)) 0 rfl)) rfl,
    fun _ _ h => rv rfl (x_build rfl Try.underlying65 zr65 bp65 (bcons h.1 (bcons h.2.1 rfl)) (by kernel_rfl) (ps := [(0, _), (1, _)]) (vs := [(0, .int .i64 o.time), (1, .int .i64 o.actor)]) (L := [.int .i64 o.time, .int .i64 o.actor])) rfl,
    ?_, trivial⟩) ?_
  · rintro a_ W ⟨h7, h4, h9, -⟩
    exact rstoreS rfl rfl h7 h4 (by simp [Value.oneCell']) sz65 h9 rfl (blk_stored (cs := [.int .i64 o.time, .int .i64 o.actor]) 0 _ [.int .i64 0, .int .i64 0] h9 (of_decide_eq_true rfl)) ⟨fun h => h.sets rfl _ _, trivial⟩
  clear s0 s1 s2
  clear hN hD
  rintro a2 w2 hN hD ⟨MBX2, s1, s2, hGR, -⟩
  have NB := Kx.below HB hGR HB.size (fun k e => by subst e; exact lg2)
  have NBX1 := blk_kx HBX1 hGR (fun e => (blk_neT HBX1 HBX2 rfl) e)
  replace HB := NB
  replace HBX1 := NBX1
  clear NB NBX1
  replace HBX2 := MBX2
  clear MBX2
  clear hGR
  show Code.wp _ _ _ _ _
  refine wp_ret ?_
  refine bodyPost_ret (results_single rfl (vcell s2 HBX2 Try.underlying65 rfl sz65 .nil)) hD ?_
  exact ⟨rfl, HB⟩
set_option maxHeartbeats 2000000 in
theorem sLess_calls (t a u b : Int) (w : World) : Calls Try.prog 108 #[.agg #[Value.int .i64 t, Value.int .i64 a], .agg #[Value.int .i64 u, Value.int .i64 b]] w fun e w' => e = .returned (.bool (lessT t a u b)) ∧ Below w.heap.size w w' := by
  refine calls_of_wp Try.func108 rfl ?_
  refine enter_ (N := 24) rfl ?_
  rintro a0 hN hD ⟨s0, s1, -⟩
  have HB : Below w.heap.size w w := Below.refl _ _
  refine wp_seq ?_
  refine deedL [.s1 2 (NewB w.heap.size [.int .i64 t, .int .i64 a] 65), .s1 3 (NewB w.heap.size [.int .i64 u, .int .i64 b] 65), .eq 4 (.bool false), .eq 0 (.agg #[Value.int .i64 t, Value.int .i64 a]), .eq 1 (.agg #[Value.int .i64 u, Value.int .i64 b]), .w (Below w.heap.size w)] 24 [[5, 3], [5, 4], []] [] [0, 1, 3, 4, 5] hM hN hD (by kernel_rfl) ⟨s0, s1, ⟨Below.refl _ _, below_drew (Below.refl _ _)⟩, trivial⟩ ⟨fun _ _ _ hb h => h.grow hb, fun _ _ _ hb h => h.grow hb, fun _ _ hb h => below_step h hb, trivial⟩ (fun hgrow => ⟨fun _ _ h => rbox hgrow rfl (x_box rfl h.2.1) h.1.size (fun _ _ z => z),
    fun _ _ h => rbox hgrow rfl (x_box rfl h.2.1) h.1.size (fun _ _ z => z),
    fun _ _ _ => rv rfl (x_assign rfl rfl) rfl, trivial⟩) ?_
  clear s0 s1
  clear hN hD
  rintro a1 w1 hN hD ⟨⟨g2, s2, lg2, HBX2⟩, ⟨g3, s3, lg3, HBX3⟩, s0, s1, hGR, -⟩
  replace HB := below_step HB hGR
  clear hGR
  show Code.wp _ _ _ _ _
  refine wp_seq ?_
  refine deedL (.eq 5 (.pointer (some ⟨g2, 0, none⟩)) :: .eq 6 (.int .i64 t) :: .eq 7 (.pointer (some ⟨g3, 0, none⟩)) :: .eq 8 (.int .i64 u) :: .eq 9 (.bool (decide (t < u))) :: .eq 10 (.bool (decide (t < u))) :: .gv (((decide (t < u)) == false)) 11 (.pointer (some ⟨g2, 0, none⟩)) :: .gv (((decide (t < u)) == false)) 12 (.int .i64 t) :: .gv (((decide (t < u)) == false)) 13 (.pointer (some ⟨g3, 0, none⟩)) :: .gv (((decide (t < u)) == false)) 14 (.int .i64 u) :: .gv (((decide (t < u)) == false)) 15 (.bool (t == u)) :: .gv (((decide (t < u)) == false)) 16 (.bool (t == u)) :: .gv (((decide (t < u)) == false) && ((t == u) == true)) 17 (.pointer (some ⟨g2, 1, none⟩)) :: .gv (((decide (t < u)) == false) && ((t == u) == true)) 18 (.int .i64 a) :: .gv (((decide (t < u)) == false) && ((t == u) == true)) 19 (.pointer (some ⟨g3, 1, none⟩)) :: .gv (((decide (t < u)) == false) && ((t == u) == true)) 20 (.int .i64 b) :: .gv (((decide (t < u)) == false) && ((t == u) == true)) 21 (.bool (decide (a < b))) :: .gv (((decide (t < u)) == false)) 22 (.bool ((t == u) && (decide (a < b)))) :: .eq 23 (.bool ((decide (t < u)) || ((t == u) && (decide (a < b))))) :: .eq 4 (.bool ((decide (t < u)) || ((t == u) && (decide (a < b))))) :: .eq 2 (.pointer (some ⟨g2, 0, none⟩)) :: .eq 3 (.pointer (some ⟨g3, 0, none⟩)) :: .w (Below w1.heap.size w1) :: []) 24 ([20] :: [0, 22] :: [21] :: [2, 22] :: [1, 3] :: [4] :: [5, 20] :: [5, 6, 22] :: [5, 21] :: [5, 8, 22] :: [5, 7, 9] :: [5, 10] :: [11, 20] :: [11, 12, 22] :: [11, 21] :: [11, 14, 22] :: [11, 13, 15] :: [5, 11, 16] :: [5, 17] :: [18] :: []) [] [19, 20, 21, 22] hM hN hD (by kernel_rfl) ⟨s2, s3, ⟨Below.refl _ _, below_drew (Below.refl _ _)⟩, trivial⟩ ⟨fun _ _ hb h => below_step h hb, trivial⟩ (fun hgrow => ⟨fun _ _ h => rv rfl (x_field rfl h.1 Try.underlying65 rfl sz3 (by decide) rfl) rfl,
    fun _ _ h => rv rfl (x_load1 rfl h.1 Try.underlying3 rfl (blk_one (L := [.int .i64 t, .int .i64 a]) (blk_below HBX2 h.2.1) 0 rfl)) rfl,
    fun _ _ h => rv rfl (x_field rfl h.1 Try.underlying65 rfl sz3 (by decide) rfl) rfl,
    fun _ _ h => rv rfl (x_load1 rfl h.1 Try.underlying3 rfl (blk_one (L := [.int .i64 u, .int .i64 b]) (blk_below HBX3 h.2.1) 0 rfl)) rfl,
    fun _ _ h => rv rfl (x_lss rfl h.1 h.2.1) rfl,
    fun _ _ h => rv rfl (x_move rfl h.1) rfl,
    fun _ _ h => rb rfl rfl h.1 (fun hgt => x_field rfl h.2.1 Try.underlying65 rfl sz3 (by decide) rfl) (fun _ z => z),
    fun _ _ h => rb rfl rfl h.1 (fun hgt => x_load1 rfl (h.2.1.1 hgt) Try.underlying3 rfl (blk_one (L := [.int .i64 t, .int .i64 a]) (blk_below HBX2 h.2.2.1) 0 rfl)) (fun _ z => z),
    fun _ _ h => rb rfl rfl h.1 (fun hgt => x_field rfl h.2.1 Try.underlying65 rfl sz3 (by decide) rfl) (fun _ z => z),
    fun _ _ h => rb rfl rfl h.1 (fun hgt => x_load1 rfl (h.2.1.1 hgt) Try.underlying3 rfl (blk_one (L := [.int .i64 u, .int .i64 b]) (blk_below HBX3 h.2.2.1) 0 rfl)) (fun _ z => z),
    fun _ _ h => rb rfl rfl h.1 (fun hgt => x_eql rfl (h.2.1.1 hgt) (h.2.2.1.1 hgt)) (fun _ z => z),
    fun _ _ h => rb rfl rfl h.1 (fun hgt => x_move rfl (h.2.1.1 hgt)) (fun _ z => z),
    fun _ _ h => rg rfl rfl h.1 (fun hgt => x_field rfl h.2.1 Try.underlying65 rfl sz3 (by decide) rfl) (fun _ z => z),
    fun _ _ h => rg rfl rfl h.1 (fun hgt => x_load1 rfl (h.2.1.1 hgt) Try.underlying3 rfl (blk_one (L := [.int .i64 t, .int .i64 a]) (blk_below HBX2 h.2.2.1) 1 rfl)) (fun _ z => z),
    fun _ _ h => rg rfl rfl h.1 (fun hgt => x_field rfl h.2.1 Try.underlying65 rfl sz3 (by decide) rfl) (fun _ z => z),
    fun _ _ h => rg rfl rfl h.1 (fun hgt => x_load1 rfl (h.2.1.1 hgt) Try.underlying3 rfl (blk_one (L := [.int .i64 u, .int .i64 b]) (blk_below HBX3 h.2.2.1) 1 rfl)) (fun _ z => z),
    fun _ _ h => rg rfl rfl h.1 (fun hgt => x_lss rfl (h.2.1.1 hgt) (h.2.2.1.1 hgt)) (fun _ z => z),
    fun _ _ h => rb rfl rfl h.1 (fun hgt => x_and rfl rfl (h.2.1.1 hgt) (fun hc => h.2.2.1.1 (Bool.and_eq_true _ _ ▸ ⟨hgt, beq_iff_eq.2 hc⟩))) (fun _ z => z),
    fun _ _ h => rv rfl (x_or rfl rfl h.1 (fun hc => h.2.1.1 (beq_iff_eq.2 hc))) rfl,
    fun _ _ h => rv rfl (x_assign rfl h.1) rfl, trivial⟩) ?_
  clear s0 s1 s2 s3
  clear hN hD
  rintro a2 w2 hN hD ⟨s4, s2, s3, hGR, -⟩
  replace HB := below_step HB hGR
  replace HBX2 := blk_below HBX2 hGR
  replace HBX3 := blk_below HBX3 hGR
  clear hGR
  show Code.wp _ _ _ _ _
  refine wp_ret ?_
  refine bodyPost_ret (results_single rfl (vtmp s4 .nil)) hD ?_
  exact ⟨rfl, HB⟩
set_option maxHeartbeats 2000000 in
theorem sNone_calls (t a : Int) (w : World) : Calls Try.prog 107 #[.agg #[Value.int .i64 t, Value.int .i64 a]] w fun e w' => e = .returned (.bool (noneT t a)) ∧ Below w.heap.size w w' := by
  refine calls_of_wp Try.func107 rfl ?_
  refine enter_ (N := 11) rfl ?_
  rintro a0 hN hD ⟨s0, -⟩
  have HB : Below w.heap.size w w := Below.refl _ _
  refine wp_seq ?_
  refine deedL [.s1 1 (NewB w.heap.size [.int .i64 t, .int .i64 a] 65), .eq 2 (.bool false), .eq 0 (.agg #[Value.int .i64 t, Value.int .i64 a]), .w (Below w.heap.size w)] 11 [[3, 2], []] [] [0, 2, 3] hM hN hD (by kernel_rfl) ⟨s0, ⟨Below.refl _ _, below_drew (Below.refl _ _)⟩, trivial⟩ ⟨fun _ _ _ hb h => h.grow hb, fun _ _ hb h => below_step h hb, trivial⟩ (fun hgrow => ⟨fun _ _ h => rbox hgrow rfl (x_box rfl h.2.1) h.1.size (fun _ _ z => z),
    fun _ _ _ => rv rfl (x_assign rfl rfl) rfl, trivial⟩) ?_
  clear s0
  clear hN hD
  rintro a1 w1 hN hD ⟨⟨g1, s1, lg1, HBX1⟩, s0, hGR, -⟩
  replace HB := below_step HB hGR
  clear hGR
  show Code.wp _ _ _ _ _
  refine wp_seq ?_
  refine deedL [.eq 3 (.pointer (some ⟨g1, 0, none⟩)), .eq 4 (.int .i64 t), .eq 5 (.bool (t == 0)), .eq 6 (.bool (t == 0)), .gv (((t == 0) == true)) 7 (.pointer (some ⟨g1, 1, none⟩)), .gv (((t == 0) == true)) 8 (.int .i64 a), .gv (((t == 0) == true)) 9 (.bool (a == 0)), .eq 10 (.bool ((t == 0) && (a == 0))), .eq 2 (.bool ((t == 0) && (a == 0))), .eq 1 (.pointer (some ⟨g1, 0, none⟩)), .w (Below w1.heap.size w1)] 11 [[9], [0, 10], [1], [2], [3, 9], [3, 4, 10], [3, 5], [3, 6], [7]] [] [8, 9, 10] hM hN hD (by kernel_rfl) ⟨s1, ⟨Below.refl _ _, below_drew (Below.refl _ _)⟩, trivial⟩ ⟨fun _ _ hb h => below_step h hb, trivial⟩ (fun hgrow => ⟨fun _ _ h => rv rfl (x_field rfl h.1 Try.underlying65 rfl sz3 (by decide) rfl) rfl,
    fun _ _ h => rv rfl (x_load1 rfl h.1 Try.underlying3 rfl (blk_one (L := [.int .i64 t, .int .i64 a]) (blk_below HBX1 h.2.1) 0 rfl)) rfl,
    fun _ _ h => rv rfl (x_eql rfl h.1 rfl) rfl,
    fun _ _ h => rv rfl (x_move rfl h.1) rfl,
    fun _ _ h => rb rfl rfl h.1 (fun hgt => x_field rfl h.2.1 Try.underlying65 rfl sz3 (by decide) rfl) (fun _ z => z),
    fun _ _ h => rb rfl rfl h.1 (fun hgt => x_load1 rfl (h.2.1.1 hgt) Try.underlying3 rfl (blk_one (L := [.int .i64 t, .int .i64 a]) (blk_below HBX1 h.2.2.1) 1 rfl)) (fun _ z => z),
    fun _ _ h => rb rfl rfl h.1 (fun hgt => x_eql rfl (h.2.1.1 hgt) rfl) (fun _ z => z),
    fun _ _ h => rv rfl (x_and rfl rfl h.1 (fun hc => h.2.1.1 (beq_iff_eq.2 hc))) rfl,
    fun _ _ h => rv rfl (x_assign rfl h.1) rfl, trivial⟩) ?_
  clear s0 s1
  clear hN hD
  rintro a2 w2 hN hD ⟨s2, s1, hGR, -⟩
  replace HB := below_step HB hGR
  replace HBX1 := blk_below HBX1 hGR
  clear hGR
  show Code.wp _ _ _ _ _
  refine wp_ret ?_
  refine bodyPost_ret (results_single rfl (vtmp s2 .nil)) hD ?_
  exact ⟨rfl, HB⟩
set_option maxHeartbeats 2000000 in
theorem sChar_calls (c : Int) (w : World) : Calls Try.prog 109 #[.int .i64 c] w fun e w' => e = .returned (.bool (charOK c)) ∧ Below w.heap.size w w' := by
  refine calls_of_wp Try.func109 rfl ?_
  refine enter_ (N := 17) rfl ?_
  rintro a0 hN hD ⟨s0, -⟩
  have HB : Below w.heap.size w w := Below.refl _ _
  refine wp_seq ?_
  refine deedL [.eq 2 (.bool false), .eq 0 (.int .i64 c), .w (Below w.heap.size w)] 17 [[]] [] [1, 2] hM hN hD (by kernel_rfl) ⟨s0, ⟨Below.refl _ _, below_drew (Below.refl _ _)⟩, trivial⟩ ⟨fun _ _ hb h => below_step h hb, trivial⟩ (fun hgrow => ⟨fun _ _ _ => rv rfl (x_assign rfl rfl) rfl, trivial⟩) ?_
  clear s0
  clear hN hD
  rintro a1 w1 hN hD ⟨s0, hGR, -⟩
  replace HB := below_step HB hGR
  clear hGR
  show Code.wp _ _ _ _ _
  refine wp_seq ?_
  refine deedL (.eq 3 (.int .i64 c) :: .eq 4 (.bool (decide (0 ≤ c))) :: .eq 5 (.bool (decide (0 ≤ c))) :: .gv (((decide (0 ≤ c)) == true)) 6 (.int .i64 c) :: .gv (((decide (0 ≤ c)) == true)) 7 (.bool (decide (c ≤ 1114111))) :: .eq 8 (.bool ((decide (0 ≤ c)) && (decide (c ≤ 1114111)))) :: .eq 9 (.bool ((decide (0 ≤ c)) && (decide (c ≤ 1114111)))) :: .gv ((((decide (0 ≤ c)) && (decide (c ≤ 1114111))) == true)) 10 (.int .i64 c) :: .gv ((((decide (0 ≤ c)) && (decide (c ≤ 1114111))) == true)) 11 (.bool (decide (c < 55296))) :: .gv ((((decide (0 ≤ c)) && (decide (c ≤ 1114111))) == true)) 12 (.bool (decide (c < 55296))) :: .gv ((((decide (0 ≤ c)) && (decide (c ≤ 1114111))) == true) && ((decide (c < 55296)) == false)) 13 (.int .i64 c) :: .gv ((((decide (0 ≤ c)) && (decide (c ≤ 1114111))) == true) && ((decide (c < 55296)) == false)) 14 (.bool (decide (57343 < c))) :: .gv ((((decide (0 ≤ c)) && (decide (c ≤ 1114111))) == true)) 15 (.bool ((decide (c < 55296)) || (decide (57343 < c)))) :: .eq 16 (.bool (((decide (0 ≤ c)) && (decide (c ≤ 1114111))) && ((decide (c < 55296)) || (decide (57343 < c))))) :: .eq 2 (.bool (((decide (0 ≤ c)) && (decide (c ≤ 1114111))) && ((decide (c < 55296)) || (decide (57343 < c))))) :: .eq 0 (.int .i64 c) :: .w (Below w1.heap.size w1) :: []) 17 ([15] :: [0] :: [1] :: [2, 15] :: [2, 3] :: [2, 4] :: [5] :: [6, 15] :: [6, 7] :: [6, 8] :: [9, 15] :: [9, 10] :: [6, 9, 11] :: [6, 12] :: [13] :: []) [] [14, 15, 16] hM hN hD (by kernel_rfl) ⟨s0, ⟨Below.refl _ _, below_drew (Below.refl _ _)⟩, trivial⟩ ⟨fun _ _ hb h => below_step h hb, trivial⟩ (fun hgrow => ⟨fun _ _ h => rv rfl (x_move rfl h.1) rfl,
    fun _ _ h => rv rfl (x_geq rfl h.1 rfl) rfl,
    fun _ _ h => rv rfl (x_move rfl h.1) rfl,
    fun _ _ h => rb rfl rfl h.1 (fun hgt => x_move rfl h.2.1) (fun _ z => z),
    fun _ _ h => rb rfl rfl h.1 (fun hgt => x_leq rfl (h.2.1.1 hgt) rfl) (fun _ z => z),
    fun _ _ h => rv rfl (x_and rfl rfl h.1 (fun hc => h.2.1.1 (beq_iff_eq.2 hc))) rfl,
    fun _ _ h => rv rfl (x_move rfl h.1) rfl,
    fun _ _ h => rb rfl rfl h.1 (fun hgt => x_move rfl h.2.1) (fun _ z => z),
    fun _ _ h => rb rfl rfl h.1 (fun hgt => x_lss rfl (h.2.1.1 hgt) rfl) (fun _ z => z),
    fun _ _ h => rb rfl rfl h.1 (fun hgt => x_move rfl (h.2.1.1 hgt)) (fun _ z => z),
    fun _ _ h => rg rfl rfl h.1 (fun hgt => x_move rfl h.2.1) (fun _ z => z),
    fun _ _ h => rg rfl rfl h.1 (fun hgt => x_gtr rfl (h.2.1.1 hgt) rfl) (fun _ z => z),
    fun _ _ h => rb rfl rfl h.1 (fun hgt => x_or rfl rfl (h.2.1.1 hgt) (fun hc => h.2.2.1.1 (Bool.and_eq_true _ _ ▸ ⟨hgt, beq_iff_eq.2 hc⟩))) (fun _ z => z),
    fun _ _ h => rv rfl (x_and rfl rfl h.1 (fun hc => h.2.1.1 (beq_iff_eq.2 hc))) rfl,
    fun _ _ h => rv rfl (x_assign rfl h.1) rfl, trivial⟩) ?_
  clear s0
  clear hN hD
  rintro a2 w2 hN hD ⟨s2, s0, hGR, -⟩
  replace HB := below_step HB hGR
  clear hGR
  show Code.wp _ _ _ _ _
  refine wp_ret ?_
  refine bodyPost_ret (results_single rfl (vtmp s2 .nil)) hD ?_
  exact ⟨rfl, HB⟩
set_option maxHeartbeats 2000000 in
theorem iChar_calls (c : Int) (w : World) : Calls Try.prog 112 #[.int .i64 c] w fun e w' => e = .returned (.bool (charOK c)) ∧ Below w.heap.size w w' := by
  refine calls_of_wp Try.func112 rfl ?_
  refine enter_ (N := 17) rfl ?_
  rintro a0 hN hD ⟨s0, -⟩
  have HB : Below w.heap.size w w := Below.refl _ _
  refine wp_seq ?_
  refine deedL [.eq 2 (.bool false), .eq 0 (.int .i64 c), .w (Below w.heap.size w)] 17 [[]] [] [1, 2] hM hN hD (by kernel_rfl) ⟨s0, ⟨Below.refl _ _, below_drew (Below.refl _ _)⟩, trivial⟩ ⟨fun _ _ hb h => below_step h hb, trivial⟩ (fun hgrow => ⟨fun _ _ _ => rv rfl (x_assign rfl rfl) rfl, trivial⟩) ?_
  clear s0
  clear hN hD
  rintro a1 w1 hN hD ⟨s0, hGR, -⟩
  replace HB := below_step HB hGR
  clear hGR
  show Code.wp _ _ _ _ _
  refine wp_seq ?_
  refine deedL (.eq 3 (.int .i64 c) :: .eq 4 (.bool (decide (0 ≤ c))) :: .eq 5 (.bool (decide (0 ≤ c))) :: .gv (((decide (0 ≤ c)) == true)) 6 (.int .i64 c) :: .gv (((decide (0 ≤ c)) == true)) 7 (.bool (decide (c ≤ 1114111))) :: .eq 8 (.bool ((decide (0 ≤ c)) && (decide (c ≤ 1114111)))) :: .eq 9 (.bool ((decide (0 ≤ c)) && (decide (c ≤ 1114111)))) :: .gv ((((decide (0 ≤ c)) && (decide (c ≤ 1114111))) == true)) 10 (.int .i64 c) :: .gv ((((decide (0 ≤ c)) && (decide (c ≤ 1114111))) == true)) 11 (.bool (decide (c < 55296))) :: .gv ((((decide (0 ≤ c)) && (decide (c ≤ 1114111))) == true)) 12 (.bool (decide (c < 55296))) :: .gv ((((decide (0 ≤ c)) && (decide (c ≤ 1114111))) == true) && ((decide (c < 55296)) == false)) 13 (.int .i64 c) :: .gv ((((decide (0 ≤ c)) && (decide (c ≤ 1114111))) == true) && ((decide (c < 55296)) == false)) 14 (.bool (decide (57343 < c))) :: .gv ((((decide (0 ≤ c)) && (decide (c ≤ 1114111))) == true)) 15 (.bool ((decide (c < 55296)) || (decide (57343 < c)))) :: .eq 16 (.bool (((decide (0 ≤ c)) && (decide (c ≤ 1114111))) && ((decide (c < 55296)) || (decide (57343 < c))))) :: .eq 2 (.bool (((decide (0 ≤ c)) && (decide (c ≤ 1114111))) && ((decide (c < 55296)) || (decide (57343 < c))))) :: .eq 0 (.int .i64 c) :: .w (Below w1.heap.size w1) :: []) 17 ([15] :: [0] :: [1] :: [2, 15] :: [2, 3] :: [2, 4] :: [5] :: [6, 15] :: [6, 7] :: [6, 8] :: [9, 15] :: [9, 10] :: [6, 9, 11] :: [6, 12] :: [13] :: []) [] [14, 15, 16] hM hN hD (by kernel_rfl) ⟨s0, ⟨Below.refl _ _, below_drew (Below.refl _ _)⟩, trivial⟩ ⟨fun _ _ hb h => below_step h hb, trivial⟩ (fun hgrow => ⟨fun _ _ h => rv rfl (x_move rfl h.1) rfl,
    fun _ _ h => rv rfl (x_geq rfl h.1 rfl) rfl,
    fun _ _ h => rv rfl (x_move rfl h.1) rfl,
    fun _ _ h => rb rfl rfl h.1 (fun hgt => x_move rfl h.2.1) (fun _ z => z),
    fun _ _ h => rb rfl rfl h.1 (fun hgt => x_leq rfl (h.2.1.1 hgt) rfl) (fun _ z => z),
    fun _ _ h => rv rfl (x_and rfl rfl h.1 (fun hc => h.2.1.1 (beq_iff_eq.2 hc))) rfl,
    fun _ _ h => rv rfl (x_move rfl h.1) rfl,
    fun _ _ h => rb rfl rfl h.1 (fun hgt => x_move rfl h.2.1) (fun _ z => z),
    fun _ _ h => rb rfl rfl h.1 (fun hgt => x_lss rfl (h.2.1.1 hgt) rfl) (fun _ z => z),
    fun _ _ h => rb rfl rfl h.1 (fun hgt => x_move rfl (h.2.1.1 hgt)) (fun _ z => z),
    fun _ _ h => rg rfl rfl h.1 (fun hgt => x_move rfl h.2.1) (fun _ z => z),
    fun _ _ h => rg rfl rfl h.1 (fun hgt => x_gtr rfl (h.2.1.1 hgt) rfl) (fun _ z => z),
    fun _ _ h => rb rfl rfl h.1 (fun hgt => x_or rfl rfl (h.2.1.1 hgt) (fun hc => h.2.2.1.1 (Bool.and_eq_true _ _ ▸ ⟨hgt, beq_iff_eq.2 hc⟩))) (fun _ z => z),
    fun _ _ h => rv rfl (x_and rfl rfl h.1 (fun hc => h.2.1.1 (beq_iff_eq.2 hc))) rfl,
    fun _ _ h => rv rfl (x_assign rfl h.1) rfl, trivial⟩) ?_
  clear s0
  clear hN hD
  rintro a2 w2 hN hD ⟨s2, s0, hGR, -⟩
  replace HB := below_step HB hGR
  clear hGR
  show Code.wp _ _ _ _ _
  refine wp_ret ?_
  refine bodyPost_ret (results_single rfl (vtmp s2 .nil)) hD ?_
  exact ⟨rfl, HB⟩
set_option maxHeartbeats 2000000 in
theorem sVecOK_calls (A : Option Addr) (xs : List Int) (c : Nat) (w : World) (HR : RI w A xs) : Calls Try.prog 57 #[.agg #[Value.slice A xs.length c]] w fun e w' => e = .returned (.bool (vecOK xs)) ∧ Below w.heap.size w w' := by
  refine calls_of_wp Try.func57 rfl ?_
  refine enter_ (N := 26) rfl ?_
  rintro a0 hN hD ⟨s0, -⟩
  have HB : Below w.heap.size w w := Below.refl _ _
  refine wp_seq ?_
  refine deedL [.s1 1 (NewB w.heap.size [.slice A xs.length c] 41), .eq 2 (.bool false), .eq 0 (.agg #[Value.slice A xs.length c]), .w (Below w.heap.size w)] 26 [[3, 2], []] [] [0, 2, 3] hM hN hD (by kernel_rfl) ⟨s0, ⟨Below.refl _ _, below_drew (Below.refl _ _)⟩, trivial⟩ ⟨fun _ _ _ hb h => h.grow hb, fun _ _ hb h => below_step h hb, trivial⟩ (fun hgrow => ⟨fun _ _ h => rbox hgrow rfl (x_box rfl h.2.1) h.1.size (fun _ _ z => z),
    fun _ _ _ => rv rfl (x_assign rfl rfl) rfl, trivial⟩) ?_
  clear s0
  clear hN hD
  rintro a1 w1 hN hD ⟨⟨g1, s1, lg1, HBX1⟩, s0, hGR, -⟩
  replace HB := below_step HB hGR
  clear hGR
  show Code.wp _ _ _ _ _
  refine wp_seq ?_
  refine wp_seq ?_
  refine deedL [.eq 4 (.pointer (some ⟨g1, 0, none⟩)), .eq 5 (.slice A xs.length c), .eq 6 (.int .i64 (xs.length : Int)), .eq 7 (.bool ((xs.length : Int) != 16)), .eq 1 (.pointer (some ⟨g1, 0, none⟩)), .w (Below w1.heap.size w1)] 26 [[4], [0, 5], [1], [2]] [] [3, 4, 5] hM hN hD (by kernel_rfl) ⟨s1, ⟨Below.refl _ _, below_drew (Below.refl _ _)⟩, trivial⟩ ⟨fun _ _ hb h => below_step h hb, trivial⟩ (fun hgrow => ⟨fun _ _ h => rv rfl (x_field rfl h.1 Try.underlying41 rfl sz24 (by decide) rfl) rfl,
    fun _ _ h => rv rfl (x_load1 rfl h.1 Try.underlying24 rfl (blk_one (L := [.slice A xs.length c]) (blk_below HBX1 h.2.1) 0 rfl)) rfl,
    fun _ _ h => rv rfl (x_len_slice rfl Try.underlying24 h.1) rfl,
    fun _ _ h => rv rfl (x_neq rfl h.1 rfl) rfl, trivial⟩) ?_
  clear s0 s1
  clear hN hD
  rintro a2 w2 hN hD ⟨s7, s1, hGR, -⟩
  replace HB := below_step HB hGR
  replace HBX1 := blk_below HBX1 hGR
  clear hGR
  show Code.wp _ _ _ _ _
  refine wp_cond (t := (xs.length : Int) != 16) s7 ?_
  rcases Bool.eq_false_or_eq_true ((xs.length : Int) != 16) with cd3 | cd3
  · rw [cd3]
    show Code.wp _ _ _ _ _
    have pd3 := cd3
    simp at pd3
    refine wp_seq ?_
    refine deedL [.eq 2 (.bool false), .w (Below w2.heap.size w2)] 26 [[]] [] [0, 1] hM hN hD (by kernel_rfl) ⟨⟨Below.refl _ _, below_drew (Below.refl _ _)⟩, trivial⟩ ⟨fun _ _ hb h => below_step h hb, trivial⟩ (fun hgrow => ⟨fun _ _ _ => rv rfl (x_assign rfl rfl) rfl, trivial⟩) ?_
    clear s1 s7
    clear hN hD
    rintro a4 w4 hN hD ⟨s2, hGR, -⟩
    replace HB := below_step HB hGR
    replace HBX1 := blk_below HBX1 hGR
    clear hGR
    show Code.wp _ _ _ _ _
    refine wp_ret (then_ret ?_)
    refine bodyPost_ret (results_single rfl (vtmp s2 .nil)) hD ?_
    exact ⟨by rw [vecOK_false (fun h => pd3 (by have := h.1; omega))], HB⟩
  · rw [cd3]
    show Code.wp _ _ _ _ _
    have pd3 := cd3
    simp at pd3
    have hl : (xs.length : Int) = 16 := by simpa using cd3
    refine wp_skip ?_
    show Code.wp _ _ _ _ _
    refine wp_seq ?_
    refine wp_seq ?_
    refine deedL [.eq 3 (.int .i64 0), .eq 1 (.pointer (some ⟨g1, 0, none⟩)), .w (Below w2.heap.size w2)] 26 [[]] [] [0, 1, 2] hM hN hD (by kernel_rfl) ⟨s1, ⟨Below.refl _ _, below_drew (Below.refl _ _)⟩, trivial⟩ ⟨fun _ _ hb h => below_step h hb, trivial⟩ (fun hgrow => ⟨fun _ _ _ => rv rfl (x_assign rfl rfl) rfl, trivial⟩) ?_
    clear s1 s7
    clear hN hD
    rintro a5 w5 hN hD ⟨s3, s1, hGR, -⟩
    replace HB := below_step HB hGR
    replace HBX1 := blk_below HBX1 hGR
    clear hGR
    show Code.wp _ _ _ _ _
    refine wp_block ?_
    refine wp_loopN (fun n_ q_ w_ => ∃ (i : Int), (q_.tmps.size = 26) ∧ (q_.defers = []) ∧ (sl q_ 1 = .pointer (some ⟨g1, 0, none⟩)) ∧ (sl q_ 3 = .int .i64 i) ∧ (Below w.heap.size w w_) ∧ (w_.heap[g1]? = some (.cells ([.slice A xs.length c]).toArray 41 (0, 0))) ∧ (0 ≤ i) ∧ (i ≤ 16) ∧ (∀ j : Int, 0 ≤ j → j < i → 0 ≤ gi xs j ∧ gi xs j ≤ 1000000000000) ∧ (n_ = (16 - i).toNat)) ((fun (i : Int) => (16 - i).toNat) 0) ?_ ?_
    · exact ⟨0, hN, hD, s1, s3, HB, HBX1, (by omega), (by omega), (by intro j h0 h1; omega), rfl⟩
    clear s1 s3 HB HBX1 hN hD
    rintro n_6 a6 w6 ⟨i, hN, hD, s1, s3, HB, HBX1, hi0, hi1, hi, hmeas⟩
    refine wp_seq ?_
    refine wp_seq ?_
    refine deedL [.eq 8 (.int .i64 i), .eq 9 (.bool (decide (i < 16))), .eq 1 (.pointer (some ⟨g1, 0, none⟩)), .eq 3 (.int .i64 i), .w (Below w6.heap.size w6)] 26 [[3], [0]] [] [1, 2, 3, 4] hM hN hD (by kernel_rfl) ⟨s1, s3, ⟨Below.refl _ _, below_drew (Below.refl _ _)⟩, trivial⟩ ⟨fun _ _ hb h => below_step h hb, trivial⟩ (fun hgrow => ⟨fun _ _ h => rv rfl (x_move rfl h.1) rfl,
      fun _ _ h => rv rfl (x_lss rfl h.1 rfl) rfl, trivial⟩) ?_
    clear s1 s3
    clear hN hD
    rintro a7 w7 hN hD ⟨s9, s1, s3, hGR, -⟩
    replace HB := below_step HB hGR
    replace HBX1 := blk_below HBX1 hGR
    clear hGR
    show Code.wp _ _ _ _ _
    refine wp_cond (t := decide (i < 16)) s9 ?_
    rcases Bool.eq_false_or_eq_true (decide (i < 16)) with cd8 | cd8
    · rw [cd8]
      show Code.wp _ _ _ _ _
      have pd8 := of_decide_eq_true cd8
      refine wp_skip ?_
      show Code.wp _ _ _ _ _
      refine wp_seq ?_
      refine wp_block ?_
      refine wp_seq ?_
      refine deedL (.eq 12 (.pointer (some ⟨g1, 0, none⟩)) :: .eq 13 (.slice A xs.length c) :: .eq 14 (.int .i64 i) :: .eq 15 (.pointer (some ((adr A).add (i.toNat * 1)))) :: .eq 16 (.int .i64 (gi xs i)) :: .eq 17 (.bool (decide (gi xs i < 0))) :: .eq 18 (.bool (decide (gi xs i < 0))) :: .gv (((decide (gi xs i < 0)) == false)) 19 (.pointer (some ⟨g1, 0, none⟩)) :: .gv (((decide (gi xs i < 0)) == false)) 20 (.slice A xs.length c) :: .gv (((decide (gi xs i < 0)) == false)) 21 (.int .i64 i) :: .gv (((decide (gi xs i < 0)) == false)) 22 (.pointer (some ((adr A).add (i.toNat * 1)))) :: .gv (((decide (gi xs i < 0)) == false)) 23 (.int .i64 (gi xs i)) :: .gv (((decide (gi xs i < 0)) == false)) 24 (.bool (decide (1000000000000 < gi xs i))) :: .eq 25 (.bool ((decide (gi xs i < 0)) || (decide (1000000000000 < gi xs i)))) :: .eq 1 (.pointer (some ⟨g1, 0, none⟩)) :: .eq 3 (.int .i64 i) :: .w (Below w7.heap.size w7) :: []) 26 [[14], [0, 16], [15], [1, 2], [3, 16], [4], [5], [6, 14], [6, 7, 16], [6, 15], [6, 8, 9], [6, 10, 16], [6, 11], [6, 12]] [] [13, 14, 15, 16] hM hN hD (by kernel_rfl) ⟨s1, s3, ⟨Below.refl _ _, below_drew (Below.refl _ _)⟩, trivial⟩ ⟨fun _ _ hb h => below_step h hb, trivial⟩ (fun hgrow => ⟨fun _ _ h => rv rfl (x_field rfl h.1 Try.underlying41 rfl sz24 (by decide) rfl) rfl,
        fun _ _ h => rv rfl (x_load1 rfl h.1 Try.underlying24 rfl (blk_one (L := [.slice A xs.length c]) (blk_below HBX1 h.2.1) 0 rfl)) rfl,
        fun _ _ h => rv rfl (x_move rfl h.1) rfl,
        fun _ _ h => rv rfl (x_index_at rfl h.1 h.2.1 Try.underlying24 sz3 (by omega) (by omega) (RI.ad HR i (by omega) (by omega))) rfl,
        fun _ _ h => rv rfl (x_load1 rfl h.1 Try.underlying3 rfl (RI.at_ HR (below_step HB h.2.1) (by omega) (by omega))) rfl,
        fun _ _ h => rv rfl (x_lss rfl h.1 rfl) rfl,
        fun _ _ h => rv rfl (x_move rfl h.1) rfl,
        fun _ _ h => rb rfl rfl h.1 (fun hgt => x_field rfl h.2.1 Try.underlying41 rfl sz24 (by decide) rfl) (fun _ z => z),
        fun _ _ h => rb rfl rfl h.1 (fun hgt => x_load1 rfl (h.2.1.1 hgt) Try.underlying24 rfl (blk_one (L := [.slice A xs.length c]) (blk_below HBX1 h.2.2.1) 0 rfl)) (fun _ z => z),
        fun _ _ h => rb rfl rfl h.1 (fun hgt => x_move rfl h.2.1) (fun _ z => z),
        fun _ _ h => rb rfl rfl h.1 (fun hgt => x_index_at rfl (h.2.1.1 hgt) (h.2.2.1.1 hgt) Try.underlying24 sz3 (by simp at hgt; omega) (by simp at hgt; omega) (RI.ad HR i (by simp at hgt; omega) (by simp at hgt; omega))) (fun _ z => z),
        fun _ _ h => rb rfl rfl h.1 (fun hgt => x_load1 rfl (h.2.1.1 hgt) Try.underlying3 rfl (RI.at_ HR (below_step HB h.2.2.1) (by simp at hgt; omega) (by simp at hgt; omega))) (fun _ z => z),
        fun _ _ h => rb rfl rfl h.1 (fun hgt => x_gtr rfl (h.2.1.1 hgt) rfl) (fun _ z => z),
        fun _ _ h => rv rfl (x_or rfl rfl h.1 (fun hc => h.2.1.1 (beq_iff_eq.2 hc))) rfl, trivial⟩) ?_
      clear s1 s3 s9
      clear hN hD
      rintro a9 w9 hN hD ⟨s25, s1, s3, hGR, -⟩
      replace HB := below_step HB hGR
      replace HBX1 := blk_below HBX1 hGR
      clear hGR
      show Code.wp _ _ _ _ _
      refine wp_cond (t := (decide (gi xs i < 0)) || (decide (1000000000000 < gi xs i))) s25 ?_
      rcases Bool.eq_false_or_eq_true ((decide (gi xs i < 0)) || (decide (1000000000000 < gi xs i))) with cd10 | cd10
      · rw [cd10]
        show Code.wp _ _ _ _ _
        have hb := cd10
        refine wp_seq ?_
        refine deedL [.eq 2 (.bool false), .w (Below w9.heap.size w9)] 26 [[]] [] [0, 1] hM hN hD (by kernel_rfl) ⟨⟨Below.refl _ _, below_drew (Below.refl _ _)⟩, trivial⟩ ⟨fun _ _ hb h => below_step h hb, trivial⟩ (fun hgrow => ⟨fun _ _ _ => rv rfl (x_assign rfl rfl) rfl, trivial⟩) ?_
        clear s1 s3 s25
        clear hN hD
        rintro a11 w11 hN hD ⟨s2, hGR, -⟩
        replace HB := below_step HB hGR
        replace HBX1 := blk_below HBX1 hGR
        clear hGR
        show Code.wp _ _ _ _ _
        refine wp_ret (blk_ret (then_ret (then_ret (blk_ret (then_ret ?_)))))
        refine bodyPost_ret (results_single rfl (vtmp s2 .nil)) hD ?_
        exact ⟨by rw [vecOK_false (fun h => by have := h.2 i hi0 (by omega); simp at hb; omega)], HB⟩
      · rw [cd10]
        show Code.wp _ _ _ _ _
        have hb : 0 ≤ gi xs i ∧ gi xs i ≤ 1000000000000 := by have := cd10; simp at this; omega
        refine wp_skip ?_
        show Code.wp _ _ _ _ _
        refine deedL [.eq 10 (.int .i64 i), .eq 11 (.int .i64 (i + 1)), .eq 3 (.int .i64 (i + 1)), .eq 1 (.pointer (some ⟨g1, 0, none⟩)), .eq 3 (.int .i64 i), .w (Below w9.heap.size w9)] 26 [[4], [0], [1]] [[], [], [4]] [2, 3, 5] hM hN hD (by kernel_rfl) ⟨s1, s3, ⟨Below.refl _ _, below_drew (Below.refl _ _)⟩, trivial⟩ ⟨fun _ _ hb h => below_step h hb, trivial⟩ (fun hgrow => ⟨fun _ _ h => rv rfl (x_move rfl h.1) rfl,
          fun _ _ h => rv rfl (x_add' rfl h.1 rfl (by omega)) rfl,
          fun _ _ h => rv rfl (x_assign rfl h.1) rfl, trivial⟩) ?_
        clear s1 s3 s25
        clear hN hD
        rintro a12 w12 hN hD ⟨s3, s1, hGR, -⟩
        replace HB := below_step HB hGR
        replace HBX1 := blk_below HBX1 hGR
        clear hGR
        show ∃ m, m < n_6 ∧ _
        exact ⟨_, (by omega), ⟨(i + 1), hN, hD, s1, s3, HB, HBX1, (by omega), (by omega), (by intro j h0 h1; by_cases e : j = i; (subst e; exact hb); exact hi j h0 (by omega)), rfl⟩⟩
    · rw [cd8]
      show Code.wp _ _ _ _ _
      have pd8 := of_decide_eq_false cd8
      refine wp_exit (then_exit (then_exit (at_exit ?_)))
      show Code.wp _ _ _ _ _
      refine wp_seq ?_
      refine deedL [.eq 2 (.bool true), .w (Below w7.heap.size w7)] 26 [[]] [] [0, 1] hM hN hD (by kernel_rfl) ⟨⟨Below.refl _ _, below_drew (Below.refl _ _)⟩, trivial⟩ ⟨fun _ _ hb h => below_step h hb, trivial⟩ (fun hgrow => ⟨fun _ _ _ => rv rfl (x_assign rfl rfl) rfl, trivial⟩) ?_
      clear s1 s3 s9
      clear hN hD
      rintro a13 w13 hN hD ⟨s2, hGR, -⟩
      replace HB := below_step HB hGR
      replace HBX1 := blk_below HBX1 hGR
      clear hGR
      show Code.wp _ _ _ _ _
      refine wp_ret ?_
      refine bodyPost_ret (results_single rfl (vtmp s2 .nil)) hD ?_
      exact ⟨by rw [vecOK_true ⟨by omega, fun j h0 h1 => hi j h0 (by omega)⟩], HB⟩
set_option maxHeartbeats 2000000 in
theorem iVecOK_calls (A : Option Addr) (xs : List Int) (c : Nat) (w : World) (HR : RI w A xs) : Calls Try.prog 60 #[.agg #[Value.slice A xs.length c]] w fun e w' => e = .returned (.bool (vecOK xs)) ∧ Below w.heap.size w w' := by
  refine calls_of_wp Try.func60 rfl ?_
  refine enter_ (N := 23) rfl ?_
  rintro a0 hN hD ⟨s0, -⟩
  have HB : Below w.heap.size w w := Below.refl _ _
  refine wp_seq ?_
  refine deedL [.s1 1 (NewB w.heap.size [.slice A xs.length c] 41), .eq 2 (.bool false), .eq 0 (.agg #[Value.slice A xs.length c]), .w (Below w.heap.size w)] 23 [[3, 2], []] [] [0, 2, 3] hM hN hD (by kernel_rfl) ⟨s0, ⟨Below.refl _ _, below_drew (Below.refl _ _)⟩, trivial⟩ ⟨fun _ _ _ hb h => h.grow hb, fun _ _ hb h => below_step h hb, trivial⟩ (fun hgrow => ⟨fun _ _ h => rbox hgrow rfl (x_box rfl h.2.1) h.1.size (fun _ _ z => z),
    fun _ _ _ => rv rfl (x_assign rfl rfl) rfl, trivial⟩) ?_
  clear s0
  clear hN hD
  rintro a1 w1 hN hD ⟨⟨g1, s1, lg1, HBX1⟩, s0, hGR, -⟩
  replace HB := below_step HB hGR
  clear hGR
  show Code.wp _ _ _ _ _
  refine wp_seq ?_
  refine wp_seq ?_
  refine deedL [.eq 5 (.pointer (some ⟨g1, 0, none⟩)), .eq 6 (.slice A xs.length c), .eq 7 (.int .i64 (xs.length : Int)), .eq 8 (.bool ((xs.length : Int) != 16)), .eq 1 (.pointer (some ⟨g1, 0, none⟩)), .w (Below w1.heap.size w1)] 23 [[4], [0, 5], [1], [2]] [] [3, 4, 5] hM hN hD (by kernel_rfl) ⟨s1, ⟨Below.refl _ _, below_drew (Below.refl _ _)⟩, trivial⟩ ⟨fun _ _ hb h => below_step h hb, trivial⟩ (fun hgrow => ⟨fun _ _ h => rv rfl (x_field rfl h.1 Try.underlying41 rfl sz24 (by decide) rfl) rfl,
    fun _ _ h => rv rfl (x_load1 rfl h.1 Try.underlying24 rfl (blk_one (L := [.slice A xs.length c]) (blk_below HBX1 h.2.1) 0 rfl)) rfl,
    fun _ _ h => rv rfl (x_len_slice rfl Try.underlying24 h.1) rfl,
    fun _ _ h => rv rfl (x_neq rfl h.1 rfl) rfl, trivial⟩) ?_
  clear s0 s1
  clear hN hD
  rintro a2 w2 hN hD ⟨s8, s1, hGR, -⟩
  replace HB := below_step HB hGR
  replace HBX1 := blk_below HBX1 hGR
  clear hGR
  show Code.wp _ _ _ _ _
  refine wp_cond (t := (xs.length : Int) != 16) s8 ?_
  rcases Bool.eq_false_or_eq_true ((xs.length : Int) != 16) with cd3 | cd3
  · rw [cd3]
    show Code.wp _ _ _ _ _
    have pd3 := cd3
    simp at pd3
    refine wp_seq ?_
    refine deedL [.eq 2 (.bool false), .w (Below w2.heap.size w2)] 23 [[]] [] [0, 1] hM hN hD (by kernel_rfl) ⟨⟨Below.refl _ _, below_drew (Below.refl _ _)⟩, trivial⟩ ⟨fun _ _ hb h => below_step h hb, trivial⟩ (fun hgrow => ⟨fun _ _ _ => rv rfl (x_assign rfl rfl) rfl, trivial⟩) ?_
    clear s1 s8
    clear hN hD
    rintro a4 w4 hN hD ⟨s2, hGR, -⟩
    replace HB := below_step HB hGR
    replace HBX1 := blk_below HBX1 hGR
    clear hGR
    show Code.wp _ _ _ _ _
    refine wp_ret (then_ret ?_)
    refine bodyPost_ret (results_single rfl (vtmp s2 .nil)) hD ?_
    exact ⟨by rw [vecOK_false (fun h => pd3 (by have := h.1; omega))], HB⟩
  · rw [cd3]
    show Code.wp _ _ _ _ _
    have pd3 := cd3
    simp at pd3
    have hl : (xs.length : Int) = 16 := by simpa using cd3
    refine wp_skip ?_
    show Code.wp _ _ _ _ _
    refine wp_seq ?_
    refine wp_seq ?_
    refine deedL [.eq 9 (.pointer (some ⟨g1, 0, none⟩)), .eq 10 (.slice A xs.length c), .eq 11 (.int .i64 (xs.length : Int)), .eq 12 (.int .i64 0), .eq 1 (.pointer (some ⟨g1, 0, none⟩)), .w (Below w2.heap.size w2)] 23 [[4], [0, 5], [1], []] [] [1, 2, 3, 4, 5] hM hN hD (by kernel_rfl) ⟨s1, ⟨Below.refl _ _, below_drew (Below.refl _ _)⟩, trivial⟩ ⟨fun _ _ hb h => below_step h hb, trivial⟩ (fun hgrow => ⟨fun _ _ h => rv rfl (x_field rfl h.1 Try.underlying41 rfl sz24 (by decide) rfl) rfl,
      fun _ _ h => rv rfl (x_load1 rfl h.1 Try.underlying24 rfl (blk_one (L := [.slice A xs.length c]) (blk_below HBX1 h.2.1) 0 rfl)) rfl,
      fun _ _ h => rv rfl (x_len_slice rfl Try.underlying24 h.1) rfl,
      fun _ _ _ => rv rfl (x_move rfl rfl) rfl, trivial⟩) ?_
    clear s1 s8
    clear hN hD
    rintro a5 w5 hN hD ⟨s10, s11, s12, s1, hGR, -⟩
    replace HB := below_step HB hGR
    replace HBX1 := blk_below HBX1 hGR
    clear hGR
    show Code.wp _ _ _ _ _
    refine wp_block ?_
    refine wp_loopN (fun n_ q_ w_ => ∃ (i : Int), (q_.tmps.size = 23) ∧ (q_.defers = []) ∧ (sl q_ 10 = .slice A xs.length c) ∧ (sl q_ 11 = .int .i64 (xs.length : Int)) ∧ (sl q_ 12 = .int .i64 i) ∧ (Below w.heap.size w w_) ∧ (w_.heap[g1]? = some (.cells ([.slice A xs.length c]).toArray 41 (0, 0))) ∧ (0 ≤ i) ∧ (i ≤ 16) ∧ (∀ j : Int, 0 ≤ j → j < i → 0 ≤ gi xs j ∧ gi xs j ≤ 1000000000000) ∧ (n_ = (16 - i).toNat)) ((fun (i : Int) => (16 - i).toNat) 0) ?_ ?_
    · exact ⟨0, hN, hD, s10, s11, s12, HB, HBX1, (by omega), (by omega), (by intro j h0 h1; omega), rfl⟩
    clear s1 s10 s11 s12 HB HBX1 hN hD
    rintro n_6 a6 w6 ⟨i, hN, hD, s10, s11, s12, HB, HBX1, hi0, hi1, hi, hmeas⟩
    refine wp_seq ?_
    refine deedL [.eq 13 (.bool (decide (i < (xs.length : Int)))), .eq 10 (.slice A xs.length c), .eq 11 (.int .i64 (xs.length : Int)), .eq 12 (.int .i64 i), .w (Below w6.heap.size w6)] 23 [[3, 2]] [] [0, 1, 2, 3, 4] hM hN hD (by kernel_rfl) ⟨s10, s11, s12, ⟨Below.refl _ _, below_drew (Below.refl _ _)⟩, trivial⟩ ⟨fun _ _ hb h => below_step h hb, trivial⟩ (fun hgrow => ⟨fun _ _ h => rv rfl (x_lss rfl h.1 h.2.1) rfl, trivial⟩) ?_
    clear s10 s11 s12
    clear hN hD
    rintro a7 w7 hN hD ⟨s13, s10, s11, s12, hGR, -⟩
    replace HB := below_step HB hGR
    replace HBX1 := blk_below HBX1 hGR
    clear hGR
    show Code.wp _ _ _ _ _
    refine wp_seq ?_
    refine wp_cond (t := decide (i < (xs.length : Int))) s13 ?_
    rcases Bool.eq_false_or_eq_true (decide (i < (xs.length : Int))) with cd8 | cd8
    · rw [cd8]
      show Code.wp _ _ _ _ _
      have pd8 := of_decide_eq_true cd8
      refine wp_skip ?_
      show Code.wp _ _ _ _ _
      refine wp_seq ?_
      refine wp_block ?_
      refine wp_seq ?_
      refine deedL [.eq 14 (.pointer (some ((adr A).add (i.toNat * 1)))), .eq 15 (.int .i64 (gi xs i)), .eq 4 (.int .i64 (gi xs i)), .eq 10 (.slice A xs.length c), .eq 11 (.int .i64 (xs.length : Int)), .eq 12 (.int .i64 i), .w (Below w7.heap.size w7)] 23 [[3, 5], [0, 6], [1]] [] [2, 3, 4, 5, 6] hM hN hD (by kernel_rfl) ⟨s10, s11, s12, ⟨Below.refl _ _, below_drew (Below.refl _ _)⟩, trivial⟩ ⟨fun _ _ hb h => below_step h hb, trivial⟩ (fun hgrow => ⟨fun _ _ h => rv rfl (x_index_at rfl h.1 h.2.1 Try.underlying24 sz3 (by omega) (by omega) (RI.ad HR i (by omega) (by omega))) rfl,
        fun _ _ h => rv rfl (x_load1 rfl h.1 Try.underlying3 rfl (RI.at_ HR (below_step HB h.2.1) (by omega) (by omega))) rfl,
        fun _ _ h => rv rfl (x_assign rfl h.1) rfl, trivial⟩) ?_
      clear s10 s11 s12 s13
      clear hN hD
      rintro a9 w9 hN hD ⟨s4, s10, s11, s12, hGR, -⟩
      replace HB := below_step HB hGR
      replace HBX1 := blk_below HBX1 hGR
      clear hGR
      show Code.wp _ _ _ _ _
      refine wp_seq ?_
      refine deedL [.eq 16 (.int .i64 (gi xs i)), .eq 17 (.bool (decide (gi xs i < 0))), .eq 18 (.bool (decide (gi xs i < 0))), .gv (((decide (gi xs i < 0)) == false)) 19 (.int .i64 (gi xs i)), .gv (((decide (gi xs i < 0)) == false)) 20 (.bool (decide (1000000000000 < gi xs i))), .eq 21 (.bool ((decide (gi xs i < 0)) || (decide (1000000000000 < gi xs i)))), .eq 4 (.int .i64 (gi xs i)), .eq 10 (.slice A xs.length c), .eq 11 (.int .i64 (xs.length : Int)), .eq 12 (.int .i64 i), .w (Below w9.heap.size w9)] 23 [[6], [0], [1], [2, 6], [2, 3], [2, 4]] [] [5, 6, 7, 8, 9, 10] hM hN hD (by kernel_rfl) ⟨s4, s10, s11, s12, ⟨Below.refl _ _, below_drew (Below.refl _ _)⟩, trivial⟩ ⟨fun _ _ hb h => below_step h hb, trivial⟩ (fun hgrow => ⟨fun _ _ h => rv rfl (x_move rfl h.1) rfl,
        fun _ _ h => rv rfl (x_lss rfl h.1 rfl) rfl,
        fun _ _ h => rv rfl (x_move rfl h.1) rfl,
        fun _ _ h => rb rfl rfl h.1 (fun hgt => x_move rfl h.2.1) (fun _ z => z),
        fun _ _ h => rb rfl rfl h.1 (fun hgt => x_gtr rfl (h.2.1.1 hgt) rfl) (fun _ z => z),
        fun _ _ h => rv rfl (x_or rfl rfl h.1 (fun hc => h.2.1.1 (beq_iff_eq.2 hc))) rfl, trivial⟩) ?_
      clear s10 s11 s12 s4
      clear hN hD
      rintro a10 w10 hN hD ⟨s21, s4, s10, s11, s12, hGR, -⟩
      replace HB := below_step HB hGR
      replace HBX1 := blk_below HBX1 hGR
      clear hGR
      show Code.wp _ _ _ _ _
      refine wp_cond (t := (decide (gi xs i < 0)) || (decide (1000000000000 < gi xs i))) s21 ?_
      rcases Bool.eq_false_or_eq_true ((decide (gi xs i < 0)) || (decide (1000000000000 < gi xs i))) with cd11 | cd11
      · rw [cd11]
        show Code.wp _ _ _ _ _
        have hb := cd11
        refine wp_seq ?_
        refine deedL [.eq 2 (.bool false), .w (Below w10.heap.size w10)] 23 [[]] [] [0, 1] hM hN hD (by kernel_rfl) ⟨⟨Below.refl _ _, below_drew (Below.refl _ _)⟩, trivial⟩ ⟨fun _ _ hb h => below_step h hb, trivial⟩ (fun hgrow => ⟨fun _ _ _ => rv rfl (x_assign rfl rfl) rfl, trivial⟩) ?_
        clear s4 s10 s11 s12 s21
        clear hN hD
        rintro a12 w12 hN hD ⟨s2, hGR, -⟩
        replace HB := below_step HB hGR
        replace HBX1 := blk_below HBX1 hGR
        clear hGR
        show Code.wp _ _ _ _ _
        refine wp_ret (blk_ret (then_ret (then_ret (blk_ret (then_ret ?_)))))
        refine bodyPost_ret (results_single rfl (vtmp s2 .nil)) hD ?_
        exact ⟨by rw [vecOK_false (fun h => by have := h.2 i hi0 (by omega); simp at hb; omega)], HB⟩
      · rw [cd11]
        show Code.wp _ _ _ _ _
        have hb : 0 ≤ gi xs i ∧ gi xs i ≤ 1000000000000 := by have := cd11; simp at this; omega
        refine wp_skip ?_
        show Code.wp _ _ _ _ _
        refine deedL [.eq 22 (.int .i64 (i + 1)), .eq 12 (.int .i64 (i + 1)), .eq 10 (.slice A xs.length c), .eq 11 (.int .i64 (xs.length : Int)), .eq 12 (.int .i64 i), .w (Below w10.heap.size w10)] 23 [[4], [0]] [[], [4]] [1, 2, 3, 5] hM hN hD (by kernel_rfl) ⟨s10, s11, s12, ⟨Below.refl _ _, below_drew (Below.refl _ _)⟩, trivial⟩ ⟨fun _ _ hb h => below_step h hb, trivial⟩ (fun hgrow => ⟨fun _ _ h => rv rfl (x_add' rfl h.1 rfl (by omega)) rfl,
          fun _ _ h => rv rfl (x_move rfl h.1) rfl, trivial⟩) ?_
        clear s4 s10 s11 s12 s21
        clear hN hD
        rintro a13 w13 hN hD ⟨s12, s10, s11, hGR, -⟩
        replace HB := below_step HB hGR
        replace HBX1 := blk_below HBX1 hGR
        clear hGR
        show ∃ m, m < n_6 ∧ _
        exact ⟨_, (by omega), ⟨(i + 1), hN, hD, s10, s11, s12, HB, HBX1, (by omega), (by omega), (by intro j h0 h1; by_cases e : j = i; (subst e; exact hb); exact hi j h0 (by omega)), rfl⟩⟩
    · rw [cd8]
      show Code.wp _ _ _ _ _
      have pd8 := of_decide_eq_false cd8
      refine wp_exit (then_exit (then_exit (at_exit ?_)))
      show Code.wp _ _ _ _ _
      refine wp_seq ?_
      refine deedL [.eq 2 (.bool true), .w (Below w7.heap.size w7)] 23 [[]] [] [0, 1] hM hN hD (by kernel_rfl) ⟨⟨Below.refl _ _, below_drew (Below.refl _ _)⟩, trivial⟩ ⟨fun _ _ hb h => below_step h hb, trivial⟩ (fun hgrow => ⟨fun _ _ _ => rv rfl (x_assign rfl rfl) rfl, trivial⟩) ?_
      clear s10 s11 s12 s13
      clear hN hD
      rintro a14 w14 hN hD ⟨s2, hGR, -⟩
      replace HB := below_step HB hGR
      replace HBX1 := blk_below HBX1 hGR
      clear hGR
      show Code.wp _ _ _ _ _
      refine wp_ret ?_
      refine bodyPost_ret (results_single rfl (vtmp s2 .nil)) hD ?_
      exact ⟨by rw [vecOK_true ⟨by omega, fun j h0 h1 => hi j h0 (by omega)⟩], HB⟩
end Go.Proofs.Ytideafkiaipnoaa.Q
