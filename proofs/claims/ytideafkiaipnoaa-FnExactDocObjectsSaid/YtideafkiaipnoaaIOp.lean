/- Functions walked. -/
import Derived.Test.YtideafkiaipnoaaCheck
namespace Go.Proofs.Ytideafkiaipnoaa.Q
open Go Go.RowKit Go.Proofs.YtideafkiaipnoaaW.PrintWords Go.Proofs.YtideafkiaipnoaaW.PrintLast Go.Proofs.Ytideafkiaipnoaa.Deed
set_option maxRecDepth 100000
noncomputable def iOp (o : Op) : Bool :=
 if (((((!(stampOK o.time o.actor)) || (decide (o.seq < 1))) || (decide (1000000000000 < o.seq))) || (!(vecOK o.deps))) || ((gi o.deps o.actor) != (o.seq - 1))) = true then false else (if ((((((decide (o.obj < 1)) || (decide (100 < o.obj))) || (decide (o.num < -1000000000000))) || (decide (1000000000000 < o.num))) || (decide (o.undo < 0))) || (decide (o.seq ≤ o.undo))) = true then false else (if ((decide (200 < (o.key.size : Int))) || (decide (200 < (o.text.size : Int)))) = true then false else (if ((!(o.att == 0 && o.ata == 0)) && ((!(stampOK o.att o.ata)) || (!(less (o.att, o.ata) (o.time, o.actor))))) = true then false else (if (o.kind == 1) = true then ((o.num == 0) && (o.att == 0 && o.ata == 0)) else (if (o.kind == 2) = true then ((!((!(o.key.toList == (⟨#[]⟩ : ByteArray).toList)) || (!(o.text.toList == (⟨#[]⟩ : ByteArray).toList)))) && (charOK o.num)) else (if (o.kind == 3) = true then (((!((!(o.key.toList == (⟨#[]⟩ : ByteArray).toList)) || (!(o.text.toList == (⟨#[]⟩ : ByteArray).toList)))) && (o.num == 0)) && (!(o.att == 0 && o.ata == 0))) else (if (o.kind == 4) = true then ((!((!(o.key.toList == (⟨#[]⟩ : ByteArray).toList)) || (!(o.text.toList == (⟨#[]⟩ : ByteArray).toList)))) && (o.att == 0 && o.ata == 0)) else false)))))))
set_option maxHeartbeats 2000000 in
theorem iOp_calls (o : Op) (w : World) (A : Option Addr) (c : Nat) (HR : RI w A o.deps) : Calls Try.prog 86 #[.agg (opc o A c).toArray] w fun e w' => e = .returned (.bool (iOp o)) ∧ Below w.heap.size w w' := by
  refine calls_of_wp Try.func86 rfl ?_
  refine enter_ (N := 145) rfl ?_
  rintro a0 hN hD ⟨s0, -⟩
  have HB : Below w.heap.size w w := Below.refl _ _
  refine wp_seq ?_
  refine deedL [.s1 1 (NewB w.heap.size (opc o A c) 67), .eq 2 (.bool false), .eq 0 (.agg (opc o A c).toArray), .w (Below w.heap.size w)] 145 [[3, 2], []] [] [0, 2, 3] hM hN hD (by kernel_rfl) ⟨s0, ⟨Below.refl _ _, below_drew (Below.refl _ _)⟩, trivial⟩ ⟨fun _ _ _ hb h => h.grow hb, fun _ _ hb h => below_step h hb, trivial⟩ (fun hgrow => ⟨fun _ _ h => rbox hgrow rfl (x_box rfl h.2.1) h.1.size (fun _ _ z => z),
    fun _ _ _ => rv rfl (x_assign rfl rfl) rfl, trivial⟩) ?_
  clear s0
  clear hN hD
  rintro a1 w1 hN hD ⟨⟨g1, s1, lg1, HBX1⟩, s0, hGR, -⟩
  replace HB := below_step HB hGR
  clear hGR
  show Code.wp _ _ _ _ _
  refine wp_seq ?_
  refine wp_seq ?_
  refine deedL (.eq 5 (.agg (opc o A c).toArray) :: .eq 6 (.agg #[Value.int .i64 o.time, Value.int .i64 o.actor]) :: .eq 7 (.bool (stampOK o.time o.actor)) :: .eq 8 (.bool (!(stampOK o.time o.actor))) :: .eq 9 (.bool (!(stampOK o.time o.actor))) :: .gv (((!(stampOK o.time o.actor)) == false)) 10 (.pointer (some ⟨g1, 1, none⟩)) :: .gv (((!(stampOK o.time o.actor)) == false)) 11 (.int .i64 o.seq) :: .gv (((!(stampOK o.time o.actor)) == false)) 12 (.bool (decide (o.seq < 1))) :: .eq 13 (.bool ((!(stampOK o.time o.actor)) || (decide (o.seq < 1)))) :: .eq 14 (.bool ((!(stampOK o.time o.actor)) || (decide (o.seq < 1)))) :: .gv ((((!(stampOK o.time o.actor)) || (decide (o.seq < 1))) == false)) 15 (.pointer (some ⟨g1, 1, none⟩)) :: .gv ((((!(stampOK o.time o.actor)) || (decide (o.seq < 1))) == false)) 16 (.int .i64 o.seq) :: .gv ((((!(stampOK o.time o.actor)) || (decide (o.seq < 1))) == false)) 17 (.bool (decide (1000000000000 < o.seq))) :: .eq 18 (.bool (((!(stampOK o.time o.actor)) || (decide (o.seq < 1))) || (decide (1000000000000 < o.seq)))) :: .eq 19 (.bool (((!(stampOK o.time o.actor)) || (decide (o.seq < 1))) || (decide (1000000000000 < o.seq)))) :: .gv (((((!(stampOK o.time o.actor)) || (decide (o.seq < 1))) || (decide (1000000000000 < o.seq))) == false)) 20 (.pointer (some ⟨g1, 3, none⟩)) :: .gv (((((!(stampOK o.time o.actor)) || (decide (o.seq < 1))) || (decide (1000000000000 < o.seq))) == false)) 21 (.agg #[Value.slice A o.deps.length c]) :: .gv (((((!(stampOK o.time o.actor)) || (decide (o.seq < 1))) || (decide (1000000000000 < o.seq))) == false)) 22 (.bool (vecOK o.deps)) :: .gv (((((!(stampOK o.time o.actor)) || (decide (o.seq < 1))) || (decide (1000000000000 < o.seq))) == false)) 23 (.bool (!(vecOK o.deps))) :: .eq 24 (.bool ((((!(stampOK o.time o.actor)) || (decide (o.seq < 1))) || (decide (1000000000000 < o.seq))) || (!(vecOK o.deps)))) :: .eq 25 (.bool ((((!(stampOK o.time o.actor)) || (decide (o.seq < 1))) || (decide (1000000000000 < o.seq))) || (!(vecOK o.deps)))) :: .gv ((((((!(stampOK o.time o.actor)) || (decide (o.seq < 1))) || (decide (1000000000000 < o.seq))) || (!(vecOK o.deps))) == false)) 26 (.pointer (some ⟨g1, 3, none⟩)) :: .gv ((((((!(stampOK o.time o.actor)) || (decide (o.seq < 1))) || (decide (1000000000000 < o.seq))) || (!(vecOK o.deps))) == false)) 27 (.pointer (some ⟨g1, 3, none⟩)) :: .gv ((((((!(stampOK o.time o.actor)) || (decide (o.seq < 1))) || (decide (1000000000000 < o.seq))) || (!(vecOK o.deps))) == false)) 28 (.slice A o.deps.length c) :: .gv ((((((!(stampOK o.time o.actor)) || (decide (o.seq < 1))) || (decide (1000000000000 < o.seq))) || (!(vecOK o.deps))) == false)) 29 (.pointer (some ⟨g1, 0, none⟩)) :: .gv ((((((!(stampOK o.time o.actor)) || (decide (o.seq < 1))) || (decide (1000000000000 < o.seq))) || (!(vecOK o.deps))) == false)) 30 (.int .i64 o.actor) :: .gv ((((((!(stampOK o.time o.actor)) || (decide (o.seq < 1))) || (decide (1000000000000 < o.seq))) || (!(vecOK o.deps))) == false)) 31 (.pointer (some ((adr A).add (o.actor.toNat * 1)))) :: .gv ((((((!(stampOK o.time o.actor)) || (decide (o.seq < 1))) || (decide (1000000000000 < o.seq))) || (!(vecOK o.deps))) == false)) 32 (.int .i64 (gi o.deps o.actor)) :: .gv ((((((!(stampOK o.time o.actor)) || (decide (o.seq < 1))) || (decide (1000000000000 < o.seq))) || (!(vecOK o.deps))) == false)) 33 (.pointer (some ⟨g1, 1, none⟩)) :: .gv ((((((!(stampOK o.time o.actor)) || (decide (o.seq < 1))) || (decide (1000000000000 < o.seq))) || (!(vecOK o.deps))) == false)) 34 (.int .i64 o.seq) :: .gv ((((((!(stampOK o.time o.actor)) || (decide (o.seq < 1))) || (decide (1000000000000 < o.seq))) || (!(vecOK o.deps))) == false)) 35 (.int .i64 (o.seq - 1)) :: .gv ((((((!(stampOK o.time o.actor)) || (decide (o.seq < 1))) || (decide (1000000000000 < o.seq))) || (!(vecOK o.deps))) == false)) 36 (.bool ((gi o.deps o.actor) != (o.seq - 1))) :: .eq 37 (.bool (((((!(stampOK o.time o.actor)) || (decide (o.seq < 1))) || (decide (1000000000000 < o.seq))) || (!(vecOK o.deps))) || ((gi o.deps o.actor) != (o.seq - 1)))) :: .eq 1 (.pointer (some ⟨g1, 0, none⟩)) :: .w (Below w1.heap.size w1) :: []) 145 ([33, 34] :: [0] :: [1] :: [2] :: [3] :: [4, 33] :: [4, 5, 34] :: [4, 6] :: [4, 7] :: [8] :: [9, 33] :: [9, 10, 34] :: [9, 11] :: [9, 12] :: [13] :: [14, 33] :: [14, 15, 34] :: [14, 16, 34] :: [14, 17] :: [14, 18] :: [19] :: [20, 33] :: [20, 21] :: [20, 22, 34] :: [20, 33] :: [20, 24, 34] :: [20, 23, 25] :: [20, 26, 34] :: [20, 33] :: [20, 28, 34] :: [20, 29] :: [20, 27, 30] :: [20, 31] :: []) [] [32, 33, 34] hM hN hD (by kernel_rfl) ⟨s1, ⟨Below.refl _ _, below_drew (Below.refl _ _)⟩, trivial⟩ ⟨fun _ _ hb h => below_step h hb, trivial⟩ (fun hgrow => ⟨fun _ _ h => rv rfl (x_loadS rfl h.1 Try.underlying67 (opc o A c) sz67 (blk_list (L := opc o A c) (blk_below HBX1 h.2.1) 0 rfl)) rfl,
    fun _ _ h => rc hgrow rfl Try.func95 (by kernel_rfl) rfl rfl (args1 h.1) (stamp_calls o A c _) (fun _ _ h => ⟨_, h.1, h.2, rfl⟩),
    fun _ _ h => rc hgrow rfl Try.func111 (by kernel_rfl) rfl rfl (args1 h.1) (iStampOK_calls o.time o.actor _) (fun _ _ h => ⟨_, h.1, h.2, rfl⟩),
    fun _ _ h => rv rfl (x_not rfl h.1) rfl,
    fun _ _ h => rv rfl (x_move rfl h.1) rfl,
    fun _ _ h => rb rfl rfl h.1 (fun hgt => x_field rfl h.2.1 Try.underlying67 rfl sz3 (by decide) rfl) (fun _ z => z),
    fun _ _ h => rb rfl rfl h.1 (fun hgt => x_load1 rfl (h.2.1.1 hgt) Try.underlying3 rfl (blk_one (L := opc o A c) (blk_below HBX1 h.2.2.1) 1 rfl)) (fun _ z => z),
    fun _ _ h => rb rfl rfl h.1 (fun hgt => x_lss rfl (h.2.1.1 hgt) rfl) (fun _ z => z),
    fun _ _ h => rv rfl (x_or rfl rfl h.1 (fun hc => h.2.1.1 (beq_iff_eq.2 hc))) rfl,
    fun _ _ h => rv rfl (x_move rfl h.1) rfl,
    fun _ _ h => rb rfl rfl h.1 (fun hgt => x_field rfl h.2.1 Try.underlying67 rfl sz3 (by decide) rfl) (fun _ z => z),
    fun _ _ h => rb rfl rfl h.1 (fun hgt => x_load1 rfl (h.2.1.1 hgt) Try.underlying3 rfl (blk_one (L := opc o A c) (blk_below HBX1 h.2.2.1) 1 rfl)) (fun _ z => z),
    fun _ _ h => rb rfl rfl h.1 (fun hgt => x_gtr rfl (h.2.1.1 hgt) rfl) (fun _ z => z),
    fun _ _ h => rv rfl (x_or rfl rfl h.1 (fun hc => h.2.1.1 (beq_iff_eq.2 hc))) rfl,
    fun _ _ h => rv rfl (x_move rfl h.1) rfl,
    fun _ _ h => rb rfl rfl h.1 (fun hgt => x_field rfl h.2.1 Try.underlying67 rfl sz41 (by decide) rfl) (fun _ z => z),
    fun _ _ h => rb rfl rfl h.1 (fun hgt => x_loadS rfl (h.2.1.1 hgt) Try.underlying41 [.slice A o.deps.length c] sz41 (blk_list (L := opc o A c) (blk_below HBX1 h.2.2.1) 3 rfl)) (fun _ z => z),
    fun _ _ h => rcb hgrow rfl rfl h.1 Try.func60 (by kernel_rfl) rfl rfl (fun hgt => args1 (h.2.1.1 hgt)) (fun hgt => iVecOK_calls A o.deps c _ (RI.below HR (below_step HB h.2.2.1))) (fun _ _ _ h => h) (fun _ _ z => z),
    fun _ _ h => rb rfl rfl h.1 (fun hgt => x_not rfl (h.2.1.1 hgt)) (fun _ z => z),
    fun _ _ h => rv rfl (x_or rfl rfl h.1 (fun hc => h.2.1.1 (beq_iff_eq.2 hc))) rfl,
    fun _ _ h => rv rfl (x_move rfl h.1) rfl,
    fun _ _ h => rb rfl rfl h.1 (fun hgt => x_field rfl h.2.1 Try.underlying67 rfl sz41 (by decide) rfl) (fun _ z => z),
    fun _ _ h => rb rfl rfl h.1 (fun hgt => x_field rfl (h.2.1.1 hgt) Try.underlying41 rfl sz24 (by decide) rfl) (fun _ z => z),
    fun _ _ h => rb rfl rfl h.1 (fun hgt => x_load1 rfl (h.2.1.1 hgt) Try.underlying24 rfl (blk_one (L := opc o A c) (blk_below HBX1 h.2.2.1) 3 rfl)) (fun _ z => z),
    fun _ _ h => rb rfl rfl h.1 (fun hgt => x_field rfl h.2.1 Try.underlying67 rfl sz3 (by decide) rfl) (fun _ z => z),
    fun _ _ h => rb rfl rfl h.1 (fun hgt => x_load1 rfl (h.2.1.1 hgt) Try.underlying3 rfl (blk_one (L := opc o A c) (blk_below HBX1 h.2.2.1) 0 rfl)) (fun _ z => z),
    fun _ _ h => rb rfl rfl h.1 (fun hgt => x_index_at rfl (h.2.1.1 hgt) (h.2.2.1.1 hgt) Try.underlying24 sz3 (by simp [stampOK, actorOK] at hgt; omega) (by simp [stampOK, actorOK, vecOK_iff, VecOK] at hgt; omega) (RI.ad HR o.actor (by simp [stampOK, actorOK] at hgt; omega) (by simp [stampOK, actorOK, vecOK_iff, VecOK] at hgt; omega))) (fun _ z => z),
    fun _ _ h => rb rfl rfl h.1 (fun hgt => x_load1 rfl (h.2.1.1 hgt) Try.underlying3 rfl (RI.at_ HR (below_step HB h.2.2.1) (by simp [stampOK, actorOK] at hgt; omega) (by simp [stampOK, actorOK, vecOK_iff, VecOK] at hgt; omega))) (fun _ z => z),
    fun _ _ h => rb rfl rfl h.1 (fun hgt => x_field rfl h.2.1 Try.underlying67 rfl sz3 (by decide) rfl) (fun _ z => z),
    fun _ _ h => rb rfl rfl h.1 (fun hgt => x_load1 rfl (h.2.1.1 hgt) Try.underlying3 rfl (blk_one (L := opc o A c) (blk_below HBX1 h.2.2.1) 1 rfl)) (fun _ z => z),
    fun _ _ h => rb rfl rfl h.1 (fun hgt => x_sub' rfl (h.2.1.1 hgt) rfl (by simp at hgt; omega)) (fun _ z => z),
    fun _ _ h => rb rfl rfl h.1 (fun hgt => x_neq rfl (h.2.1.1 hgt) (h.2.2.1.1 hgt)) (fun _ z => z),
    fun _ _ h => rv rfl (x_or rfl rfl h.1 (fun hc => h.2.1.1 (beq_iff_eq.2 hc))) rfl, trivial⟩) ?_
  clear s0 s1
  clear hN hD
  rintro a2 w2 hN hD ⟨s37, s1, hGR, -⟩
  replace HB := below_step HB hGR
  replace HBX1 := blk_below HBX1 hGR
  clear hGR
  show Code.wp _ _ _ _ _
  refine wp_cond (t := ((((!(stampOK o.time o.actor)) || (decide (o.seq < 1))) || (decide (1000000000000 < o.seq))) || (!(vecOK o.deps))) || ((gi o.deps o.actor) != (o.seq - 1))) s37 ?_
  rcases Bool.eq_false_or_eq_true (((((!(stampOK o.time o.actor)) || (decide (o.seq < 1))) || (decide (1000000000000 < o.seq))) || (!(vecOK o.deps))) || ((gi o.deps o.actor) != (o.seq - 1))) with cd3 | cd3
  · rw [cd3]
    show Code.wp _ _ _ _ _
    refine wp_seq ?_
    refine deedL [.eq 2 (.bool false), .w (Below w2.heap.size w2)] 145 [[]] [] [0, 1] hM hN hD (by kernel_rfl) ⟨⟨Below.refl _ _, below_drew (Below.refl _ _)⟩, trivial⟩ ⟨fun _ _ hb h => below_step h hb, trivial⟩ (fun hgrow => ⟨fun _ _ _ => rv rfl (x_assign rfl rfl) rfl, trivial⟩) ?_
    clear s1 s37
    clear hN hD
    rintro a4 w4 hN hD ⟨s2, hGR, -⟩
    replace HB := below_step HB hGR
    replace HBX1 := blk_below HBX1 hGR
    clear hGR
    show Code.wp _ _ _ _ _
    refine wp_ret (then_ret ?_)
    refine bodyPost_ret (results_single rfl (vtmp s2 .nil)) hD ?_
    exact ⟨by simp only [iOp, cd3, if_true, if_false, Bool.false_eq_true], HB⟩
  · rw [cd3]
    show Code.wp _ _ _ _ _
    refine wp_skip ?_
    show Code.wp _ _ _ _ _
    refine wp_seq ?_
    refine wp_seq ?_
    refine deedL (.eq 38 (.pointer (some ⟨g1, 5, none⟩)) :: .eq 39 (.int .i64 o.obj) :: .eq 40 (.bool (decide (o.obj < 1))) :: .eq 41 (.bool (decide (o.obj < 1))) :: .gv (((decide (o.obj < 1)) == false)) 42 (.pointer (some ⟨g1, 5, none⟩)) :: .gv (((decide (o.obj < 1)) == false)) 43 (.int .i64 o.obj) :: .gv (((decide (o.obj < 1)) == false)) 44 (.bool (decide (100 < o.obj))) :: .eq 45 (.bool ((decide (o.obj < 1)) || (decide (100 < o.obj)))) :: .eq 46 (.bool ((decide (o.obj < 1)) || (decide (100 < o.obj)))) :: .gv ((((decide (o.obj < 1)) || (decide (100 < o.obj))) == false)) 47 (.pointer (some ⟨g1, 6, none⟩)) :: .gv ((((decide (o.obj < 1)) || (decide (100 < o.obj))) == false)) 48 (.int .i64 o.num) :: .gv ((((decide (o.obj < 1)) || (decide (100 < o.obj))) == false)) 49 (.bool (decide (o.num < -1000000000000))) :: .eq 50 (.bool (((decide (o.obj < 1)) || (decide (100 < o.obj))) || (decide (o.num < -1000000000000)))) :: .eq 51 (.bool (((decide (o.obj < 1)) || (decide (100 < o.obj))) || (decide (o.num < -1000000000000)))) :: .gv (((((decide (o.obj < 1)) || (decide (100 < o.obj))) || (decide (o.num < -1000000000000))) == false)) 52 (.pointer (some ⟨g1, 6, none⟩)) :: .gv (((((decide (o.obj < 1)) || (decide (100 < o.obj))) || (decide (o.num < -1000000000000))) == false)) 53 (.int .i64 o.num) :: .gv (((((decide (o.obj < 1)) || (decide (100 < o.obj))) || (decide (o.num < -1000000000000))) == false)) 54 (.bool (decide (1000000000000 < o.num))) :: .eq 55 (.bool ((((decide (o.obj < 1)) || (decide (100 < o.obj))) || (decide (o.num < -1000000000000))) || (decide (1000000000000 < o.num)))) :: .eq 56 (.bool ((((decide (o.obj < 1)) || (decide (100 < o.obj))) || (decide (o.num < -1000000000000))) || (decide (1000000000000 < o.num)))) :: .gv ((((((decide (o.obj < 1)) || (decide (100 < o.obj))) || (decide (o.num < -1000000000000))) || (decide (1000000000000 < o.num))) == false)) 57 (.pointer (some ⟨g1, 7, none⟩)) :: .gv ((((((decide (o.obj < 1)) || (decide (100 < o.obj))) || (decide (o.num < -1000000000000))) || (decide (1000000000000 < o.num))) == false)) 58 (.int .i64 o.undo) :: .gv ((((((decide (o.obj < 1)) || (decide (100 < o.obj))) || (decide (o.num < -1000000000000))) || (decide (1000000000000 < o.num))) == false)) 59 (.bool (decide (o.undo < 0))) :: .eq 60 (.bool (((((decide (o.obj < 1)) || (decide (100 < o.obj))) || (decide (o.num < -1000000000000))) || (decide (1000000000000 < o.num))) || (decide (o.undo < 0)))) :: .eq 61 (.bool (((((decide (o.obj < 1)) || (decide (100 < o.obj))) || (decide (o.num < -1000000000000))) || (decide (1000000000000 < o.num))) || (decide (o.undo < 0)))) :: .gv (((((((decide (o.obj < 1)) || (decide (100 < o.obj))) || (decide (o.num < -1000000000000))) || (decide (1000000000000 < o.num))) || (decide (o.undo < 0))) == false)) 62 (.pointer (some ⟨g1, 7, none⟩)) :: .gv (((((((decide (o.obj < 1)) || (decide (100 < o.obj))) || (decide (o.num < -1000000000000))) || (decide (1000000000000 < o.num))) || (decide (o.undo < 0))) == false)) 63 (.int .i64 o.undo) :: .gv (((((((decide (o.obj < 1)) || (decide (100 < o.obj))) || (decide (o.num < -1000000000000))) || (decide (1000000000000 < o.num))) || (decide (o.undo < 0))) == false)) 64 (.pointer (some ⟨g1, 1, none⟩)) :: .gv (((((((decide (o.obj < 1)) || (decide (100 < o.obj))) || (decide (o.num < -1000000000000))) || (decide (1000000000000 < o.num))) || (decide (o.undo < 0))) == false)) 65 (.int .i64 o.seq) :: .gv (((((((decide (o.obj < 1)) || (decide (100 < o.obj))) || (decide (o.num < -1000000000000))) || (decide (1000000000000 < o.num))) || (decide (o.undo < 0))) == false)) 66 (.bool (decide (o.seq ≤ o.undo))) :: .eq 67 (.bool ((((((decide (o.obj < 1)) || (decide (100 < o.obj))) || (decide (o.num < -1000000000000))) || (decide (1000000000000 < o.num))) || (decide (o.undo < 0))) || (decide (o.seq ≤ o.undo)))) :: .eq 1 (.pointer (some ⟨g1, 0, none⟩)) :: .w (Below w2.heap.size w2) :: []) 145 ([30] :: [0, 31] :: [1] :: [2] :: [3, 30] :: [3, 4, 31] :: [3, 5] :: [3, 6] :: [7] :: [8, 30] :: [8, 9, 31] :: [8, 10] :: [8, 11] :: [12] :: [13, 30] :: [13, 14, 31] :: [13, 15] :: [13, 16] :: [17] :: [18, 30] :: [18, 19, 31] :: [18, 20] :: [18, 21] :: [22] :: [23, 30] :: [23, 24, 31] :: [23, 30] :: [23, 26, 31] :: [23, 25, 27] :: [23, 28] :: []) [] [29, 30, 31] hM hN hD (by kernel_rfl) ⟨s1, ⟨Below.refl _ _, below_drew (Below.refl _ _)⟩, trivial⟩ ⟨fun _ _ hb h => below_step h hb, trivial⟩ (fun hgrow => ⟨fun _ _ h => rv rfl (x_field rfl h.1 Try.underlying67 rfl sz3 (by decide) rfl) rfl,
      fun _ _ h => rv rfl (x_load1 rfl h.1 Try.underlying3 rfl (blk_one (L := opc o A c) (blk_below HBX1 h.2.1) 5 rfl)) rfl,
      fun _ _ h => rv rfl (x_lss rfl h.1 rfl) rfl,
      fun _ _ h => rv rfl (x_move rfl h.1) rfl,
      fun _ _ h => rb rfl rfl h.1 (fun hgt => x_field rfl h.2.1 Try.underlying67 rfl sz3 (by decide) rfl) (fun _ z => z),
      fun _ _ h => rb rfl rfl h.1 (fun hgt => x_load1 rfl (h.2.1.1 hgt) Try.underlying3 rfl (blk_one (L := opc o A c) (blk_below HBX1 h.2.2.1) 5 rfl)) (fun _ z => z),
      fun _ _ h => rb rfl rfl h.1 (fun hgt => x_gtr rfl (h.2.1.1 hgt) rfl) (fun _ z => z),
      fun _ _ h => rv rfl (x_or rfl rfl h.1 (fun hc => h.2.1.1 (beq_iff_eq.2 hc))) rfl,
      fun _ _ h => rv rfl (x_move rfl h.1) rfl,
      fun _ _ h => rb rfl rfl h.1 (fun hgt => x_field rfl h.2.1 Try.underlying67 rfl sz3 (by decide) rfl) (fun _ z => z),
      fun _ _ h => rb rfl rfl h.1 (fun hgt => x_load1 rfl (h.2.1.1 hgt) Try.underlying3 rfl (blk_one (L := opc o A c) (blk_below HBX1 h.2.2.1) 6 rfl)) (fun _ z => z),
      fun _ _ h => rb rfl rfl h.1 (fun hgt => x_lss rfl (h.2.1.1 hgt) rfl) (fun _ z => z),
      fun _ _ h => rv rfl (x_or rfl rfl h.1 (fun hc => h.2.1.1 (beq_iff_eq.2 hc))) rfl,
      fun _ _ h => rv rfl (x_move rfl h.1) rfl,
      fun _ _ h => rb rfl rfl h.1 (fun hgt => x_field rfl h.2.1 Try.underlying67 rfl sz3 (by decide) rfl) (fun _ z => z),
      fun _ _ h => rb rfl rfl h.1 (fun hgt => x_load1 rfl (h.2.1.1 hgt) Try.underlying3 rfl (blk_one (L := opc o A c) (blk_below HBX1 h.2.2.1) 6 rfl)) (fun _ z => z),
      fun _ _ h => rb rfl rfl h.1 (fun hgt => x_gtr rfl (h.2.1.1 hgt) rfl) (fun _ z => z),
      fun _ _ h => rv rfl (x_or rfl rfl h.1 (fun hc => h.2.1.1 (beq_iff_eq.2 hc))) rfl,
      fun _ _ h => rv rfl (x_move rfl h.1) rfl,
      fun _ _ h => rb rfl rfl h.1 (fun hgt => x_field rfl h.2.1 Try.underlying67 rfl sz3 (by decide) rfl) (fun _ z => z),
      fun _ _ h => rb rfl rfl h.1 (fun hgt => x_load1 rfl (h.2.1.1 hgt) Try.underlying3 rfl (blk_one (L := opc o A c) (blk_below HBX1 h.2.2.1) 7 rfl)) (fun _ z => z),
      fun _ _ h => rb rfl rfl h.1 (fun hgt => x_lss rfl (h.2.1.1 hgt) rfl) (fun _ z => z),
      fun _ _ h => rv rfl (x_or rfl rfl h.1 (fun hc => h.2.1.1 (beq_iff_eq.2 hc))) rfl,
      fun _ _ h => rv rfl (x_move rfl h.1) rfl,
      fun _ _ h => rb rfl rfl h.1 (fun hgt => x_field rfl h.2.1 Try.underlying67 rfl sz3 (by decide) rfl) (fun _ z => z),
      fun _ _ h => rb rfl rfl h.1 (fun hgt => x_load1 rfl (h.2.1.1 hgt) Try.underlying3 rfl (blk_one (L := opc o A c) (blk_below HBX1 h.2.2.1) 7 rfl)) (fun _ z => z),
      fun _ _ h => rb rfl rfl h.1 (fun hgt => x_field rfl h.2.1 Try.underlying67 rfl sz3 (by decide) rfl) (fun _ z => z),
      fun _ _ h => rb rfl rfl h.1 (fun hgt => x_load1 rfl (h.2.1.1 hgt) Try.underlying3 rfl (blk_one (L := opc o A c) (blk_below HBX1 h.2.2.1) 1 rfl)) (fun _ z => z),
      fun _ _ h => rb rfl rfl h.1 (fun hgt => x_geq rfl (h.2.1.1 hgt) (h.2.2.1.1 hgt)) (fun _ z => z),
      fun _ _ h => rv rfl (x_or rfl rfl h.1 (fun hc => h.2.1.1 (beq_iff_eq.2 hc))) rfl, trivial⟩) ?_
    clear s1 s37
    clear hN hD
    rintro a5 w5 hN hD ⟨s67, s1, hGR, -⟩
    replace HB := below_step HB hGR
    replace HBX1 := blk_below HBX1 hGR
    clear hGR
    show Code.wp _ _ _ _ _
    refine wp_cond (t := (((((decide (o.obj < 1)) || (decide (100 < o.obj))) || (decide (o.num < -1000000000000))) || (decide (1000000000000 < o.num))) || (decide (o.undo < 0))) || (decide (o.seq ≤ o.undo))) s67 ?_
    rcases Bool.eq_false_or_eq_true ((((((decide (o.obj < 1)) || (decide (100 < o.obj))) || (decide (o.num < -1000000000000))) || (decide (1000000000000 < o.num))) || (decide (o.undo < 0))) || (decide (o.seq ≤ o.undo))) with cd6 | cd6
    · rw [cd6]
      show Code.wp _ _ _ _ _
      refine wp_seq ?_
      refine deedL [.eq 2 (.bool false), .w (Below w5.heap.size w5)] 145 [[]] [] [0, 1] hM hN hD (by kernel_rfl) ⟨⟨Below.refl _ _, below_drew (Below.refl _ _)⟩, trivial⟩ ⟨fun _ _ hb h => below_step h hb, trivial⟩ (fun hgrow => ⟨fun _ _ _ => rv rfl (x_assign rfl rfl) rfl, trivial⟩) ?_
      clear s1 s67
      clear hN hD
      rintro a7 w7 hN hD ⟨s2, hGR, -⟩
      replace HB := below_step HB hGR
      replace HBX1 := blk_below HBX1 hGR
      clear hGR
      show Code.wp _ _ _ _ _
      refine wp_ret (then_ret ?_)
      refine bodyPost_ret (results_single rfl (vtmp s2 .nil)) hD ?_
      exact ⟨by simp only [iOp, cd3, cd6, if_true, if_false, Bool.false_eq_true], HB⟩
    · rw [cd6]
      show Code.wp _ _ _ _ _
      refine wp_skip ?_
      show Code.wp _ _ _ _ _
      refine wp_seq ?_
      refine wp_seq ?_
      refine deedL [.eq 68 (.pointer (some ⟨g1, 10, none⟩)), .eq 69 (.string o.key), .eq 70 (.int .i64 (o.key.size : Int)), .eq 71 (.bool (decide (200 < (o.key.size : Int)))), .eq 72 (.bool (decide (200 < (o.key.size : Int)))), .gv (((decide (200 < (o.key.size : Int))) == false)) 73 (.pointer (some ⟨g1, 11, none⟩)), .gv (((decide (200 < (o.key.size : Int))) == false)) 74 (.string o.text), .gv (((decide (200 < (o.key.size : Int))) == false)) 75 (.int .i64 (o.text.size : Int)), .gv (((decide (200 < (o.key.size : Int))) == false)) 76 (.bool (decide (200 < (o.text.size : Int)))), .eq 77 (.bool ((decide (200 < (o.key.size : Int))) || (decide (200 < (o.text.size : Int))))), .eq 1 (.pointer (some ⟨g1, 0, none⟩)), .w (Below w5.heap.size w5)] 145 [[10], [0, 11], [1], [2], [3], [4, 10], [4, 5, 11], [4, 6], [4, 7], [4, 8]] [] [9, 10, 11] hM hN hD (by kernel_rfl) ⟨s1, ⟨Below.refl _ _, below_drew (Below.refl _ _)⟩, trivial⟩ ⟨fun _ _ hb h => below_step h hb, trivial⟩ (fun hgrow => ⟨fun _ _ h => rv rfl (x_field rfl h.1 Try.underlying67 rfl sz9 (by decide) rfl) rfl,
        fun _ _ h => rv rfl (x_load1 rfl h.1 Try.underlying9 rfl (blk_one (L := opc o A c) (blk_below HBX1 h.2.1) 10 rfl)) rfl,
        fun _ _ h => rv rfl (x_len_string rfl Try.underlying9 h.1) rfl,
        fun _ _ h => rv rfl (x_gtr rfl h.1 rfl) rfl,
        fun _ _ h => rv rfl (x_move rfl h.1) rfl,
        fun _ _ h => rb rfl rfl h.1 (fun hgt => x_field rfl h.2.1 Try.underlying67 rfl sz9 (by decide) rfl) (fun _ z => z),
        fun _ _ h => rb rfl rfl h.1 (fun hgt => x_load1 rfl (h.2.1.1 hgt) Try.underlying9 rfl (blk_one (L := opc o A c) (blk_below HBX1 h.2.2.1) 11 rfl)) (fun _ z => z),
        fun _ _ h => rb rfl rfl h.1 (fun hgt => x_len_string rfl Try.underlying9 (h.2.1.1 hgt)) (fun _ z => z),
        fun _ _ h => rb rfl rfl h.1 (fun hgt => x_gtr rfl (h.2.1.1 hgt) rfl) (fun _ z => z),
        fun _ _ h => rv rfl (x_or rfl rfl h.1 (fun hc => h.2.1.1 (beq_iff_eq.2 hc))) rfl, trivial⟩) ?_
      clear s1 s67
      clear hN hD
      rintro a8 w8 hN hD ⟨s77, s1, hGR, -⟩
      replace HB := below_step HB hGR
      replace HBX1 := blk_below HBX1 hGR
      clear hGR
      show Code.wp _ _ _ _ _
      refine wp_cond (t := (decide (200 < (o.key.size : Int))) || (decide (200 < (o.text.size : Int)))) s77 ?_
      rcases Bool.eq_false_or_eq_true ((decide (200 < (o.key.size : Int))) || (decide (200 < (o.text.size : Int)))) with cd9 | cd9
      · rw [cd9]
        show Code.wp _ _ _ _ _
        refine wp_seq ?_
        refine deedL [.eq 2 (.bool false), .w (Below w8.heap.size w8)] 145 [[]] [] [0, 1] hM hN hD (by kernel_rfl) ⟨⟨Below.refl _ _, below_drew (Below.refl _ _)⟩, trivial⟩ ⟨fun _ _ hb h => below_step h hb, trivial⟩ (fun hgrow => ⟨fun _ _ _ => rv rfl (x_assign rfl rfl) rfl, trivial⟩) ?_
        clear s1 s77
        clear hN hD
        rintro a10 w10 hN hD ⟨s2, hGR, -⟩
        replace HB := below_step HB hGR
        replace HBX1 := blk_below HBX1 hGR
        clear hGR
        show Code.wp _ _ _ _ _
        refine wp_ret (then_ret ?_)
        refine bodyPost_ret (results_single rfl (vtmp s2 .nil)) hD ?_
        exact ⟨by simp only [iOp, cd3, cd6, cd9, if_true, if_false, Bool.false_eq_true], HB⟩
      · rw [cd9]
        show Code.wp _ _ _ _ _
        refine wp_skip ?_
        show Code.wp _ _ _ _ _
        refine wp_seq ?_
        refine deedL [.eq 78 (.pointer (some ⟨g1, 8, none⟩)), .eq 79 (.agg #[Value.int .i64 o.att, Value.int .i64 o.ata]), .eq 80 (.agg #[Value.int .i64 0, Value.int .i64 0]), .eq 81 (.bool (o.att == 0 && o.ata == 0)), .eq 3 (.bool (o.att == 0 && o.ata == 0)), .eq 1 (.pointer (some ⟨g1, 0, none⟩)), .w (Below w8.heap.size w8)] 145 [[5], [0, 6], [], [1, 2], [3]] [] [4, 5, 6] hM hN hD (by kernel_rfl) ⟨s1, ⟨Below.refl _ _, below_drew (Below.refl _ _)⟩, trivial⟩ ⟨fun _ _ hb h => below_step h hb, trivial⟩ (fun hgrow => ⟨fun _ _ h => rv rfl (x_field rfl h.1 Try.underlying67 rfl sz65 (by decide) rfl) rfl,
          fun _ _ h => rv rfl (x_loadS rfl h.1 Try.underlying65 [.int .i64 o.att, .int .i64 o.ata] sz65 (blk_list (L := opc o A c) (blk_below HBX1 h.2.1) 8 rfl)) rfl,
          fun _ _ _ => rv rfl (x_build rfl Try.underlying65 zr65 bp65 rfl (by kernel_rfl) (ps := []) (vs := []) (L := [.int .i64 0, .int .i64 0])) rfl,
          fun _ _ h => rv rfl (x_eq65 rfl h.1 h.2.1) rfl,
          fun _ _ h => rv rfl (x_assign rfl h.1) rfl, trivial⟩) ?_
        clear s1 s77
        clear hN hD
        rintro a11 w11 hN hD ⟨s3, s1, hGR, -⟩
        replace HB := below_step HB hGR
        replace HBX1 := blk_below HBX1 hGR
        clear hGR
        show Code.wp _ _ _ _ _
        refine wp_seq ?_
        refine wp_seq ?_
        refine deedL (.eq 82 (.bool (o.att == 0 && o.ata == 0)) :: .eq 83 (.bool (!(o.att == 0 && o.ata == 0))) :: .eq 84 (.bool (!(o.att == 0 && o.ata == 0))) :: .gv (((!(o.att == 0 && o.ata == 0)) == true)) 85 (.pointer (some ⟨g1, 8, none⟩)) :: .gv (((!(o.att == 0 && o.ata == 0)) == true)) 86 (.agg #[Value.int .i64 o.att, Value.int .i64 o.ata]) :: .gv (((!(o.att == 0 && o.ata == 0)) == true)) 87 (.bool (stampOK o.att o.ata)) :: .gv (((!(o.att == 0 && o.ata == 0)) == true)) 88 (.bool (!(stampOK o.att o.ata))) :: .gv (((!(o.att == 0 && o.ata == 0)) == true)) 89 (.bool (!(stampOK o.att o.ata))) :: .gv (((!(o.att == 0 && o.ata == 0)) == true) && ((!(stampOK o.att o.ata)) == false)) 90 (.pointer (some ⟨g1, 8, none⟩)) :: .gv (((!(o.att == 0 && o.ata == 0)) == true) && ((!(stampOK o.att o.ata)) == false)) 91 (.agg #[Value.int .i64 o.att, Value.int .i64 o.ata]) :: .gv (((!(o.att == 0 && o.ata == 0)) == true) && ((!(stampOK o.att o.ata)) == false)) 92 (.agg (opc o A c).toArray) :: .gv (((!(o.att == 0 && o.ata == 0)) == true) && ((!(stampOK o.att o.ata)) == false)) 93 (.agg #[Value.int .i64 o.time, Value.int .i64 o.actor]) :: .gv (((!(o.att == 0 && o.ata == 0)) == true) && ((!(stampOK o.att o.ata)) == false)) 94 (.bool (less (o.att, o.ata) (o.time, o.actor))) :: .gv (((!(o.att == 0 && o.ata == 0)) == true) && ((!(stampOK o.att o.ata)) == false)) 95 (.bool (!(less (o.att, o.ata) (o.time, o.actor)))) :: .gv (((!(o.att == 0 && o.ata == 0)) == true)) 96 (.bool ((!(stampOK o.att o.ata)) || (!(less (o.att, o.ata) (o.time, o.actor))))) :: .eq 97 (.bool ((!(o.att == 0 && o.ata == 0)) && ((!(stampOK o.att o.ata)) || (!(less (o.att, o.ata) (o.time, o.actor)))))) :: .eq 1 (.pointer (some ⟨g1, 0, none⟩)) :: .eq 3 (.bool (o.att == 0 && o.ata == 0)) :: .w (Below w11.heap.size w11) :: []) 145 ([17] :: [0] :: [1] :: [2, 16] :: [2, 3, 18] :: [2, 4] :: [2, 5] :: [2, 6] :: [7, 16] :: [7, 8, 18] :: [7, 16, 18] :: [7, 10] :: [7, 9, 11] :: [7, 12] :: [2, 7, 13] :: [2, 14] :: []) [] [15, 16, 17, 18] hM hN hD (by kernel_rfl) ⟨s1, s3, ⟨Below.refl _ _, below_drew (Below.refl _ _)⟩, trivial⟩ ⟨fun _ _ hb h => below_step h hb, trivial⟩ (fun hgrow => ⟨fun _ _ h => rv rfl (x_move rfl h.1) rfl,
          fun _ _ h => rv rfl (x_not rfl h.1) rfl,
          fun _ _ h => rv rfl (x_move rfl h.1) rfl,
          fun _ _ h => rb rfl rfl h.1 (fun hgt => x_field rfl h.2.1 Try.underlying67 rfl sz65 (by decide) rfl) (fun _ z => z),
          fun _ _ h => rb rfl rfl h.1 (fun hgt => x_loadS rfl (h.2.1.1 hgt) Try.underlying65 [.int .i64 o.att, .int .i64 o.ata] sz65 (blk_list (L := opc o A c) (blk_below HBX1 h.2.2.1) 8 rfl)) (fun _ z => z),
          fun _ _ h => rcb hgrow rfl rfl h.1 Try.func111 (by kernel_rfl) rfl rfl (fun hgt => args1 (h.2.1.1 hgt)) (fun hgt => iStampOK_calls o.att o.ata _) (fun _ _ _ h => h) (fun _ _ z => z),
          fun _ _ h => rb rfl rfl h.1 (fun hgt => x_not rfl (h.2.1.1 hgt)) (fun _ z => z),
          fun _ _ h => rb rfl rfl h.1 (fun hgt => x_move rfl (h.2.1.1 hgt)) (fun _ z => z),
          fun _ _ h => rg rfl rfl h.1 (fun hgt => x_field rfl h.2.1 Try.underlying67 rfl sz65 (by decide) rfl) (fun _ z => z),
          fun _ _ h => rg rfl rfl h.1 (fun hgt => x_loadS rfl (h.2.1.1 hgt) Try.underlying65 [.int .i64 o.att, .int .i64 o.ata] sz65 (blk_list (L := opc o A c) (blk_below HBX1 h.2.2.1) 8 rfl)) (fun _ z => z),
          fun _ _ h => rg rfl rfl h.1 (fun hgt => x_loadS rfl h.2.1 Try.underlying67 (opc o A c) sz67 (blk_list (L := opc o A c) (blk_below HBX1 h.2.2.1) 0 rfl)) (fun _ z => z),
          fun _ _ h => rcg hgrow rfl rfl h.1 Try.func95 (by kernel_rfl) rfl rfl (fun hgt => args1 (h.2.1.1 hgt)) (fun hgt => stamp_calls o A c _) (fun _ _ _ h => h) (fun _ _ z => z),
          fun _ _ h => rcg hgrow rfl rfl h.1 Try.func94 (by kernel_rfl) rfl rfl (fun hgt => args2 (h.2.1.1 hgt) (h.2.2.1.1 hgt)) (fun hgt => less_calls (o.att, o.ata) (o.time, o.actor) _) (fun _ _ _ h => h) (fun _ _ z => z),
          fun _ _ h => rg rfl rfl h.1 (fun hgt => x_not rfl (h.2.1.1 hgt)) (fun _ z => z),
          fun _ _ h => rb rfl rfl h.1 (fun hgt => x_or rfl rfl (h.2.1.1 hgt) (fun hc => h.2.2.1.1 (Bool.and_eq_true _ _ ▸ ⟨hgt, beq_iff_eq.2 hc⟩))) (fun _ z => z),
          fun _ _ h => rv rfl (x_and rfl rfl h.1 (fun hc => h.2.1.1 (beq_iff_eq.2 hc))) rfl, trivial⟩) ?_
        clear s1 s3
        clear hN hD
        rintro a12 w12 hN hD ⟨s97, s1, s3, hGR, -⟩
        replace HB := below_step HB hGR
        replace HBX1 := blk_below HBX1 hGR
        clear hGR
        show Code.wp _ _ _ _ _
        refine wp_cond (t := (!(o.att == 0 && o.ata == 0)) && ((!(stampOK o.att o.ata)) || (!(less (o.att, o.ata) (o.time, o.actor))))) s97 ?_
        rcases Bool.eq_false_or_eq_true ((!(o.att == 0 && o.ata == 0)) && ((!(stampOK o.att o.ata)) || (!(less (o.att, o.ata) (o.time, o.actor))))) with cd13 | cd13
        · rw [cd13]
          show Code.wp _ _ _ _ _
          refine wp_seq ?_
          refine deedL [.eq 2 (.bool false), .w (Below w12.heap.size w12)] 145 [[]] [] [0, 1] hM hN hD (by kernel_rfl) ⟨⟨Below.refl _ _, below_drew (Below.refl _ _)⟩, trivial⟩ ⟨fun _ _ hb h => below_step h hb, trivial⟩ (fun hgrow => ⟨fun _ _ _ => rv rfl (x_assign rfl rfl) rfl, trivial⟩) ?_
          clear s1 s3 s97
          clear hN hD
          rintro a14 w14 hN hD ⟨s2, hGR, -⟩
          replace HB := below_step HB hGR
          replace HBX1 := blk_below HBX1 hGR
          clear hGR
          show Code.wp _ _ _ _ _
          refine wp_ret (then_ret ?_)
          refine bodyPost_ret (results_single rfl (vtmp s2 .nil)) hD ?_
          exact ⟨by simp only [iOp, cd3, cd6, cd9, cd13, if_true, if_false, Bool.false_eq_true], HB⟩
        · rw [cd13]
          show Code.wp _ _ _ _ _
          refine wp_skip ?_
          show Code.wp _ _ _ _ _
          refine wp_seq ?_
          refine deedL [.eq 98 (.pointer (some ⟨g1, 10, none⟩)), .eq 99 (.string o.key), .eq 100 (.bool (!(o.key.toList == (⟨#[]⟩ : ByteArray).toList))), .eq 101 (.bool (!(o.key.toList == (⟨#[]⟩ : ByteArray).toList))), .gv (((!(o.key.toList == (⟨#[]⟩ : ByteArray).toList)) == false)) 102 (.pointer (some ⟨g1, 11, none⟩)), .gv (((!(o.key.toList == (⟨#[]⟩ : ByteArray).toList)) == false)) 103 (.string o.text), .gv (((!(o.key.toList == (⟨#[]⟩ : ByteArray).toList)) == false)) 104 (.bool (!(o.text.toList == (⟨#[]⟩ : ByteArray).toList))), .eq 105 (.bool ((!(o.key.toList == (⟨#[]⟩ : ByteArray).toList)) || (!(o.text.toList == (⟨#[]⟩ : ByteArray).toList)))), .eq 4 (.bool ((!(o.key.toList == (⟨#[]⟩ : ByteArray).toList)) || (!(o.text.toList == (⟨#[]⟩ : ByteArray).toList)))), .eq 1 (.pointer (some ⟨g1, 0, none⟩)), .eq 3 (.bool (o.att == 0 && o.ata == 0)), .w (Below w12.heap.size w12)] 145 [[9], [0, 11], [1], [2], [3, 9], [3, 4, 11], [3, 5], [3, 6], [7]] [] [8, 9, 10, 11] hM hN hD (by kernel_rfl) ⟨s1, s3, ⟨Below.refl _ _, below_drew (Below.refl _ _)⟩, trivial⟩ ⟨fun _ _ hb h => below_step h hb, trivial⟩ (fun hgrow => ⟨fun _ _ h => rv rfl (x_field rfl h.1 Try.underlying67 rfl sz9 (by decide) rfl) rfl,
            fun _ _ h => rv rfl (x_load1 rfl h.1 Try.underlying9 rfl (blk_one (L := opc o A c) (blk_below HBX1 h.2.1) 10 rfl)) rfl,
            fun _ _ h => rv rfl (x_sneq rfl h.1 rfl) rfl,
            fun _ _ h => rv rfl (x_move rfl h.1) rfl,
            fun _ _ h => rb rfl rfl h.1 (fun hgt => x_field rfl h.2.1 Try.underlying67 rfl sz9 (by decide) rfl) (fun _ z => z),
            fun _ _ h => rb rfl rfl h.1 (fun hgt => x_load1 rfl (h.2.1.1 hgt) Try.underlying9 rfl (blk_one (L := opc o A c) (blk_below HBX1 h.2.2.1) 11 rfl)) (fun _ z => z),
            fun _ _ h => rb rfl rfl h.1 (fun hgt => x_sneq rfl (h.2.1.1 hgt) rfl) (fun _ z => z),
            fun _ _ h => rv rfl (x_or rfl rfl h.1 (fun hc => h.2.1.1 (beq_iff_eq.2 hc))) rfl,
            fun _ _ h => rv rfl (x_assign rfl h.1) rfl, trivial⟩) ?_
          clear s1 s3 s97
          clear hN hD
          rintro a15 w15 hN hD ⟨s4, s1, s3, hGR, -⟩
          replace HB := below_step HB hGR
          replace HBX1 := blk_below HBX1 hGR
          clear hGR
          show Code.wp _ _ _ _ _
          refine wp_seq ?_
          refine wp_seq ?_
          refine deedL [.eq 106 (.pointer (some ⟨g1, 4, none⟩)), .eq 107 (.int .i64 o.kind), .eq 1 (.pointer (some ⟨g1, 0, none⟩)), .eq 3 (.bool (o.att == 0 && o.ata == 0)), .eq 4 (.bool ((!(o.key.toList == (⟨#[]⟩ : ByteArray).toList)) || (!(o.text.toList == (⟨#[]⟩ : ByteArray).toList)))), .w (Below w15.heap.size w15)] 145 [[2], [0, 5]] [] [1, 2, 3, 4, 5] hM hN hD (by kernel_rfl) ⟨s1, s3, s4, ⟨Below.refl _ _, below_drew (Below.refl _ _)⟩, trivial⟩ ⟨fun _ _ hb h => below_step h hb, trivial⟩ (fun hgrow => ⟨fun _ _ h => rv rfl (x_field rfl h.1 Try.underlying67 rfl sz3 (by decide) rfl) rfl,
            fun _ _ h => rv rfl (x_load1 rfl h.1 Try.underlying3 rfl (blk_one (L := opc o A c) (blk_below HBX1 h.2.1) 4 rfl)) rfl, trivial⟩) ?_
          clear s1 s3 s4
          clear hN hD
          rintro a16 w16 hN hD ⟨s107, s1, s3, s4, hGR, -⟩
          replace HB := below_step HB hGR
          replace HBX1 := blk_below HBX1 hGR
          clear hGR
          show Code.wp _ _ _ _ _
          refine wp_block ?_
          refine wp_seq ?_
          refine deedL [.eq 109 (.bool (o.kind == 1)), .eq 108 (.bool (o.kind == 1)), .eq 1 (.pointer (some ⟨g1, 0, none⟩)), .eq 3 (.bool (o.att == 0 && o.ata == 0)), .eq 4 (.bool ((!(o.key.toList == (⟨#[]⟩ : ByteArray).toList)) || (!(o.text.toList == (⟨#[]⟩ : ByteArray).toList)))), .eq 107 (.int .i64 o.kind), .w (Below w16.heap.size w16)] 145 [[5], [0]] [] [1, 2, 3, 4, 5, 6] hM hN hD (by kernel_rfl) ⟨s1, s3, s4, s107, ⟨Below.refl _ _, below_drew (Below.refl _ _)⟩, trivial⟩ ⟨fun _ _ hb h => below_step h hb, trivial⟩ (fun hgrow => ⟨fun _ _ h => rv rfl (x_eql rfl h.1 rfl) rfl,
            fun _ _ h => rv rfl (x_assign rfl h.1) rfl, trivial⟩) ?_
          clear s1 s3 s4 s107
          clear hN hD
          rintro a17 w17 hN hD ⟨s108, s1, s3, s4, s107, hGR, -⟩
          replace HB := below_step HB hGR
          replace HBX1 := blk_below HBX1 hGR
          clear hGR
          show Code.wp _ _ _ _ _
          refine wp_cond (t := o.kind == 1) s108 ?_
          rcases Bool.eq_false_or_eq_true (o.kind == 1) with cd18 | cd18
          · rw [cd18]
            show Code.wp _ _ _ _ _
            have pd18 := eq_of_beq cd18
            refine wp_seq ?_
            refine deedL [.eq 110 (.pointer (some ⟨g1, 6, none⟩)), .eq 111 (.int .i64 o.num), .eq 112 (.bool (o.num == 0)), .eq 113 (.bool (o.num == 0)), .gv (((o.num == 0) == true)) 114 (.bool (o.att == 0 && o.ata == 0)), .eq 115 (.bool ((o.num == 0) && (o.att == 0 && o.ata == 0))), .eq 2 (.bool ((o.num == 0) && (o.att == 0 && o.ata == 0))), .eq 1 (.pointer (some ⟨g1, 0, none⟩)), .eq 3 (.bool (o.att == 0 && o.ata == 0)), .w (Below w17.heap.size w17)] 145 [[7], [0, 9], [1], [2], [3, 8], [3, 4], [5]] [] [6, 7, 8, 9] hM hN hD (by kernel_rfl) ⟨s1, s3, ⟨Below.refl _ _, below_drew (Below.refl _ _)⟩, trivial⟩ ⟨fun _ _ hb h => below_step h hb, trivial⟩ (fun hgrow => ⟨fun _ _ h => rv rfl (x_field rfl h.1 Try.underlying67 rfl sz3 (by decide) rfl) rfl,
              fun _ _ h => rv rfl (x_load1 rfl h.1 Try.underlying3 rfl (blk_one (L := opc o A c) (blk_below HBX1 h.2.1) 6 rfl)) rfl,
              fun _ _ h => rv rfl (x_eql rfl h.1 rfl) rfl,
              fun _ _ h => rv rfl (x_move rfl h.1) rfl,
              fun _ _ h => rb rfl rfl h.1 (fun hgt => x_move rfl h.2.1) (fun _ z => z),
              fun _ _ h => rv rfl (x_and rfl rfl h.1 (fun hc => h.2.1.1 (beq_iff_eq.2 hc))) rfl,
              fun _ _ h => rv rfl (x_assign rfl h.1) rfl, trivial⟩) ?_
            clear s1 s3 s4 s107 s108
            clear hN hD
            rintro a19 w19 hN hD ⟨s2, s1, s3, hGR, -⟩
            replace HB := below_step HB hGR
            replace HBX1 := blk_below HBX1 hGR
            clear hGR
            show Code.wp _ _ _ _ _
            refine wp_ret (blk_ret (then_ret ?_))
            refine bodyPost_ret (results_single rfl (vtmp s2 .nil)) hD ?_
            exact ⟨by simp only [iOp, cd3, cd6, cd9, cd13, cd18, if_true, if_false, Bool.false_eq_true], HB⟩
          · rw [cd18]
            show Code.wp _ _ _ _ _
            have pd18 := ne_of_beq_false cd18
            refine wp_seq ?_
            refine deedL [.eq 117 (.bool (o.kind == 2)), .eq 116 (.bool (o.kind == 2)), .eq 1 (.pointer (some ⟨g1, 0, none⟩)), .eq 3 (.bool (o.att == 0 && o.ata == 0)), .eq 4 (.bool ((!(o.key.toList == (⟨#[]⟩ : ByteArray).toList)) || (!(o.text.toList == (⟨#[]⟩ : ByteArray).toList)))), .eq 107 (.int .i64 o.kind), .w (Below w17.heap.size w17)] 145 [[5], [0]] [] [1, 2, 3, 4, 5, 6] hM hN hD (by kernel_rfl) ⟨s1, s3, s4, s107, ⟨Below.refl _ _, below_drew (Below.refl _ _)⟩, trivial⟩ ⟨fun _ _ hb h => below_step h hb, trivial⟩ (fun hgrow => ⟨fun _ _ h => rv rfl (x_eql rfl h.1 rfl) rfl,
              fun _ _ h => rv rfl (x_assign rfl h.1) rfl, trivial⟩) ?_
            clear s1 s3 s4 s107 s108
            clear hN hD
            rintro a20 w20 hN hD ⟨s116, s1, s3, s4, s107, hGR, -⟩
            replace HB := below_step HB hGR
            replace HBX1 := blk_below HBX1 hGR
            clear hGR
            show Code.wp _ _ _ _ _
            refine wp_cond (t := o.kind == 2) s116 ?_
            rcases Bool.eq_false_or_eq_true (o.kind == 2) with cd21 | cd21
            · rw [cd21]
              show Code.wp _ _ _ _ _
              have pd21 := eq_of_beq cd21
              refine wp_seq ?_
              refine deedL [.eq 118 (.bool ((!(o.key.toList == (⟨#[]⟩ : ByteArray).toList)) || (!(o.text.toList == (⟨#[]⟩ : ByteArray).toList)))), .eq 119 (.bool (!((!(o.key.toList == (⟨#[]⟩ : ByteArray).toList)) || (!(o.text.toList == (⟨#[]⟩ : ByteArray).toList))))), .eq 120 (.bool (!((!(o.key.toList == (⟨#[]⟩ : ByteArray).toList)) || (!(o.text.toList == (⟨#[]⟩ : ByteArray).toList))))), .gv (((!((!(o.key.toList == (⟨#[]⟩ : ByteArray).toList)) || (!(o.text.toList == (⟨#[]⟩ : ByteArray).toList)))) == true)) 121 (.pointer (some ⟨g1, 6, none⟩)), .gv (((!((!(o.key.toList == (⟨#[]⟩ : ByteArray).toList)) || (!(o.text.toList == (⟨#[]⟩ : ByteArray).toList)))) == true)) 122 (.int .i64 o.num), .gv (((!((!(o.key.toList == (⟨#[]⟩ : ByteArray).toList)) || (!(o.text.toList == (⟨#[]⟩ : ByteArray).toList)))) == true)) 123 (.bool (charOK o.num)), .eq 124 (.bool ((!((!(o.key.toList == (⟨#[]⟩ : ByteArray).toList)) || (!(o.text.toList == (⟨#[]⟩ : ByteArray).toList)))) && (charOK o.num))), .eq 2 (.bool ((!((!(o.key.toList == (⟨#[]⟩ : ByteArray).toList)) || (!(o.text.toList == (⟨#[]⟩ : ByteArray).toList)))) && (charOK o.num))), .eq 1 (.pointer (some ⟨g1, 0, none⟩)), .eq 4 (.bool ((!(o.key.toList == (⟨#[]⟩ : ByteArray).toList)) || (!(o.text.toList == (⟨#[]⟩ : ByteArray).toList)))), .w (Below w20.heap.size w20)] 145 [[9], [0], [1], [2, 8], [2, 3, 10], [2, 4], [2, 5], [6]] [] [7, 8, 9, 10] hM hN hD (by kernel_rfl) ⟨s1, s4, ⟨Below.refl _ _, below_drew (Below.refl _ _)⟩, trivial⟩ ⟨fun _ _ hb h => below_step h hb, trivial⟩ (fun hgrow => ⟨fun _ _ h => rv rfl (x_move rfl h.1) rfl,
                fun _ _ h => rv rfl (x_not rfl h.1) rfl,
                fun _ _ h => rv rfl (x_move rfl h.1) rfl,
                fun _ _ h => rb rfl rfl h.1 (fun hgt => x_field rfl h.2.1 Try.underlying67 rfl sz3 (by decide) rfl) (fun _ z => z),
                fun _ _ h => rb rfl rfl h.1 (fun hgt => x_load1 rfl (h.2.1.1 hgt) Try.underlying3 rfl (blk_one (L := opc o A c) (blk_below HBX1 h.2.2.1) 6 rfl)) (fun _ z => z),
                fun _ _ h => rcb hgrow rfl rfl h.1 Try.func112 (by kernel_rfl) rfl rfl (fun hgt => args1 (h.2.1.1 hgt)) (fun hgt => iChar_calls o.num _) (fun _ _ _ h => h) (fun _ _ z => z),
                fun _ _ h => rv rfl (x_and rfl rfl h.1 (fun hc => h.2.1.1 (beq_iff_eq.2 hc))) rfl,
                fun _ _ h => rv rfl (x_assign rfl h.1) rfl, trivial⟩) ?_
              clear s1 s3 s4 s107 s116
              clear hN hD
              rintro a22 w22 hN hD ⟨s2, s1, s4, hGR, -⟩
              replace HB := below_step HB hGR
              replace HBX1 := blk_below HBX1 hGR
              clear hGR
              show Code.wp _ _ _ _ _
              refine wp_ret (blk_ret (then_ret ?_))
              refine bodyPost_ret (results_single rfl (vtmp s2 .nil)) hD ?_
              exact ⟨by simp only [iOp, cd3, cd6, cd9, cd13, cd18, cd21, if_true, if_false, Bool.false_eq_true], HB⟩
            · rw [cd21]
              show Code.wp _ _ _ _ _
              have pd21 := ne_of_beq_false cd21
              refine wp_seq ?_
              refine deedL [.eq 126 (.bool (o.kind == 3)), .eq 125 (.bool (o.kind == 3)), .eq 1 (.pointer (some ⟨g1, 0, none⟩)), .eq 3 (.bool (o.att == 0 && o.ata == 0)), .eq 4 (.bool ((!(o.key.toList == (⟨#[]⟩ : ByteArray).toList)) || (!(o.text.toList == (⟨#[]⟩ : ByteArray).toList)))), .eq 107 (.int .i64 o.kind), .w (Below w20.heap.size w20)] 145 [[5], [0]] [] [1, 2, 3, 4, 5, 6] hM hN hD (by kernel_rfl) ⟨s1, s3, s4, s107, ⟨Below.refl _ _, below_drew (Below.refl _ _)⟩, trivial⟩ ⟨fun _ _ hb h => below_step h hb, trivial⟩ (fun hgrow => ⟨fun _ _ h => rv rfl (x_eql rfl h.1 rfl) rfl,
                fun _ _ h => rv rfl (x_assign rfl h.1) rfl, trivial⟩) ?_
              clear s1 s3 s4 s107 s116
              clear hN hD
              rintro a23 w23 hN hD ⟨s125, s1, s3, s4, s107, hGR, -⟩
              replace HB := below_step HB hGR
              replace HBX1 := blk_below HBX1 hGR
              clear hGR
              show Code.wp _ _ _ _ _
              refine wp_cond (t := o.kind == 3) s125 ?_
              rcases Bool.eq_false_or_eq_true (o.kind == 3) with cd24 | cd24
              · rw [cd24]
                show Code.wp _ _ _ _ _
                have pd24 := eq_of_beq cd24
                refine wp_seq ?_
                refine deedL (.eq 127 (.bool ((!(o.key.toList == (⟨#[]⟩ : ByteArray).toList)) || (!(o.text.toList == (⟨#[]⟩ : ByteArray).toList)))) :: .eq 128 (.bool (!((!(o.key.toList == (⟨#[]⟩ : ByteArray).toList)) || (!(o.text.toList == (⟨#[]⟩ : ByteArray).toList))))) :: .eq 129 (.bool (!((!(o.key.toList == (⟨#[]⟩ : ByteArray).toList)) || (!(o.text.toList == (⟨#[]⟩ : ByteArray).toList))))) :: .gv (((!((!(o.key.toList == (⟨#[]⟩ : ByteArray).toList)) || (!(o.text.toList == (⟨#[]⟩ : ByteArray).toList)))) == true)) 130 (.pointer (some ⟨g1, 6, none⟩)) :: .gv (((!((!(o.key.toList == (⟨#[]⟩ : ByteArray).toList)) || (!(o.text.toList == (⟨#[]⟩ : ByteArray).toList)))) == true)) 131 (.int .i64 o.num) :: .gv (((!((!(o.key.toList == (⟨#[]⟩ : ByteArray).toList)) || (!(o.text.toList == (⟨#[]⟩ : ByteArray).toList)))) == true)) 132 (.bool (o.num == 0)) :: .eq 133 (.bool ((!((!(o.key.toList == (⟨#[]⟩ : ByteArray).toList)) || (!(o.text.toList == (⟨#[]⟩ : ByteArray).toList)))) && (o.num == 0))) :: .eq 134 (.bool ((!((!(o.key.toList == (⟨#[]⟩ : ByteArray).toList)) || (!(o.text.toList == (⟨#[]⟩ : ByteArray).toList)))) && (o.num == 0))) :: .gv ((((!((!(o.key.toList == (⟨#[]⟩ : ByteArray).toList)) || (!(o.text.toList == (⟨#[]⟩ : ByteArray).toList)))) && (o.num == 0)) == true)) 135 (.bool (o.att == 0 && o.ata == 0)) :: .gv ((((!((!(o.key.toList == (⟨#[]⟩ : ByteArray).toList)) || (!(o.text.toList == (⟨#[]⟩ : ByteArray).toList)))) && (o.num == 0)) == true)) 136 (.bool (!(o.att == 0 && o.ata == 0))) :: .eq 137 (.bool (((!((!(o.key.toList == (⟨#[]⟩ : ByteArray).toList)) || (!(o.text.toList == (⟨#[]⟩ : ByteArray).toList)))) && (o.num == 0)) && (!(o.att == 0 && o.ata == 0)))) :: .eq 2 (.bool (((!((!(o.key.toList == (⟨#[]⟩ : ByteArray).toList)) || (!(o.text.toList == (⟨#[]⟩ : ByteArray).toList)))) && (o.num == 0)) && (!(o.att == 0 && o.ata == 0)))) :: .eq 1 (.pointer (some ⟨g1, 0, none⟩)) :: .eq 3 (.bool (o.att == 0 && o.ata == 0)) :: .eq 4 (.bool ((!(o.key.toList == (⟨#[]⟩ : ByteArray).toList)) || (!(o.text.toList == (⟨#[]⟩ : ByteArray).toList)))) :: .w (Below w23.heap.size w23) :: []) 145 [[14], [0], [1], [2, 12], [2, 3, 15], [2, 4], [2, 5], [6], [7, 13], [7, 8], [7, 9], [10]] [] [11, 12, 13, 14, 15] hM hN hD (by kernel_rfl) ⟨s1, s3, s4, ⟨Below.refl _ _, below_drew (Below.refl _ _)⟩, trivial⟩ ⟨fun _ _ hb h => below_step h hb, trivial⟩ (fun hgrow => ⟨fun _ _ h => rv rfl (x_move rfl h.1) rfl,
                  fun _ _ h => rv rfl (x_not rfl h.1) rfl,
                  fun _ _ h => rv rfl (x_move rfl h.1) rfl,
                  fun _ _ h => rb rfl rfl h.1 (fun hgt => x_field rfl h.2.1 Try.underlying67 rfl sz3 (by decide) rfl) (fun _ z => z),
                  fun _ _ h => rb rfl rfl h.1 (fun hgt => x_load1 rfl (h.2.1.1 hgt) Try.underlying3 rfl (blk_one (L := opc o A c) (blk_below HBX1 h.2.2.1) 6 rfl)) (fun _ z => z),
                  fun _ _ h => rb rfl rfl h.1 (fun hgt => x_eql rfl (h.2.1.1 hgt) rfl) (fun _ z => z),
                  fun _ _ h => rv rfl (x_and rfl rfl h.1 (fun hc => h.2.1.1 (beq_iff_eq.2 hc))) rfl,
                  fun _ _ h => rv rfl (x_move rfl h.1) rfl,
                  fun _ _ h => rb rfl rfl h.1 (fun hgt => x_move rfl h.2.1) (fun _ z => z),
                  fun _ _ h => rb rfl rfl h.1 (fun hgt => x_not rfl (h.2.1.1 hgt)) (fun _ z => z),
                  fun _ _ h => rv rfl (x_and rfl rfl h.1 (fun hc => h.2.1.1 (beq_iff_eq.2 hc))) rfl,
                  fun _ _ h => rv rfl (x_assign rfl h.1) rfl, trivial⟩) ?_
                clear s1 s3 s4 s107 s125
                clear hN hD
                rintro a25 w25 hN hD ⟨s2, s1, s3, s4, hGR, -⟩
                replace HB := below_step HB hGR
                replace HBX1 := blk_below HBX1 hGR
                clear hGR
                show Code.wp _ _ _ _ _
                refine wp_ret (blk_ret (then_ret ?_))
                refine bodyPost_ret (results_single rfl (vtmp s2 .nil)) hD ?_
                exact ⟨by simp only [iOp, cd3, cd6, cd9, cd13, cd18, cd21, cd24, if_true, if_false, Bool.false_eq_true], HB⟩
              · rw [cd24]
                show Code.wp _ _ _ _ _
                have pd24 := ne_of_beq_false cd24
                refine wp_seq ?_
                refine deedL [.eq 139 (.bool (o.kind == 4)), .eq 138 (.bool (o.kind == 4)), .eq 3 (.bool (o.att == 0 && o.ata == 0)), .eq 4 (.bool ((!(o.key.toList == (⟨#[]⟩ : ByteArray).toList)) || (!(o.text.toList == (⟨#[]⟩ : ByteArray).toList)))), .eq 107 (.int .i64 o.kind), .w (Below w23.heap.size w23)] 145 [[4], [0]] [] [1, 2, 3, 4, 5] hM hN hD (by kernel_rfl) ⟨s3, s4, s107, ⟨Below.refl _ _, below_drew (Below.refl _ _)⟩, trivial⟩ ⟨fun _ _ hb h => below_step h hb, trivial⟩ (fun hgrow => ⟨fun _ _ h => rv rfl (x_eql rfl h.1 rfl) rfl,
                  fun _ _ h => rv rfl (x_assign rfl h.1) rfl, trivial⟩) ?_
                clear s1 s3 s4 s107 s125
                clear hN hD
                rintro a26 w26 hN hD ⟨s138, s3, s4, s107, hGR, -⟩
                replace HB := below_step HB hGR
                replace HBX1 := blk_below HBX1 hGR
                clear hGR
                show Code.wp _ _ _ _ _
                refine wp_cond (t := o.kind == 4) s138 ?_
                rcases Bool.eq_false_or_eq_true (o.kind == 4) with cd27 | cd27
                · rw [cd27]
                  show Code.wp _ _ _ _ _
                  have pd27 := eq_of_beq cd27
                  refine wp_seq ?_
                  refine deedL [.eq 140 (.bool ((!(o.key.toList == (⟨#[]⟩ : ByteArray).toList)) || (!(o.text.toList == (⟨#[]⟩ : ByteArray).toList)))), .eq 141 (.bool (!((!(o.key.toList == (⟨#[]⟩ : ByteArray).toList)) || (!(o.text.toList == (⟨#[]⟩ : ByteArray).toList))))), .eq 142 (.bool (!((!(o.key.toList == (⟨#[]⟩ : ByteArray).toList)) || (!(o.text.toList == (⟨#[]⟩ : ByteArray).toList))))), .gv (((!((!(o.key.toList == (⟨#[]⟩ : ByteArray).toList)) || (!(o.text.toList == (⟨#[]⟩ : ByteArray).toList)))) == true)) 143 (.bool (o.att == 0 && o.ata == 0)), .eq 144 (.bool ((!((!(o.key.toList == (⟨#[]⟩ : ByteArray).toList)) || (!(o.text.toList == (⟨#[]⟩ : ByteArray).toList)))) && (o.att == 0 && o.ata == 0))), .eq 2 (.bool ((!((!(o.key.toList == (⟨#[]⟩ : ByteArray).toList)) || (!(o.text.toList == (⟨#[]⟩ : ByteArray).toList)))) && (o.att == 0 && o.ata == 0))), .eq 3 (.bool (o.att == 0 && o.ata == 0)), .eq 4 (.bool ((!(o.key.toList == (⟨#[]⟩ : ByteArray).toList)) || (!(o.text.toList == (⟨#[]⟩ : ByteArray).toList)))), .w (Below w26.heap.size w26)] 145 [[7], [0], [1], [2, 6], [2, 3], [4]] [] [5, 6, 7, 8] hM hN hD (by kernel_rfl) ⟨s3, s4, ⟨Below.refl _ _, below_drew (Below.refl _ _)⟩, trivial⟩ ⟨fun _ _ hb h => below_step h hb, trivial⟩ (fun hgrow => ⟨fun _ _ h => rv rfl (x_move rfl h.1) rfl,
                    fun _ _ h => rv rfl (x_not rfl h.1) rfl,
                    fun _ _ h => rv rfl (x_move rfl h.1) rfl,
                    fun _ _ h => rb rfl rfl h.1 (fun hgt => x_move rfl h.2.1) (fun _ z => z),
                    fun _ _ h => rv rfl (x_and rfl rfl h.1 (fun hc => h.2.1.1 (beq_iff_eq.2 hc))) rfl,
                    fun _ _ h => rv rfl (x_assign rfl h.1) rfl, trivial⟩) ?_
                  clear s3 s4 s107 s138
                  clear hN hD
                  rintro a28 w28 hN hD ⟨s2, s3, s4, hGR, -⟩
                  replace HB := below_step HB hGR
                  replace HBX1 := blk_below HBX1 hGR
                  clear hGR
                  show Code.wp _ _ _ _ _
                  refine wp_ret (blk_ret (then_ret ?_))
                  refine bodyPost_ret (results_single rfl (vtmp s2 .nil)) hD ?_
                  exact ⟨by simp only [iOp, cd3, cd6, cd9, cd13, cd18, cd21, cd24, cd27, if_true, if_false, Bool.false_eq_true], HB⟩
                · rw [cd27]
                  show Code.wp _ _ _ _ _
                  have pd27 := ne_of_beq_false cd27
                  refine wp_skip ?_
                  show Code.wp _ _ _ _ _
                  refine wp_seq ?_
                  refine deedL [.eq 2 (.bool false), .w (Below w26.heap.size w26)] 145 [[]] [] [0, 1] hM hN hD (by kernel_rfl) ⟨⟨Below.refl _ _, below_drew (Below.refl _ _)⟩, trivial⟩ ⟨fun _ _ hb h => below_step h hb, trivial⟩ (fun hgrow => ⟨fun _ _ _ => rv rfl (x_assign rfl rfl) rfl, trivial⟩) ?_
                  clear s3 s4 s107 s138
                  clear hN hD
                  rintro a29 w29 hN hD ⟨s2, hGR, -⟩
                  replace HB := below_step HB hGR
                  replace HBX1 := blk_below HBX1 hGR
                  clear hGR
                  show Code.wp _ _ _ _ _
                  refine wp_ret ?_
                  refine bodyPost_ret (results_single rfl (vtmp s2 .nil)) hD ?_
                  exact ⟨by simp only [iOp, cd3, cd6, cd9, cd13, cd18, cd21, cd24, cd27, if_true, if_false, Bool.false_eq_true], HB⟩
end Go.Proofs.Ytideafkiaipnoaa.Q
