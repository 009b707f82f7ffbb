/- Functions walked. -/
import Derived.Test.YtideafkiaipnoaaCheck
namespace Go.Proofs.Ytideafkiaipnoaa.Q
open Go Go.RowKit Go.Proofs.YtideafkiaipnoaaW.PrintWords Go.Proofs.YtideafkiaipnoaaW.PrintLast Go.Proofs.Ytideafkiaipnoaa.Deed
set_option maxRecDepth 100000
noncomputable def sOp (o : Op) : Bool :=
 if (((((((((((((!(stampOK o.time o.actor)) || (decide (o.seq < 1))) || (decide (1000000000000 < o.seq))) || (!(vecOK o.deps))) || ((gi o.deps o.actor) != (o.seq - 1))) || (decide (o.obj < 1))) || (decide (100 < o.obj))) || (decide (o.num < -1000000000000))) || (decide (1000000000000 < o.num))) || (decide (o.undo < 0))) || (decide (o.seq ≤ o.undo))) || (decide (200 < (o.key.size : Int)))) || (decide (200 < (o.text.size : Int)))) = true then false else (if ((!(noneT o.att o.ata)) && ((!(stampOK o.att o.ata)) || (!(lessT o.att o.ata o.time o.actor)))) = true then false else (if (o.kind == 1) = true then ((o.num == 0) && (noneT o.att o.ata)) else (if (o.kind == 2) = true then (((o.key.toList == (⟨#[]⟩ : ByteArray).toList) && (o.text.toList == (⟨#[]⟩ : ByteArray).toList)) && (charOK o.num)) else (if (o.kind == 3) = true then ((((o.key.toList == (⟨#[]⟩ : ByteArray).toList) && (o.text.toList == (⟨#[]⟩ : ByteArray).toList)) && (o.num == 0)) && (!(noneT o.att o.ata))) else (if (o.kind == 4) = true then (((o.key.toList == (⟨#[]⟩ : ByteArray).toList) && (o.text.toList == (⟨#[]⟩ : ByteArray).toList)) && (noneT o.att o.ata)) else false)))))
set_option maxHeartbeats 2000000 in
theorem sOp_calls (o : Op) (w : World) (A : Option Addr) (c : Nat) (HR : RI w A o.deps) : Calls Try.prog 82 #[.agg (opc o A c).toArray] w fun e w' => e = .returned (.bool (sOp o)) ∧ Below w.heap.size w w' := by
  refine calls_of_wp Try.func82 rfl ?_
  refine enter_ (N := 150) rfl ?_
  rintro a0 hN hD ⟨s0, -⟩
  have HB : Below w.heap.size w w := Below.refl _ _
  refine wp_seq ?_
  refine deedL [.s1 1 (NewB w.heap.size (opc o A c) 67), .eq 2 (.bool false), .eq 0 (.agg (opc o A c).toArray), .w (Below w.heap.size w)] 150 [[3, 2], []] [] [0, 2, 3] hM hN hD (by kernel_rfl) ⟨s0, ⟨Below.refl _ _, below_drew (Below.refl _ _)⟩, trivial⟩ ⟨fun _ _ _ hb h => h.grow hb, fun _ _ hb h => below_step h hb, trivial⟩ (fun hgrow => ⟨fun _ _ h => rbox hgrow rfl (x_box rfl h.2.1) h.1.size (fun _ _ z => z),
    fun _ _ _ => rv rfl (x_assign rfl rfl) rfl, trivial⟩) ?_
  clear s0
  clear hN hD
  rintro a1 w1 hN hD ⟨⟨g1, s1, lg1, HBX1⟩, s0, hGR, -⟩
  replace HB := below_step HB hGR
  clear hGR
  show Code.wp _ _ _ _ _
  refine wp_seq ?_
  refine deedL [.eq 5 (.agg (opc o A c).toArray), .eq 6 (.agg #[Value.int .i64 o.time, Value.int .i64 o.actor]), .s1 3 (NewB w1.heap.size [.int .i64 0, .int .i64 0] 65), .s1 3 (NewB w1.heap.size [.int .i64 o.time, .int .i64 o.actor] 65), .eq 1 (.pointer (some ⟨g1, 0, none⟩)), .w (Below w1.heap.size w1)] 150 [[4, 5], [0], [5], [2, 1, 5]] [[], [], [], [2]] [3, 4, 5] hM hN hD (by kernel_rfl) ⟨s1, ⟨Below.refl _ _, below_drew (Below.refl _ _)⟩, trivial⟩ ⟨fun _ _ _ hb h => h.grow hb, fun _ _ _ hb h => h.grow hb, fun _ _ hb h => below_step h hb, trivial⟩ (fun hgrow => ⟨fun _ _ h => rv rfl (x_loadS rfl h.1 Try.underlying67 (opc o A c) sz67 (blk_list (L := opc o A c) (blk_below HBX1 h.2.1) 0 rfl)) rfl,
    fun _ _ h => rc hgrow rfl Try.func105 (by kernel_rfl) rfl rfl (args1 h.1) (sStamp_calls o A c _) (fun _ _ h => ⟨_, h.1, h.2, rfl⟩),
    fun _ _ h => rbox hgrow rfl (x_alloc rfl zr65) h.1.size (fun _ _ z => z),
    ?_, trivial⟩) ?_
  · rintro a_ W ⟨h2, h1, h5, -⟩
    obtain ⟨g3, e3, l3, hb3⟩ := h2
    exact rstoreS rfl rfl e3 h1 (by simp [Value.oneCell']) sz65 hb3 rfl ⟨_, e3, l3, blk_stored (cs := [.int .i64 o.time, .int .i64 o.actor]) 0 _ [.int .i64 0, .int .i64 0] hb3 (of_decide_eq_true rfl)⟩ ⟨fun h => below_cells h l3, trivial⟩
  clear s0 s1
  clear hN hD
  rintro a2 w2 hN hD ⟨⟨g3, s3, lg3, HBX3⟩, s1, hGR, -⟩
  replace lg3 := Nat.le_trans HB.size lg3
  replace HB := below_step HB hGR
  replace HBX1 := blk_below HBX1 hGR
  clear hGR
  show Code.wp _ _ _ _ _
  refine wp_seq ?_
  refine wp_seq ?_
  refine deedL (.eq 7 (.agg #[Value.int .i64 o.time, Value.int .i64 o.actor]) :: .eq 8 (.bool (stampOK o.time o.actor)) :: .eq 9 (.bool (!(stampOK o.time o.actor))) :: .eq 10 (.bool (!(stampOK o.time o.actor))) :: .gv (((!(stampOK o.time o.actor)) == false)) 11 (.pointer (some ⟨g1, 1, none⟩)) :: .gv (((!(stampOK o.time o.actor)) == false)) 12 (.int .i64 o.seq) :: .gv (((!(stampOK o.time o.actor)) == false)) 13 (.bool (decide (o.seq < 1))) :: .eq 14 (.bool ((!(stampOK o.time o.actor)) || (decide (o.seq < 1)))) :: .eq 15 (.bool ((!(stampOK o.time o.actor)) || (decide (o.seq < 1)))) :: .gv ((((!(stampOK o.time o.actor)) || (decide (o.seq < 1))) == false)) 16 (.pointer (some ⟨g1, 1, none⟩)) :: .gv ((((!(stampOK o.time o.actor)) || (decide (o.seq < 1))) == false)) 17 (.int .i64 o.seq) :: .gv ((((!(stampOK o.time o.actor)) || (decide (o.seq < 1))) == false)) 18 (.bool (decide (1000000000000 < o.seq))) :: .eq 19 (.bool (((!(stampOK o.time o.actor)) || (decide (o.seq < 1))) || (decide (1000000000000 < o.seq)))) :: .eq 20 (.bool (((!(stampOK o.time o.actor)) || (decide (o.seq < 1))) || (decide (1000000000000 < o.seq)))) :: .gv (((((!(stampOK o.time o.actor)) || (decide (o.seq < 1))) || (decide (1000000000000 < o.seq))) == false)) 21 (.pointer (some ⟨g1, 3, none⟩)) :: .gv (((((!(stampOK o.time o.actor)) || (decide (o.seq < 1))) || (decide (1000000000000 < o.seq))) == false)) 22 (.agg #[Value.slice A o.deps.length c]) :: .gv (((((!(stampOK o.time o.actor)) || (decide (o.seq < 1))) || (decide (1000000000000 < o.seq))) == false)) 23 (.bool (vecOK o.deps)) :: .gv (((((!(stampOK o.time o.actor)) || (decide (o.seq < 1))) || (decide (1000000000000 < o.seq))) == false)) 24 (.bool (!(vecOK o.deps))) :: .eq 25 (.bool ((((!(stampOK o.time o.actor)) || (decide (o.seq < 1))) || (decide (1000000000000 < o.seq))) || (!(vecOK o.deps)))) :: .eq 26 (.bool ((((!(stampOK o.time o.actor)) || (decide (o.seq < 1))) || (decide (1000000000000 < o.seq))) || (!(vecOK o.deps)))) :: .gv ((((((!(stampOK o.time o.actor)) || (decide (o.seq < 1))) || (decide (1000000000000 < o.seq))) || (!(vecOK o.deps))) == false)) 27 (.pointer (some ⟨g1, 3, none⟩)) :: .gv ((((((!(stampOK o.time o.actor)) || (decide (o.seq < 1))) || (decide (1000000000000 < o.seq))) || (!(vecOK o.deps))) == false)) 28 (.pointer (some ⟨g1, 3, none⟩)) :: .gv ((((((!(stampOK o.time o.actor)) || (decide (o.seq < 1))) || (decide (1000000000000 < o.seq))) || (!(vecOK o.deps))) == false)) 29 (.slice A o.deps.length c) :: .gv ((((((!(stampOK o.time o.actor)) || (decide (o.seq < 1))) || (decide (1000000000000 < o.seq))) || (!(vecOK o.deps))) == false)) 30 (.pointer (some ⟨g1, 0, none⟩)) :: .gv ((((((!(stampOK o.time o.actor)) || (decide (o.seq < 1))) || (decide (1000000000000 < o.seq))) || (!(vecOK o.deps))) == false)) 31 (.int .i64 o.actor) :: .gv ((((((!(stampOK o.time o.actor)) || (decide (o.seq < 1))) || (decide (1000000000000 < o.seq))) || (!(vecOK o.deps))) == false)) 32 (.pointer (some ((adr A).add (o.actor.toNat * 1)))) :: .gv ((((((!(stampOK o.time o.actor)) || (decide (o.seq < 1))) || (decide (1000000000000 < o.seq))) || (!(vecOK o.deps))) == false)) 33 (.int .i64 (gi o.deps o.actor)) :: .gv ((((((!(stampOK o.time o.actor)) || (decide (o.seq < 1))) || (decide (1000000000000 < o.seq))) || (!(vecOK o.deps))) == false)) 34 (.pointer (some ⟨g1, 1, none⟩)) :: .gv ((((((!(stampOK o.time o.actor)) || (decide (o.seq < 1))) || (decide (1000000000000 < o.seq))) || (!(vecOK o.deps))) == false)) 35 (.int .i64 o.seq) :: .gv ((((((!(stampOK o.time o.actor)) || (decide (o.seq < 1))) || (decide (1000000000000 < o.seq))) || (!(vecOK o.deps))) == false)) 36 (.int .i64 (o.seq - 1)) :: .gv ((((((!(stampOK o.time o.actor)) || (decide (o.seq < 1))) || (decide (1000000000000 < o.seq))) || (!(vecOK o.deps))) == false)) 37 (.bool ((gi o.deps o.actor) != (o.seq - 1))) :: .eq 38 (.bool (((((!(stampOK o.time o.actor)) || (decide (o.seq < 1))) || (decide (1000000000000 < o.seq))) || (!(vecOK o.deps))) || ((gi o.deps o.actor) != (o.seq - 1)))) :: .eq 39 (.bool (((((!(stampOK o.time o.actor)) || (decide (o.seq < 1))) || (decide (1000000000000 < o.seq))) || (!(vecOK o.deps))) || ((gi o.deps o.actor) != (o.seq - 1)))) :: .gv (((((((!(stampOK o.time o.actor)) || (decide (o.seq < 1))) || (decide (1000000000000 < o.seq))) || (!(vecOK o.deps))) || ((gi o.deps o.actor) != (o.seq - 1))) == false)) 40 (.pointer (some ⟨g1, 5, none⟩)) :: .gv (((((((!(stampOK o.time o.actor)) || (decide (o.seq < 1))) || (decide (1000000000000 < o.seq))) || (!(vecOK o.deps))) || ((gi o.deps o.actor) != (o.seq - 1))) == false)) 41 (.int .i64 o.obj) :: .gv (((((((!(stampOK o.time o.actor)) || (decide (o.seq < 1))) || (decide (1000000000000 < o.seq))) || (!(vecOK o.deps))) || ((gi o.deps o.actor) != (o.seq - 1))) == false)) 42 (.bool (decide (o.obj < 1))) :: .eq 43 (.bool ((((((!(stampOK o.time o.actor)) || (decide (o.seq < 1))) || (decide (1000000000000 < o.seq))) || (!(vecOK o.deps))) || ((gi o.deps o.actor) != (o.seq - 1))) || (decide (o.obj < 1)))) :: .eq 44 (.bool ((((((!(stampOK o.time o.actor)) || (decide (o.seq < 1))) || (decide (1000000000000 < o.seq))) || (!(vecOK o.deps))) || ((gi o.deps o.actor) != (o.seq - 1))) || (decide (o.obj < 1)))) :: .gv ((((((((!(stampOK o.time o.actor)) || (decide (o.seq < 1))) || (decide (1000000000000 < o.seq))) || (!(vecOK o.deps))) || ((gi o.deps o.actor) != (o.seq - 1))) || (decide (o.obj < 1))) == false)) 45 (.pointer (some ⟨g1, 5, none⟩)) :: .gv ((((((((!(stampOK o.time o.actor)) || (decide (o.seq < 1))) || (decide (1000000000000 < o.seq))) || (!(vecOK o.deps))) || ((gi o.deps o.actor) != (o.seq - 1))) || (decide (o.obj < 1))) == false)) 46 (.int .i64 o.obj) :: .gv ((((((((!(stampOK o.time o.actor)) || (decide (o.seq < 1))) || (decide (1000000000000 < o.seq))) || (!(vecOK o.deps))) || ((gi o.deps o.actor) != (o.seq - 1))) || (decide (o.obj < 1))) == false)) 47 (.bool (decide (100 < o.obj))) :: .eq 48 (.bool (((((((!(stampOK o.time o.actor)) || (decide (o.seq < 1))) || (decide (1000000000000 < o.seq))) || (!(vecOK o.deps))) || ((gi o.deps o.actor) != (o.seq - 1))) || (decide (o.obj < 1))) || (decide (100 < o.obj)))) :: .eq 49 (.bool (((((((!(stampOK o.time o.actor)) || (decide (o.seq < 1))) || (decide (1000000000000 < o.seq))) || (!(vecOK o.deps))) || ((gi o.deps o.actor) != (o.seq - 1))) || (decide (o.obj < 1))) || (decide (100 < o.obj)))) :: .gv (((((((((!(stampOK o.time o.actor)) || (decide (o.seq < 1))) || (decide (1000000000000 < o.seq))) || (!(vecOK o.deps))) || ((gi o.deps o.actor) != (o.seq - 1))) || (decide (o.obj < 1))) || (decide (100 < o.obj))) == false)) 50 (.pointer (some ⟨g1, 6, none⟩)) :: .gv (((((((((!(stampOK o.time o.actor)) || (decide (o.seq < 1))) || (decide (1000000000000 < o.seq))) || (!(vecOK o.deps))) || ((gi o.deps o.actor) != (o.seq - 1))) || (decide (o.obj < 1))) || (decide (100 < o.obj))) == false)) 51 (.int .i64 o.num) :: .gv (((((((((!(stampOK o.time o.actor)) || (decide (o.seq < 1))) || (decide (1000000000000 < o.seq))) || (!(vecOK o.deps))) || ((gi o.deps o.actor) != (o.seq - 1))) || (decide (o.obj < 1))) || (decide (100 < o.obj))) == false)) 52 (.bool (decide (o.num < -1000000000000))) :: .eq 53 (.bool ((((((((!(stampOK o.time o.actor)) || (decide (o.seq < 1))) || (decide (1000000000000 < o.seq))) || (!(vecOK o.deps))) || ((gi o.deps o.actor) != (o.seq - 1))) || (decide (o.obj < 1))) || (decide (100 < o.obj))) || (decide (o.num < -1000000000000)))) :: .eq 54 (.bool ((((((((!(stampOK o.time o.actor)) || (decide (o.seq < 1))) || (decide (1000000000000 < o.seq))) || (!(vecOK o.deps))) || ((gi o.deps o.actor) != (o.seq - 1))) || (decide (o.obj < 1))) || (decide (100 < o.obj))) || (decide (o.num < -1000000000000)))) :: .gv ((((((((((!(stampOK o.time o.actor)) || (decide (o.seq < 1))) || (decide (1000000000000 < o.seq))) || (!(vecOK o.deps))) || ((gi o.deps o.actor) != (o.seq - 1))) || (decide (o.obj < 1))) || (decide (100 < o.obj))) || (decide (o.num < -1000000000000))) == false)) 55 (.pointer (some ⟨g1, 6, none⟩)) :: .gv ((((((((((!(stampOK o.time o.actor)) || (decide (o.seq < 1))) || (decide (1000000000000 < o.seq))) || (!(vecOK o.deps))) || ((gi o.deps o.actor) != (o.seq - 1))) || (decide (o.obj < 1))) || (decide (100 < o.obj))) || (decide (o.num < -1000000000000))) == false)) 56 (.int .i64 o.num) :: .gv ((((((((((!(stampOK o.time o.actor)) || (decide (o.seq < 1))) || (decide (1000000000000 < o.seq))) || (!(vecOK o.deps))) || ((gi o.deps o.actor) != (o.seq - 1))) || (decide (o.obj < 1))) || (decide (100 < o.obj))) || (decide (o.num < -1000000000000))) == false)) 57 (.bool (decide (1000000000000 < o.num))) :: .eq 58 (.bool (((((((((!(stampOK o.time o.actor)) || (decide (o.seq < 1))) || (decide (1000000000000 < o.seq))) || (!(vecOK o.deps))) || ((gi o.deps o.actor) != (o.seq - 1))) || (decide (o.obj < 1))) || (decide (100 < o.obj))) || (decide (o.num < -1000000000000))) || (decide (1000000000000 < o.num)))) :: .eq 59 (.bool (((((((((!(stampOK o.time o.actor)) || (decide (o.seq < 1))) || (decide (1000000000000 < o.seq))) || (!(vecOK o.deps))) || ((gi o.deps o.actor) != (o.seq - 1))) || (decide (o.obj < 1))) || (decide (100 < o.obj))) || (decide (o.num < -1000000000000))) || (decide (1000000000000 < o.num)))) :: .gv (((((((((((!(stampOK o.time o.actor)) || (decide (o.seq < 1))) || (decide (1000000000000 < o.seq))) || (!(vecOK o.deps))) || ((gi o.deps o.actor) != (o.seq - 1))) || (decide (o.obj < 1))) || (decide (100 < o.obj))) || (decide (o.num < -1000000000000))) || (decide (1000000000000 < o.num))) == false)) 60 (.pointer (some ⟨g1, 7, none⟩)) :: .gv (((((((((((!(stampOK o.time o.actor)) || (decide (o.seq < 1))) || (decide (1000000000000 < o.seq))) || (!(vecOK o.deps))) || ((gi o.deps o.actor) != (o.seq - 1))) || (decide (o.obj < 1))) || (decide (100 < o.obj))) || (decide (o.num < -1000000000000))) || (decide (1000000000000 < o.num))) == false)) 61 (.int .i64 o.undo) :: .gv (((((((((((!(stampOK o.time o.actor)) || (decide (o.seq < 1))) || (decide (1000000000000 < o.seq))) || (!(vecOK o.deps))) || ((gi o.deps o.actor) != (o.seq - 1))) || (decide (o.obj < 1))) || (decide (100 < o.obj))) || (decide (o.num < -1000000000000))) || (decide (1000000000000 < o.num))) == false)) 62 (.bool (decide (o.undo < 0))) :: .eq 63 (.bool ((((((((((!(stampOK o.time o.actor)) || (decide (o.seq < 1))) || (decide (1000000000000 < o.seq))) || (!(vecOK o.deps))) || ((gi o.deps o.actor) != (o.seq - 1))) || (decide (o.obj < 1))) || (decide (100 < o.obj))) || (decide (o.num < -1000000000000))) || (decide (1000000000000 < o.num))) || (decide (o.undo < 0)))) :: .eq 64 (.bool ((((((((((!(stampOK o.time o.actor)) || (decide (o.seq < 1))) || (decide (1000000000000 < o.seq))) || (!(vecOK o.deps))) || ((gi o.deps o.actor) != (o.seq - 1))) || (decide (o.obj < 1))) || (decide (100 < o.obj))) || (decide (o.num < -1000000000000))) || (decide (1000000000000 < o.num))) || (decide (o.undo < 0)))) :: .gv ((((((((((((!(stampOK o.time o.actor)) || (decide (o.seq < 1))) || (decide (1000000000000 < o.seq))) || (!(vecOK o.deps))) || ((gi o.deps o.actor) != (o.seq - 1))) || (decide (o.obj < 1))) || (decide (100 < o.obj))) || (decide (o.num < -1000000000000))) || (decide (1000000000000 < o.num))) || (decide (o.undo < 0))) == false)) 65 (.pointer (some ⟨g1, 7, none⟩)) :: .gv ((((((((((((!(stampOK o.time o.actor)) || (decide (o.seq < 1))) || (decide (1000000000000 < o.seq))) || (!(vecOK o.deps))) || ((gi o.deps o.actor) != (o.seq - 1))) || (decide (o.obj < 1))) || (decide (100 < o.obj))) || (decide (o.num < -1000000000000))) || (decide (1000000000000 < o.num))) || (decide (o.undo < 0))) == false)) 66 (.int .i64 o.undo) :: .gv ((((((((((((!(stampOK o.time o.actor)) || (decide (o.seq < 1))) || (decide (1000000000000 < o.seq))) || (!(vecOK o.deps))) || ((gi o.deps o.actor) != (o.seq - 1))) || (decide (o.obj < 1))) || (decide (100 < o.obj))) || (decide (o.num < -1000000000000))) || (decide (1000000000000 < o.num))) || (decide (o.undo < 0))) == false)) 67 (.pointer (some ⟨g1, 1, none⟩)) :: .gv ((((((((((((!(stampOK o.time o.actor)) || (decide (o.seq < 1))) || (decide (1000000000000 < o.seq))) || (!(vecOK o.deps))) || ((gi o.deps o.actor) != (o.seq - 1))) || (decide (o.obj < 1))) || (decide (100 < o.obj))) || (decide (o.num < -1000000000000))) || (decide (1000000000000 < o.num))) || (decide (o.undo < 0))) == false)) 68 (.int .i64 o.seq) :: .gv ((((((((((((!(stampOK o.time o.actor)) || (decide (o.seq < 1))) || (decide (1000000000000 < o.seq))) || (!(vecOK o.deps))) || ((gi o.deps o.actor) != (o.seq - 1))) || (decide (o.obj < 1))) || (decide (100 < o.obj))) || (decide (o.num < -1000000000000))) || (decide (1000000000000 < o.num))) || (decide (o.undo < 0))) == false)) 69 (.bool (decide (o.seq ≤ o.undo))) :: .eq 70 (.bool (((((((((((!(stampOK o.time o.actor)) || (decide (o.seq < 1))) || (decide (1000000000000 < o.seq))) || (!(vecOK o.deps))) || ((gi o.deps o.actor) != (o.seq - 1))) || (decide (o.obj < 1))) || (decide (100 < o.obj))) || (decide (o.num < -1000000000000))) || (decide (1000000000000 < o.num))) || (decide (o.undo < 0))) || (decide (o.seq ≤ o.undo)))) :: .eq 71 (.bool (((((((((((!(stampOK o.time o.actor)) || (decide (o.seq < 1))) || (decide (1000000000000 < o.seq))) || (!(vecOK o.deps))) || ((gi o.deps o.actor) != (o.seq - 1))) || (decide (o.obj < 1))) || (decide (100 < o.obj))) || (decide (o.num < -1000000000000))) || (decide (1000000000000 < o.num))) || (decide (o.undo < 0))) || (decide (o.seq ≤ o.undo)))) :: .gv (((((((((((((!(stampOK o.time o.actor)) || (decide (o.seq < 1))) || (decide (1000000000000 < o.seq))) || (!(vecOK o.deps))) || ((gi o.deps o.actor) != (o.seq - 1))) || (decide (o.obj < 1))) || (decide (100 < o.obj))) || (decide (o.num < -1000000000000))) || (decide (1000000000000 < o.num))) || (decide (o.undo < 0))) || (decide (o.seq ≤ o.undo))) == false)) 72 (.pointer (some ⟨g1, 10, none⟩)) :: .gv (((((((((((((!(stampOK o.time o.actor)) || (decide (o.seq < 1))) || (decide (1000000000000 < o.seq))) || (!(vecOK o.deps))) || ((gi o.deps o.actor) != (o.seq - 1))) || (decide (o.obj < 1))) || (decide (100 < o.obj))) || (decide (o.num < -1000000000000))) || (decide (1000000000000 < o.num))) || (decide (o.undo < 0))) || (decide (o.seq ≤ o.undo))) == false)) 73 (.string o.key) :: .gv (((((((((((((!(stampOK o.time o.actor)) || (decide (o.seq < 1))) || (decide (1000000000000 < o.seq))) || (!(vecOK o.deps))) || ((gi o.deps o.actor) != (o.seq - 1))) || (decide (o.obj < 1))) || (decide (100 < o.obj))) || (decide (o.num < -1000000000000))) || (decide (1000000000000 < o.num))) || (decide (o.undo < 0))) || (decide (o.seq ≤ o.undo))) == false)) 74 (.int .i64 (o.key.size : Int)) :: .gv (((((((((((((!(stampOK o.time o.actor)) || (decide (o.seq < 1))) || (decide (1000000000000 < o.seq))) || (!(vecOK o.deps))) || ((gi o.deps o.actor) != (o.seq - 1))) || (decide (o.obj < 1))) || (decide (100 < o.obj))) || (decide (o.num < -1000000000000))) || (decide (1000000000000 < o.num))) || (decide (o.undo < 0))) || (decide (o.seq ≤ o.undo))) == false)) 75 (.bool (decide (200 < (o.key.size : Int)))) :: .eq 76 (.bool ((((((((((((!(stampOK o.time o.actor)) || (decide (o.seq < 1))) || (decide (1000000000000 < o.seq))) || (!(vecOK o.deps))) || ((gi o.deps o.actor) != (o.seq - 1))) || (decide (o.obj < 1))) || (decide (100 < o.obj))) || (decide (o.num < -1000000000000))) || (decide (1000000000000 < o.num))) || (decide (o.undo < 0))) || (decide (o.seq ≤ o.undo))) || (decide (200 < (o.key.size : Int))))) :: .eq 77 (.bool ((((((((((((!(stampOK o.time o.actor)) || (decide (o.seq < 1))) || (decide (1000000000000 < o.seq))) || (!(vecOK o.deps))) || ((gi o.deps o.actor) != (o.seq - 1))) || (decide (o.obj < 1))) || (decide (100 < o.obj))) || (decide (o.num < -1000000000000))) || (decide (1000000000000 < o.num))) || (decide (o.undo < 0))) || (decide (o.seq ≤ o.undo))) || (decide (200 < (o.key.size : Int))))) :: .gv ((((((((((((((!(stampOK o.time o.actor)) || (decide (o.seq < 1))) || (decide (1000000000000 < o.seq))) || (!(vecOK o.deps))) || ((gi o.deps o.actor) != (o.seq - 1))) || (decide (o.obj < 1))) || (decide (100 < o.obj))) || (decide (o.num < -1000000000000))) || (decide (1000000000000 < o.num))) || (decide (o.undo < 0))) || (decide (o.seq ≤ o.undo))) || (decide (200 < (o.key.size : Int)))) == false)) 78 (.pointer (some ⟨g1, 11, none⟩)) :: .gv ((((((((((((((!(stampOK o.time o.actor)) || (decide (o.seq < 1))) || (decide (1000000000000 < o.seq))) || (!(vecOK o.deps))) || ((gi o.deps o.actor) != (o.seq - 1))) || (decide (o.obj < 1))) || (decide (100 < o.obj))) || (decide (o.num < -1000000000000))) || (decide (1000000000000 < o.num))) || (decide (o.undo < 0))) || (decide (o.seq ≤ o.undo))) || (decide (200 < (o.key.size : Int)))) == false)) 79 (.string o.text) :: .gv ((((((((((((((!(stampOK o.time o.actor)) || (decide (o.seq < 1))) || (decide (1000000000000 < o.seq))) || (!(vecOK o.deps))) || ((gi o.deps o.actor) != (o.seq - 1))) || (decide (o.obj < 1))) || (decide (100 < o.obj))) || (decide (o.num < -1000000000000))) || (decide (1000000000000 < o.num))) || (decide (o.undo < 0))) || (decide (o.seq ≤ o.undo))) || (decide (200 < (o.key.size : Int)))) == false)) 80 (.int .i64 (o.text.size : Int)) :: .gv ((((((((((((((!(stampOK o.time o.actor)) || (decide (o.seq < 1))) || (decide (1000000000000 < o.seq))) || (!(vecOK o.deps))) || ((gi o.deps o.actor) != (o.seq - 1))) || (decide (o.obj < 1))) || (decide (100 < o.obj))) || (decide (o.num < -1000000000000))) || (decide (1000000000000 < o.num))) || (decide (o.undo < 0))) || (decide (o.seq ≤ o.undo))) || (decide (200 < (o.key.size : Int)))) == false)) 81 (.bool (decide (200 < (o.text.size : Int)))) :: .eq 82 (.bool (((((((((((((!(stampOK o.time o.actor)) || (decide (o.seq < 1))) || (decide (1000000000000 < o.seq))) || (!(vecOK o.deps))) || ((gi o.deps o.actor) != (o.seq - 1))) || (decide (o.obj < 1))) || (decide (100 < o.obj))) || (decide (o.num < -1000000000000))) || (decide (1000000000000 < o.num))) || (decide (o.undo < 0))) || (decide (o.seq ≤ o.undo))) || (decide (200 < (o.key.size : Int)))) || (decide (200 < (o.text.size : Int))))) :: .eq 1 (.pointer (some ⟨g1, 0, none⟩)) :: .eq 3 (.pointer (some ⟨g3, 0, none⟩)) :: .w (Below w2.heap.size w2) :: []) 150 ([77, 78] :: [0] :: [1] :: [2] :: [3, 76] :: [3, 4, 78] :: [3, 5] :: [3, 6] :: [7] :: [8, 76] :: [8, 9, 78] :: [8, 10] :: [8, 11] :: [12] :: [13, 76] :: [13, 14, 78] :: [13, 15, 78] :: [13, 16] :: [13, 17] :: [18] :: [19, 76] :: [19, 20] :: [19, 21, 78] :: [19, 76] :: [19, 23, 78] :: [19, 22, 24] :: [19, 25, 78] :: [19, 76] :: [19, 27, 78] :: [19, 28] :: [19, 26, 29] :: [19, 30] :: [31] :: [32, 76] :: [32, 33, 78] :: [32, 34] :: [32, 35] :: [36] :: [37, 76] :: [37, 38, 78] :: [37, 39] :: [37, 40] :: [41] :: [42, 76] :: [42, 43, 78] :: [42, 44] :: [42, 45] :: [46] :: [47, 76] :: [47, 48, 78] :: [47, 49] :: [47, 50] :: [51] :: [52, 76] :: [52, 53, 78] :: [52, 54] :: [52, 55] :: [56] :: [57, 76] :: [57, 58, 78] :: [57, 76] :: [57, 60, 78] :: [57, 59, 61] :: [57, 62] :: [63] :: [64, 76] :: [64, 65, 78] :: [64, 66] :: [64, 67] :: [64, 68] :: [69] :: [70, 76] :: [70, 71, 78] :: [70, 72] :: [70, 73] :: [70, 74] :: []) [] [75, 76, 77, 78] hM hN hD (by kernel_rfl) ⟨s1, s3, ⟨Below.refl _ _, below_drew (Below.refl _ _)⟩, trivial⟩ ⟨fun _ _ hb h => below_step h hb, trivial⟩ (fun hgrow => ⟨fun _ _ h => rv rfl (x_loadS rfl h.1 Try.underlying65 [.int .i64 o.time, .int .i64 o.actor] sz65 (blk_list (L := [.int .i64 o.time, .int .i64 o.actor]) (blk_below HBX3 h.2.1) 0 rfl)) rfl,
    fun _ _ h => rc hgrow rfl Try.func106 (by kernel_rfl) rfl rfl (args1 h.1) (sStampOK_calls o.time o.actor _) (fun _ _ h => ⟨_, h.1, h.2, rfl⟩),
    fun _ _ h => rv rfl (x_not rfl h.1) rfl,
    fun _ _ h => rv rfl (x_move rfl h.1) rfl,
    fun _ _ h => rb rfl rfl h.1 (fun hgt => x_field rfl h.2.1 Try.underlying67 rfl sz3 (by decide) rfl) (fun _ z => z),
    fun _ _ h => rb rfl rfl h.1 (fun hgt => x_load1 rfl (h.2.1.1 hgt) Try.underlying3 rfl (blk_one (L := opc o A c) (blk_below HBX1 h.2.2.1) 1 rfl)) (fun _ z => z),
    fun _ _ h => rb rfl rfl h.1 (fun hgt => x_lss rfl (h.2.1.1 hgt) rfl) (fun _ z => z),
    fun _ _ h => rv rfl (x_or rfl rfl h.1 (fun hc => h.2.1.1 (beq_iff_eq.2 hc))) rfl,
    fun _ _ h => rv rfl (x_move rfl h.1) rfl,
    fun _ _ h => rb rfl rfl h.1 (fun hgt => x_field rfl h.2.1 Try.underlying67 rfl sz3 (by decide) rfl) (fun _ z => z),
    fun _ _ h => rb rfl rfl h.1 (fun hgt => x_load1 rfl (h.2.1.1 hgt) Try.underlying3 rfl (blk_one (L := opc o A c) (blk_below HBX1 h.2.2.1) 1 rfl)) (fun _ z => z),
    fun _ _ h => rb rfl rfl h.1 (fun hgt => x_gtr rfl (h.2.1.1 hgt) rfl) (fun _ z => z),
    fun _ _ h => rv rfl (x_or rfl rfl h.1 (fun hc => h.2.1.1 (beq_iff_eq.2 hc))) rfl,
    fun _ _ h => rv rfl (x_move rfl h.1) rfl,
    fun _ _ h => rb rfl rfl h.1 (fun hgt => x_field rfl h.2.1 Try.underlying67 rfl sz41 (by decide) rfl) (fun _ z => z),
    fun _ _ h => rb rfl rfl h.1 (fun hgt => x_loadS rfl (h.2.1.1 hgt) Try.underlying41 [.slice A o.deps.length c] sz41 (blk_list (L := opc o A c) (blk_below HBX1 h.2.2.1) 3 rfl)) (fun _ z => z),
    fun _ _ h => rcb hgrow rfl rfl h.1 Try.func57 (by kernel_rfl) rfl rfl (fun hgt => args1 (h.2.1.1 hgt)) (fun hgt => sVecOK_calls A o.deps c _ (RI.below HR (below_step HB h.2.2.1))) (fun _ _ _ h => h) (fun _ _ z => z),
    fun _ _ h => rb rfl rfl h.1 (fun hgt => x_not rfl (h.2.1.1 hgt)) (fun _ z => z),
    fun _ _ h => rv rfl (x_or rfl rfl h.1 (fun hc => h.2.1.1 (beq_iff_eq.2 hc))) rfl,
    fun _ _ h => rv rfl (x_move rfl h.1) rfl,
    fun _ _ h => rb rfl rfl h.1 (fun hgt => x_field rfl h.2.1 Try.underlying67 rfl sz41 (by decide) rfl) (fun _ z => z),
    fun _ _ h => rb rfl rfl h.1 (fun hgt => x_field rfl (h.2.1.1 hgt) Try.underlying41 rfl sz24 (by decide) rfl) (fun _ z => z),
    fun _ _ h => rb rfl rfl h.1 (fun hgt => x_load1 rfl (h.2.1.1 hgt) Try.underlying24 rfl (blk_one (L := opc o A c) (blk_below HBX1 h.2.2.1) 3 rfl)) (fun _ z => z),
    fun _ _ h => rb rfl rfl h.1 (fun hgt => x_field rfl h.2.1 Try.underlying67 rfl sz3 (by decide) rfl) (fun _ z => z),
    fun _ _ h => rb rfl rfl h.1 (fun hgt => x_load1 rfl (h.2.1.1 hgt) Try.underlying3 rfl (blk_one (L := opc o A c) (blk_below HBX1 h.2.2.1) 0 rfl)) (fun _ z => z),
    fun _ _ h => rb rfl rfl h.1 (fun hgt => x_index_at rfl (h.2.1.1 hgt) (h.2.2.1.1 hgt) Try.underlying24 sz3 (by simp [stampOK, actorOK] at hgt; omega) (by simp [stampOK, actorOK, vecOK_iff, VecOK] at hgt; omega) (RI.ad HR o.actor (by simp [stampOK, actorOK] at hgt; omega) (by simp [stampOK, actorOK, vecOK_iff, VecOK] at hgt; omega))) (fun _ z => z),
    fun _ _ h => rb rfl rfl h.1 (fun hgt => x_load1 rfl (h.2.1.1 hgt) Try.underlying3 rfl (RI.at_ HR (below_step HB h.2.2.1) (by simp [stampOK, actorOK] at hgt; omega) (by simp [stampOK, actorOK, vecOK_iff, VecOK] at hgt; omega))) (fun _ z => z),
    fun _ _ h => rb rfl rfl h.1 (fun hgt => x_field rfl h.2.1 Try.underlying67 rfl sz3 (by decide) rfl) (fun _ z => z),
    fun _ _ h => rb rfl rfl h.1 (fun hgt => x_load1 rfl (h.2.1.1 hgt) Try.underlying3 rfl (blk_one (L := opc o A c) (blk_below HBX1 h.2.2.1) 1 rfl)) (fun _ z => z),
    fun _ _ h => rb rfl rfl h.1 (fun hgt => x_sub' rfl (h.2.1.1 hgt) rfl (by simp at hgt; omega)) (fun _ z => z),
    fun _ _ h => rb rfl rfl h.1 (fun hgt => x_neq rfl (h.2.1.1 hgt) (h.2.2.1.1 hgt)) (fun _ z => z),
    fun _ _ h => rv rfl (x_or rfl rfl h.1 (fun hc => h.2.1.1 (beq_iff_eq.2 hc))) rfl,
    fun _ _ h => rv rfl (x_move rfl h.1) rfl,
    fun _ _ h => rb rfl rfl h.1 (fun hgt => x_field rfl h.2.1 Try.underlying67 rfl sz3 (by decide) rfl) (fun _ z => z),
    fun _ _ h => rb rfl rfl h.1 (fun hgt => x_load1 rfl (h.2.1.1 hgt) Try.underlying3 rfl (blk_one (L := opc o A c) (blk_below HBX1 h.2.2.1) 5 rfl)) (fun _ z => z),
    fun _ _ h => rb rfl rfl h.1 (fun hgt => x_lss rfl (h.2.1.1 hgt) rfl) (fun _ z => z),
    fun _ _ h => rv rfl (x_or rfl rfl h.1 (fun hc => h.2.1.1 (beq_iff_eq.2 hc))) rfl,
    fun _ _ h => rv rfl (x_move rfl h.1) rfl,
    fun _ _ h => rb rfl rfl h.1 (fun hgt => x_field rfl h.2.1 Try.underlying67 rfl sz3 (by decide) rfl) (fun _ z => z),
    fun _ _ h => rb rfl rfl h.1 (fun hgt => x_load1 rfl (h.2.1.1 hgt) Try.underlying3 rfl (blk_one (L := opc o A c) (blk_below HBX1 h.2.2.1) 5 rfl)) (fun _ z => z),
    fun _ _ h => rb rfl rfl h.1 (fun hgt => x_gtr rfl (h.2.1.1 hgt) rfl) (fun _ z => z),
    fun _ _ h => rv rfl (x_or rfl rfl h.1 (fun hc => h.2.1.1 (beq_iff_eq.2 hc))) rfl,
    fun _ _ h => rv rfl (x_move rfl h.1) rfl,
    fun _ _ h => rb rfl rfl h.1 (fun hgt => x_field rfl h.2.1 Try.underlying67 rfl sz3 (by decide) rfl) (fun _ z => z),
    fun _ _ h => rb rfl rfl h.1 (fun hgt => x_load1 rfl (h.2.1.1 hgt) Try.underlying3 rfl (blk_one (L := opc o A c) (blk_below HBX1 h.2.2.1) 6 rfl)) (fun _ z => z),
    fun _ _ h => rb rfl rfl h.1 (fun hgt => x_lss rfl (h.2.1.1 hgt) rfl) (fun _ z => z),
    fun _ _ h => rv rfl (x_or rfl rfl h.1 (fun hc => h.2.1.1 (beq_iff_eq.2 hc))) rfl,
    fun _ _ h => rv rfl (x_move rfl h.1) rfl,
    fun _ _ h => rb rfl rfl h.1 (fun hgt => x_field rfl h.2.1 Try.underlying67 rfl sz3 (by decide) rfl) (fun _ z => z),
    fun _ _ h => rb rfl rfl h.1 (fun hgt => x_load1 rfl (h.2.1.1 hgt) Try.underlying3 rfl (blk_one (L := opc o A c) (blk_below HBX1 h.2.2.1) 6 rfl)) (fun _ z => z),
    fun _ _ h => rb rfl rfl h.1 (fun hgt => x_gtr rfl (h.2.1.1 hgt) rfl) (fun _ z => z),
    fun _ _ h => rv rfl (x_or rfl rfl h.1 (fun hc => h.2.1.1 (beq_iff_eq.2 hc))) rfl,
    fun _ _ h => rv rfl (x_move rfl h.1) rfl,
    fun _ _ h => rb rfl rfl h.1 (fun hgt => x_field rfl h.2.1 Try.underlying67 rfl sz3 (by decide) rfl) (fun _ z => z),
    fun _ _ h => rb rfl rfl h.1 (fun hgt => x_load1 rfl (h.2.1.1 hgt) Try.underlying3 rfl (blk_one (L := opc o A c) (blk_below HBX1 h.2.2.1) 7 rfl)) (fun _ z => z),
    fun _ _ h => rb rfl rfl h.1 (fun hgt => x_lss rfl (h.2.1.1 hgt) rfl) (fun _ z => z),
    fun _ _ h => rv rfl (x_or rfl rfl h.1 (fun hc => h.2.1.1 (beq_iff_eq.2 hc))) rfl,
    fun _ _ h => rv rfl (x_move rfl h.1) rfl,
    fun _ _ h => rb rfl rfl h.1 (fun hgt => x_field rfl h.2.1 Try.underlying67 rfl sz3 (by decide) rfl) (fun _ z => z),
    fun _ _ h => rb rfl rfl h.1 (fun hgt => x_load1 rfl (h.2.1.1 hgt) Try.underlying3 rfl (blk_one (L := opc o A c) (blk_below HBX1 h.2.2.1) 7 rfl)) (fun _ z => z),
    fun _ _ h => rb rfl rfl h.1 (fun hgt => x_field rfl h.2.1 Try.underlying67 rfl sz3 (by decide) rfl) (fun _ z => z),
    fun _ _ h => rb rfl rfl h.1 (fun hgt => x_load1 rfl (h.2.1.1 hgt) Try.underlying3 rfl (blk_one (L := opc o A c) (blk_below HBX1 h.2.2.1) 1 rfl)) (fun _ z => z),
    fun _ _ h => rb rfl rfl h.1 (fun hgt => x_geq rfl (h.2.1.1 hgt) (h.2.2.1.1 hgt)) (fun _ z => z),
    fun _ _ h => rv rfl (x_or rfl rfl h.1 (fun hc => h.2.1.1 (beq_iff_eq.2 hc))) rfl,
    fun _ _ h => rv rfl (x_move rfl h.1) rfl,
    fun _ _ h => rb rfl rfl h.1 (fun hgt => x_field rfl h.2.1 Try.underlying67 rfl sz9 (by decide) rfl) (fun _ z => z),
    fun _ _ h => rb rfl rfl h.1 (fun hgt => x_load1 rfl (h.2.1.1 hgt) Try.underlying9 rfl (blk_one (L := opc o A c) (blk_below HBX1 h.2.2.1) 10 rfl)) (fun _ z => z),
    fun _ _ h => rb rfl rfl h.1 (fun hgt => x_len_string rfl Try.underlying9 (h.2.1.1 hgt)) (fun _ z => z),
    fun _ _ h => rb rfl rfl h.1 (fun hgt => x_gtr rfl (h.2.1.1 hgt) rfl) (fun _ z => z),
    fun _ _ h => rv rfl (x_or rfl rfl h.1 (fun hc => h.2.1.1 (beq_iff_eq.2 hc))) rfl,
    fun _ _ h => rv rfl (x_move rfl h.1) rfl,
    fun _ _ h => rb rfl rfl h.1 (fun hgt => x_field rfl h.2.1 Try.underlying67 rfl sz9 (by decide) rfl) (fun _ z => z),
    fun _ _ h => rb rfl rfl h.1 (fun hgt => x_load1 rfl (h.2.1.1 hgt) Try.underlying9 rfl (blk_one (L := opc o A c) (blk_below HBX1 h.2.2.1) 11 rfl)) (fun _ z => z),
    fun _ _ h => rb rfl rfl h.1 (fun hgt => x_len_string rfl Try.underlying9 (h.2.1.1 hgt)) (fun _ z => z),
    fun _ _ h => rb rfl rfl h.1 (fun hgt => x_gtr rfl (h.2.1.1 hgt) rfl) (fun _ z => z),
    fun _ _ h => rv rfl (x_or rfl rfl h.1 (fun hc => h.2.1.1 (beq_iff_eq.2 hc))) rfl, trivial⟩) ?_
  clear s1 s3
  clear hN hD
  rintro a3 w3 hN hD ⟨s82, s1, s3, hGR, -⟩
  replace HB := below_step HB hGR
  replace HBX1 := blk_below HBX1 hGR
  replace HBX3 := blk_below HBX3 hGR
  clear hGR
  show Code.wp _ _ _ _ _
  refine wp_cond (t := ((((((((((((!(stampOK o.time o.actor)) || (decide (o.seq < 1))) || (decide (1000000000000 < o.seq))) || (!(vecOK o.deps))) || ((gi o.deps o.actor) != (o.seq - 1))) || (decide (o.obj < 1))) || (decide (100 < o.obj))) || (decide (o.num < -1000000000000))) || (decide (1000000000000 < o.num))) || (decide (o.undo < 0))) || (decide (o.seq ≤ o.undo))) || (decide (200 < (o.key.size : Int)))) || (decide (200 < (o.text.size : Int)))) s82 ?_
  rcases Bool.eq_false_or_eq_true (((((((((((((!(stampOK o.time o.actor)) || (decide (o.seq < 1))) || (decide (1000000000000 < o.seq))) || (!(vecOK o.deps))) || ((gi o.deps o.actor) != (o.seq - 1))) || (decide (o.obj < 1))) || (decide (100 < o.obj))) || (decide (o.num < -1000000000000))) || (decide (1000000000000 < o.num))) || (decide (o.undo < 0))) || (decide (o.seq ≤ o.undo))) || (decide (200 < (o.key.size : Int)))) || (decide (200 < (o.text.size : Int)))) with cd4 | cd4
  · rw [cd4]
    show Code.wp _ _ _ _ _
    refine wp_seq ?_
    refine deedL [.eq 2 (.bool false), .w (Below w3.heap.size w3)] 150 [[]] [] [0, 1] hM hN hD (by kernel_rfl) ⟨⟨Below.refl _ _, below_drew (Below.refl _ _)⟩, trivial⟩ ⟨fun _ _ hb h => below_step h hb, trivial⟩ (fun hgrow => ⟨fun _ _ _ => rv rfl (x_assign rfl rfl) rfl, trivial⟩) ?_
    clear s1 s3 s82
    clear hN hD
    rintro a5 w5 hN hD ⟨s2, hGR, -⟩
    replace HB := below_step HB hGR
    replace HBX1 := blk_below HBX1 hGR
    replace HBX3 := blk_below HBX3 hGR
    clear hGR
    show Code.wp _ _ _ _ _
    refine wp_ret (then_ret ?_)
    refine bodyPost_ret (results_single rfl (vtmp s2 .nil)) hD ?_
    exact ⟨by simp only [sOp, cd4, if_true, if_false, Bool.false_eq_true], HB⟩
  · rw [cd4]
    show Code.wp _ _ _ _ _
    refine wp_skip ?_
    show Code.wp _ _ _ _ _
    refine wp_seq ?_
    refine wp_seq ?_
    refine deedL (.eq 83 (.pointer (some ⟨g1, 8, none⟩)) :: .eq 84 (.agg #[Value.int .i64 o.att, Value.int .i64 o.ata]) :: .eq 85 (.bool (noneT o.att o.ata)) :: .eq 86 (.bool (!(noneT o.att o.ata))) :: .eq 87 (.bool (!(noneT o.att o.ata))) :: .gv (((!(noneT o.att o.ata)) == true)) 88 (.pointer (some ⟨g1, 8, none⟩)) :: .gv (((!(noneT o.att o.ata)) == true)) 89 (.agg #[Value.int .i64 o.att, Value.int .i64 o.ata]) :: .gv (((!(noneT o.att o.ata)) == true)) 90 (.bool (stampOK o.att o.ata)) :: .gv (((!(noneT o.att o.ata)) == true)) 91 (.bool (!(stampOK o.att o.ata))) :: .gv (((!(noneT o.att o.ata)) == true)) 92 (.bool (!(stampOK o.att o.ata))) :: .gv (((!(noneT o.att o.ata)) == true) && ((!(stampOK o.att o.ata)) == false)) 93 (.pointer (some ⟨g1, 8, none⟩)) :: .gv (((!(noneT o.att o.ata)) == true) && ((!(stampOK o.att o.ata)) == false)) 94 (.agg #[Value.int .i64 o.att, Value.int .i64 o.ata]) :: .gv (((!(noneT o.att o.ata)) == true) && ((!(stampOK o.att o.ata)) == false)) 95 (.agg #[Value.int .i64 o.time, Value.int .i64 o.actor]) :: .gv (((!(noneT o.att o.ata)) == true) && ((!(stampOK o.att o.ata)) == false)) 96 (.bool (lessT o.att o.ata o.time o.actor)) :: .gv (((!(noneT o.att o.ata)) == true) && ((!(stampOK o.att o.ata)) == false)) 97 (.bool (!(lessT o.att o.ata o.time o.actor))) :: .gv (((!(noneT o.att o.ata)) == true)) 98 (.bool ((!(stampOK o.att o.ata)) || (!(lessT o.att o.ata o.time o.actor)))) :: .eq 99 (.bool ((!(noneT o.att o.ata)) && ((!(stampOK o.att o.ata)) || (!(lessT o.att o.ata o.time o.actor))))) :: .eq 1 (.pointer (some ⟨g1, 0, none⟩)) :: .eq 3 (.pointer (some ⟨g3, 0, none⟩)) :: .w (Below w3.heap.size w3) :: []) 150 ([17] :: [0, 19] :: [1] :: [2] :: [3] :: [4, 17] :: [4, 5, 19] :: [4, 6] :: [4, 7] :: [4, 8] :: [9, 17] :: [9, 10, 19] :: [9, 18, 19] :: [9, 11, 12] :: [9, 13] :: [4, 9, 14] :: [4, 15] :: []) [] [16, 17, 18, 19] hM hN hD (by kernel_rfl) ⟨s1, s3, ⟨Below.refl _ _, below_drew (Below.refl _ _)⟩, trivial⟩ ⟨fun _ _ hb h => below_step h hb, trivial⟩ (fun hgrow => ⟨fun _ _ h => rv rfl (x_field rfl h.1 Try.underlying67 rfl sz65 (by decide) rfl) rfl,
      fun _ _ h => rv rfl (x_loadS rfl h.1 Try.underlying65 [.int .i64 o.att, .int .i64 o.ata] sz65 (blk_list (L := opc o A c) (blk_below HBX1 h.2.1) 8 rfl)) rfl,
      fun _ _ h => rc hgrow rfl Try.func107 (by kernel_rfl) rfl rfl (args1 h.1) (sNone_calls o.att o.ata _) (fun _ _ h => ⟨_, h.1, h.2, rfl⟩),
      fun _ _ h => rv rfl (x_not rfl h.1) rfl,
      fun _ _ h => rv rfl (x_move rfl h.1) rfl,
      fun _ _ h => rb rfl rfl h.1 (fun hgt => x_field rfl h.2.1 Try.underlying67 rfl sz65 (by decide) rfl) (fun _ z => z),
      fun _ _ h => rb rfl rfl h.1 (fun hgt => x_loadS rfl (h.2.1.1 hgt) Try.underlying65 [.int .i64 o.att, .int .i64 o.ata] sz65 (blk_list (L := opc o A c) (blk_below HBX1 h.2.2.1) 8 rfl)) (fun _ z => z),
      fun _ _ h => rcb hgrow rfl rfl h.1 Try.func106 (by kernel_rfl) rfl rfl (fun hgt => args1 (h.2.1.1 hgt)) (fun hgt => sStampOK_calls o.att o.ata _) (fun _ _ _ h => h) (fun _ _ z => z),
      fun _ _ h => rb rfl rfl h.1 (fun hgt => x_not rfl (h.2.1.1 hgt)) (fun _ z => z),
      fun _ _ h => rb rfl rfl h.1 (fun hgt => x_move rfl (h.2.1.1 hgt)) (fun _ z => z),
      fun _ _ h => rg rfl rfl h.1 (fun hgt => x_field rfl h.2.1 Try.underlying67 rfl sz65 (by decide) rfl) (fun _ z => z),
      fun _ _ h => rg rfl rfl h.1 (fun hgt => x_loadS rfl (h.2.1.1 hgt) Try.underlying65 [.int .i64 o.att, .int .i64 o.ata] sz65 (blk_list (L := opc o A c) (blk_below HBX1 h.2.2.1) 8 rfl)) (fun _ z => z),
      fun _ _ h => rg rfl rfl h.1 (fun hgt => x_loadS rfl h.2.1 Try.underlying65 [.int .i64 o.time, .int .i64 o.actor] sz65 (blk_list (L := [.int .i64 o.time, .int .i64 o.actor]) (blk_below HBX3 h.2.2.1) 0 rfl)) (fun _ z => z),
      fun _ _ h => rcg hgrow rfl rfl h.1 Try.func108 (by kernel_rfl) rfl rfl (fun hgt => args2 (h.2.1.1 hgt) (h.2.2.1.1 hgt)) (fun hgt => sLess_calls o.att o.ata o.time o.actor _) (fun _ _ _ h => h) (fun _ _ z => z),
      fun _ _ h => rg rfl rfl h.1 (fun hgt => x_not rfl (h.2.1.1 hgt)) (fun _ z => z),
      fun _ _ h => rb rfl rfl h.1 (fun hgt => x_or rfl rfl (h.2.1.1 hgt) (fun hc => h.2.2.1.1 (Bool.and_eq_true _ _ ▸ ⟨hgt, beq_iff_eq.2 hc⟩))) (fun _ z => z),
      fun _ _ h => rv rfl (x_and rfl rfl h.1 (fun hc => h.2.1.1 (beq_iff_eq.2 hc))) rfl, trivial⟩) ?_
    clear s1 s3 s82
    clear hN hD
    rintro a6 w6 hN hD ⟨s99, s1, s3, hGR, -⟩
    replace HB := below_step HB hGR
    replace HBX1 := blk_below HBX1 hGR
    replace HBX3 := blk_below HBX3 hGR
    clear hGR
    show Code.wp _ _ _ _ _
    refine wp_cond (t := (!(noneT o.att o.ata)) && ((!(stampOK o.att o.ata)) || (!(lessT o.att o.ata o.time o.actor)))) s99 ?_
    rcases Bool.eq_false_or_eq_true ((!(noneT o.att o.ata)) && ((!(stampOK o.att o.ata)) || (!(lessT o.att o.ata o.time o.actor)))) with cd7 | cd7
    · rw [cd7]
      show Code.wp _ _ _ _ _
      refine wp_seq ?_
      refine deedL [.eq 2 (.bool false), .w (Below w6.heap.size w6)] 150 [[]] [] [0, 1] hM hN hD (by kernel_rfl) ⟨⟨Below.refl _ _, below_drew (Below.refl _ _)⟩, trivial⟩ ⟨fun _ _ hb h => below_step h hb, trivial⟩ (fun hgrow => ⟨fun _ _ _ => rv rfl (x_assign rfl rfl) rfl, trivial⟩) ?_
      clear s1 s3 s99
      clear hN hD
      rintro a8 w8 hN hD ⟨s2, hGR, -⟩
      replace HB := below_step HB hGR
      replace HBX1 := blk_below HBX1 hGR
      replace HBX3 := blk_below HBX3 hGR
      clear hGR
      show Code.wp _ _ _ _ _
      refine wp_ret (then_ret ?_)
      refine bodyPost_ret (results_single rfl (vtmp s2 .nil)) hD ?_
      exact ⟨by simp only [sOp, cd4, cd7, if_true, if_false, Bool.false_eq_true], HB⟩
    · rw [cd7]
      show Code.wp _ _ _ _ _
      refine wp_skip ?_
      show Code.wp _ _ _ _ _
      refine wp_seq ?_
      refine deedL [.eq 100 (.pointer (some ⟨g1, 10, none⟩)), .eq 101 (.string o.key), .eq 102 (.bool (o.key.toList == (⟨#[]⟩ : ByteArray).toList)), .eq 103 (.bool (o.key.toList == (⟨#[]⟩ : ByteArray).toList)), .gv (((o.key.toList == (⟨#[]⟩ : ByteArray).toList) == true)) 104 (.pointer (some ⟨g1, 11, none⟩)), .gv (((o.key.toList == (⟨#[]⟩ : ByteArray).toList) == true)) 105 (.string o.text), .gv (((o.key.toList == (⟨#[]⟩ : ByteArray).toList) == true)) 106 (.bool (o.text.toList == (⟨#[]⟩ : ByteArray).toList)), .eq 107 (.bool ((o.key.toList == (⟨#[]⟩ : ByteArray).toList) && (o.text.toList == (⟨#[]⟩ : ByteArray).toList))), .eq 4 (.bool ((o.key.toList == (⟨#[]⟩ : ByteArray).toList) && (o.text.toList == (⟨#[]⟩ : ByteArray).toList))), .eq 1 (.pointer (some ⟨g1, 0, none⟩)), .w (Below w6.heap.size w6)] 150 [[9], [0, 10], [1], [2], [3, 9], [3, 4, 10], [3, 5], [3, 6], [7]] [] [8, 9, 10] hM hN hD (by kernel_rfl) ⟨s1, ⟨Below.refl _ _, below_drew (Below.refl _ _)⟩, trivial⟩ ⟨fun _ _ hb h => below_step h hb, trivial⟩ (fun hgrow => ⟨fun _ _ h => rv rfl (x_field rfl h.1 Try.underlying67 rfl sz9 (by decide) rfl) rfl,
        fun _ _ h => rv rfl (x_load1 rfl h.1 Try.underlying9 rfl (blk_one (L := opc o A c) (blk_below HBX1 h.2.1) 10 rfl)) rfl,
        fun _ _ h => rv rfl (x_seql rfl h.1 rfl) rfl,
        fun _ _ h => rv rfl (x_move rfl h.1) rfl,
        fun _ _ h => rb rfl rfl h.1 (fun hgt => x_field rfl h.2.1 Try.underlying67 rfl sz9 (by decide) rfl) (fun _ z => z),
        fun _ _ h => rb rfl rfl h.1 (fun hgt => x_load1 rfl (h.2.1.1 hgt) Try.underlying9 rfl (blk_one (L := opc o A c) (blk_below HBX1 h.2.2.1) 11 rfl)) (fun _ z => z),
        fun _ _ h => rb rfl rfl h.1 (fun hgt => x_seql rfl (h.2.1.1 hgt) rfl) (fun _ z => z),
        fun _ _ h => rv rfl (x_and rfl rfl h.1 (fun hc => h.2.1.1 (beq_iff_eq.2 hc))) rfl,
        fun _ _ h => rv rfl (x_assign rfl h.1) rfl, trivial⟩) ?_
      clear s1 s3 s99
      clear hN hD
      rintro a9 w9 hN hD ⟨s4, s1, hGR, -⟩
      replace HB := below_step HB hGR
      replace HBX1 := blk_below HBX1 hGR
      replace HBX3 := blk_below HBX3 hGR
      clear hGR
      show Code.wp _ _ _ _ _
      refine wp_seq ?_
      refine wp_seq ?_
      refine deedL [.eq 108 (.pointer (some ⟨g1, 4, none⟩)), .eq 109 (.int .i64 o.kind), .eq 1 (.pointer (some ⟨g1, 0, none⟩)), .eq 4 (.bool ((o.key.toList == (⟨#[]⟩ : ByteArray).toList) && (o.text.toList == (⟨#[]⟩ : ByteArray).toList))), .w (Below w9.heap.size w9)] 150 [[2], [0, 4]] [] [1, 2, 3, 4] hM hN hD (by kernel_rfl) ⟨s1, s4, ⟨Below.refl _ _, below_drew (Below.refl _ _)⟩, trivial⟩ ⟨fun _ _ hb h => below_step h hb, trivial⟩ (fun hgrow => ⟨fun _ _ h => rv rfl (x_field rfl h.1 Try.underlying67 rfl sz3 (by decide) rfl) rfl,
        fun _ _ h => rv rfl (x_load1 rfl h.1 Try.underlying3 rfl (blk_one (L := opc o A c) (blk_below HBX1 h.2.1) 4 rfl)) rfl, trivial⟩) ?_
      clear s1 s4
      clear hN hD
      rintro a10 w10 hN hD ⟨s109, s1, s4, hGR, -⟩
      replace HB := below_step HB hGR
      replace HBX1 := blk_below HBX1 hGR
      replace HBX3 := blk_below HBX3 hGR
      clear hGR
      show Code.wp _ _ _ _ _
      refine wp_block ?_
      refine wp_seq ?_
      refine deedL [.eq 111 (.bool (o.kind == 1)), .eq 110 (.bool (o.kind == 1)), .eq 1 (.pointer (some ⟨g1, 0, none⟩)), .eq 4 (.bool ((o.key.toList == (⟨#[]⟩ : ByteArray).toList) && (o.text.toList == (⟨#[]⟩ : ByteArray).toList))), .eq 109 (.int .i64 o.kind), .w (Below w10.heap.size w10)] 150 [[4], [0]] [] [1, 2, 3, 4, 5] hM hN hD (by kernel_rfl) ⟨s1, s4, s109, ⟨Below.refl _ _, below_drew (Below.refl _ _)⟩, trivial⟩ ⟨fun _ _ hb h => below_step h hb, trivial⟩ (fun hgrow => ⟨fun _ _ h => rv rfl (x_eql rfl h.1 rfl) rfl,
        fun _ _ h => rv rfl (x_assign rfl h.1) rfl, trivial⟩) ?_
      clear s1 s4 s109
      clear hN hD
      rintro a11 w11 hN hD ⟨s110, s1, s4, s109, hGR, -⟩
      replace HB := below_step HB hGR
      replace HBX1 := blk_below HBX1 hGR
      replace HBX3 := blk_below HBX3 hGR
      clear hGR
      show Code.wp _ _ _ _ _
      refine wp_cond (t := o.kind == 1) s110 ?_
      rcases Bool.eq_false_or_eq_true (o.kind == 1) with cd12 | cd12
      · rw [cd12]
        show Code.wp _ _ _ _ _
        have pd12 := eq_of_beq cd12
        refine wp_seq ?_
        refine deedL [.eq 112 (.pointer (some ⟨g1, 6, none⟩)), .eq 113 (.int .i64 o.num), .eq 114 (.bool (o.num == 0)), .eq 115 (.bool (o.num == 0)), .gv (((o.num == 0) == true)) 116 (.pointer (some ⟨g1, 8, none⟩)), .gv (((o.num == 0) == true)) 117 (.agg #[Value.int .i64 o.att, Value.int .i64 o.ata]), .gv (((o.num == 0) == true)) 118 (.bool (noneT o.att o.ata)), .eq 119 (.bool ((o.num == 0) && (noneT o.att o.ata))), .eq 2 (.bool ((o.num == 0) && (noneT o.att o.ata))), .eq 1 (.pointer (some ⟨g1, 0, none⟩)), .w (Below w11.heap.size w11)] 150 [[9], [0, 10], [1], [2], [3, 9], [3, 4, 10], [3, 5], [3, 6], [7]] [] [8, 9, 10] hM hN hD (by kernel_rfl) ⟨s1, ⟨Below.refl _ _, below_drew (Below.refl _ _)⟩, trivial⟩ ⟨fun _ _ hb h => below_step h hb, trivial⟩ (fun hgrow => ⟨fun _ _ h => rv rfl (x_field rfl h.1 Try.underlying67 rfl sz3 (by decide) rfl) rfl,
          fun _ _ h => rv rfl (x_load1 rfl h.1 Try.underlying3 rfl (blk_one (L := opc o A c) (blk_below HBX1 h.2.1) 6 rfl)) rfl,
          fun _ _ h => rv rfl (x_eql rfl h.1 rfl) rfl,
          fun _ _ h => rv rfl (x_move rfl h.1) rfl,
          fun _ _ h => rb rfl rfl h.1 (fun hgt => x_field rfl h.2.1 Try.underlying67 rfl sz65 (by decide) rfl) (fun _ z => z),
          fun _ _ h => rb rfl rfl h.1 (fun hgt => x_loadS rfl (h.2.1.1 hgt) Try.underlying65 [.int .i64 o.att, .int .i64 o.ata] sz65 (blk_list (L := opc o A c) (blk_below HBX1 h.2.2.1) 8 rfl)) (fun _ z => z),
          fun _ _ h => rcb hgrow rfl rfl h.1 Try.func107 (by kernel_rfl) rfl rfl (fun hgt => args1 (h.2.1.1 hgt)) (fun hgt => sNone_calls o.att o.ata _) (fun _ _ _ h => h) (fun _ _ z => z),
          fun _ _ h => rv rfl (x_and rfl rfl h.1 (fun hc => h.2.1.1 (beq_iff_eq.2 hc))) rfl,
          fun _ _ h => rv rfl (x_assign rfl h.1) rfl, trivial⟩) ?_
        clear s1 s4 s109 s110
        clear hN hD
        rintro a13 w13 hN hD ⟨s2, s1, hGR, -⟩
        replace HB := below_step HB hGR
        replace HBX1 := blk_below HBX1 hGR
        replace HBX3 := blk_below HBX3 hGR
        clear hGR
        show Code.wp _ _ _ _ _
        refine wp_ret (blk_ret (then_ret ?_))
        refine bodyPost_ret (results_single rfl (vtmp s2 .nil)) hD ?_
        exact ⟨by simp only [sOp, cd4, cd7, cd12, if_true, if_false, Bool.false_eq_true], HB⟩
      · rw [cd12]
        show Code.wp _ _ _ _ _
        have pd12 := ne_of_beq_false cd12
        refine wp_seq ?_
        refine deedL [.eq 121 (.bool (o.kind == 2)), .eq 120 (.bool (o.kind == 2)), .eq 1 (.pointer (some ⟨g1, 0, none⟩)), .eq 4 (.bool ((o.key.toList == (⟨#[]⟩ : ByteArray).toList) && (o.text.toList == (⟨#[]⟩ : ByteArray).toList))), .eq 109 (.int .i64 o.kind), .w (Below w11.heap.size w11)] 150 [[4], [0]] [] [1, 2, 3, 4, 5] hM hN hD (by kernel_rfl) ⟨s1, s4, s109, ⟨Below.refl _ _, below_drew (Below.refl _ _)⟩, trivial⟩ ⟨fun _ _ hb h => below_step h hb, trivial⟩ (fun hgrow => ⟨fun _ _ h => rv rfl (x_eql rfl h.1 rfl) rfl,
          fun _ _ h => rv rfl (x_assign rfl h.1) rfl, trivial⟩) ?_
        clear s1 s4 s109 s110
        clear hN hD
        rintro a14 w14 hN hD ⟨s120, s1, s4, s109, hGR, -⟩
        replace HB := below_step HB hGR
        replace HBX1 := blk_below HBX1 hGR
        replace HBX3 := blk_below HBX3 hGR
        clear hGR
        show Code.wp _ _ _ _ _
        refine wp_cond (t := o.kind == 2) s120 ?_
        rcases Bool.eq_false_or_eq_true (o.kind == 2) with cd15 | cd15
        · rw [cd15]
          show Code.wp _ _ _ _ _
          have pd15 := eq_of_beq cd15
          refine wp_seq ?_
          refine deedL [.eq 122 (.bool ((o.key.toList == (⟨#[]⟩ : ByteArray).toList) && (o.text.toList == (⟨#[]⟩ : ByteArray).toList))), .eq 123 (.bool ((o.key.toList == (⟨#[]⟩ : ByteArray).toList) && (o.text.toList == (⟨#[]⟩ : ByteArray).toList))), .gv ((((o.key.toList == (⟨#[]⟩ : ByteArray).toList) && (o.text.toList == (⟨#[]⟩ : ByteArray).toList)) == true)) 124 (.pointer (some ⟨g1, 6, none⟩)), .gv ((((o.key.toList == (⟨#[]⟩ : ByteArray).toList) && (o.text.toList == (⟨#[]⟩ : ByteArray).toList)) == true)) 125 (.int .i64 o.num), .gv ((((o.key.toList == (⟨#[]⟩ : ByteArray).toList) && (o.text.toList == (⟨#[]⟩ : ByteArray).toList)) == true)) 126 (.bool (charOK o.num)), .eq 127 (.bool (((o.key.toList == (⟨#[]⟩ : ByteArray).toList) && (o.text.toList == (⟨#[]⟩ : ByteArray).toList)) && (charOK o.num))), .eq 2 (.bool (((o.key.toList == (⟨#[]⟩ : ByteArray).toList) && (o.text.toList == (⟨#[]⟩ : ByteArray).toList)) && (charOK o.num))), .eq 1 (.pointer (some ⟨g1, 0, none⟩)), .eq 4 (.bool ((o.key.toList == (⟨#[]⟩ : ByteArray).toList) && (o.text.toList == (⟨#[]⟩ : ByteArray).toList))), .w (Below w14.heap.size w14)] 150 [[8], [0], [1, 7], [1, 2, 9], [1, 3], [1, 4], [5]] [] [6, 7, 8, 9] hM hN hD (by kernel_rfl) ⟨s1, s4, ⟨Below.refl _ _, below_drew (Below.refl _ _)⟩, trivial⟩ ⟨fun _ _ hb h => below_step h hb, trivial⟩ (fun hgrow => ⟨fun _ _ h => rv rfl (x_move rfl h.1) rfl,
            fun _ _ h => rv rfl (x_move rfl h.1) rfl,
            fun _ _ h => rb rfl rfl h.1 (fun hgt => x_field rfl h.2.1 Try.underlying67 rfl sz3 (by decide) rfl) (fun _ z => z),
            fun _ _ h => rb rfl rfl h.1 (fun hgt => x_load1 rfl (h.2.1.1 hgt) Try.underlying3 rfl (blk_one (L := opc o A c) (blk_below HBX1 h.2.2.1) 6 rfl)) (fun _ z => z),
            fun _ _ h => rcb hgrow rfl rfl h.1 Try.func109 (by kernel_rfl) rfl rfl (fun hgt => args1 (h.2.1.1 hgt)) (fun hgt => sChar_calls o.num _) (fun _ _ _ h => h) (fun _ _ z => z),
            fun _ _ h => rv rfl (x_and rfl rfl h.1 (fun hc => h.2.1.1 (beq_iff_eq.2 hc))) rfl,
            fun _ _ h => rv rfl (x_assign rfl h.1) rfl, trivial⟩) ?_
          clear s1 s4 s109 s120
          clear hN hD
          rintro a16 w16 hN hD ⟨s2, s1, s4, hGR, -⟩
          replace HB := below_step HB hGR
          replace HBX1 := blk_below HBX1 hGR
          replace HBX3 := blk_below HBX3 hGR
          clear hGR
          show Code.wp _ _ _ _ _
          refine wp_ret (blk_ret (then_ret ?_))
          refine bodyPost_ret (results_single rfl (vtmp s2 .nil)) hD ?_
          exact ⟨by simp only [sOp, cd4, cd7, cd12, cd15, if_true, if_false, Bool.false_eq_true], HB⟩
        · rw [cd15]
          show Code.wp _ _ _ _ _
          have pd15 := ne_of_beq_false cd15
          refine wp_seq ?_
          refine deedL [.eq 129 (.bool (o.kind == 3)), .eq 128 (.bool (o.kind == 3)), .eq 1 (.pointer (some ⟨g1, 0, none⟩)), .eq 4 (.bool ((o.key.toList == (⟨#[]⟩ : ByteArray).toList) && (o.text.toList == (⟨#[]⟩ : ByteArray).toList))), .eq 109 (.int .i64 o.kind), .w (Below w14.heap.size w14)] 150 [[4], [0]] [] [1, 2, 3, 4, 5] hM hN hD (by kernel_rfl) ⟨s1, s4, s109, ⟨Below.refl _ _, below_drew (Below.refl _ _)⟩, trivial⟩ ⟨fun _ _ hb h => below_step h hb, trivial⟩ (fun hgrow => ⟨fun _ _ h => rv rfl (x_eql rfl h.1 rfl) rfl,
            fun _ _ h => rv rfl (x_assign rfl h.1) rfl, trivial⟩) ?_
          clear s1 s4 s109 s120
          clear hN hD
          rintro a17 w17 hN hD ⟨s128, s1, s4, s109, hGR, -⟩
          replace HB := below_step HB hGR
          replace HBX1 := blk_below HBX1 hGR
          replace HBX3 := blk_below HBX3 hGR
          clear hGR
          show Code.wp _ _ _ _ _
          refine wp_cond (t := o.kind == 3) s128 ?_
          rcases Bool.eq_false_or_eq_true (o.kind == 3) with cd18 | cd18
          · rw [cd18]
            show Code.wp _ _ _ _ _
            have pd18 := eq_of_beq cd18
            refine wp_seq ?_
            refine deedL (.eq 130 (.bool ((o.key.toList == (⟨#[]⟩ : ByteArray).toList) && (o.text.toList == (⟨#[]⟩ : ByteArray).toList))) :: .eq 131 (.bool ((o.key.toList == (⟨#[]⟩ : ByteArray).toList) && (o.text.toList == (⟨#[]⟩ : ByteArray).toList))) :: .gv ((((o.key.toList == (⟨#[]⟩ : ByteArray).toList) && (o.text.toList == (⟨#[]⟩ : ByteArray).toList)) == true)) 132 (.pointer (some ⟨g1, 6, none⟩)) :: .gv ((((o.key.toList == (⟨#[]⟩ : ByteArray).toList) && (o.text.toList == (⟨#[]⟩ : ByteArray).toList)) == true)) 133 (.int .i64 o.num) :: .gv ((((o.key.toList == (⟨#[]⟩ : ByteArray).toList) && (o.text.toList == (⟨#[]⟩ : ByteArray).toList)) == true)) 134 (.bool (o.num == 0)) :: .eq 135 (.bool (((o.key.toList == (⟨#[]⟩ : ByteArray).toList) && (o.text.toList == (⟨#[]⟩ : ByteArray).toList)) && (o.num == 0))) :: .eq 136 (.bool (((o.key.toList == (⟨#[]⟩ : ByteArray).toList) && (o.text.toList == (⟨#[]⟩ : ByteArray).toList)) && (o.num == 0))) :: .gv (((((o.key.toList == (⟨#[]⟩ : ByteArray).toList) && (o.text.toList == (⟨#[]⟩ : ByteArray).toList)) && (o.num == 0)) == true)) 137 (.pointer (some ⟨g1, 8, none⟩)) :: .gv (((((o.key.toList == (⟨#[]⟩ : ByteArray).toList) && (o.text.toList == (⟨#[]⟩ : ByteArray).toList)) && (o.num == 0)) == true)) 138 (.agg #[Value.int .i64 o.att, Value.int .i64 o.ata]) :: .gv (((((o.key.toList == (⟨#[]⟩ : ByteArray).toList) && (o.text.toList == (⟨#[]⟩ : ByteArray).toList)) && (o.num == 0)) == true)) 139 (.bool (noneT o.att o.ata)) :: .gv (((((o.key.toList == (⟨#[]⟩ : ByteArray).toList) && (o.text.toList == (⟨#[]⟩ : ByteArray).toList)) && (o.num == 0)) == true)) 140 (.bool (!(noneT o.att o.ata))) :: .eq 141 (.bool ((((o.key.toList == (⟨#[]⟩ : ByteArray).toList) && (o.text.toList == (⟨#[]⟩ : ByteArray).toList)) && (o.num == 0)) && (!(noneT o.att o.ata)))) :: .eq 2 (.bool ((((o.key.toList == (⟨#[]⟩ : ByteArray).toList) && (o.text.toList == (⟨#[]⟩ : ByteArray).toList)) && (o.num == 0)) && (!(noneT o.att o.ata)))) :: .eq 1 (.pointer (some ⟨g1, 0, none⟩)) :: .eq 4 (.bool ((o.key.toList == (⟨#[]⟩ : ByteArray).toList) && (o.text.toList == (⟨#[]⟩ : ByteArray).toList))) :: .w (Below w17.heap.size w17) :: []) 150 [[14], [0], [1, 13], [1, 2, 15], [1, 3], [1, 4], [5], [6, 13], [6, 7, 15], [6, 8], [6, 9], [6, 10], [11]] [] [12, 13, 14, 15] hM hN hD (by kernel_rfl) ⟨s1, s4, ⟨Below.refl _ _, below_drew (Below.refl _ _)⟩, trivial⟩ ⟨fun _ _ hb h => below_step h hb, trivial⟩ (fun hgrow => ⟨fun _ _ h => rv rfl (x_move rfl h.1) rfl,
              fun _ _ h => rv rfl (x_move rfl h.1) rfl,
              fun _ _ h => rb rfl rfl h.1 (fun hgt => x_field rfl h.2.1 Try.underlying67 rfl sz3 (by decide) rfl) (fun _ z => z),
              fun _ _ h => rb rfl rfl h.1 (fun hgt => x_load1 rfl (h.2.1.1 hgt) Try.underlying3 rfl (blk_one (L := opc o A c) (blk_below HBX1 h.2.2.1) 6 rfl)) (fun _ z => z),
              fun _ _ h => rb rfl rfl h.1 (fun hgt => x_eql rfl (h.2.1.1 hgt) rfl) (fun _ z => z),
              fun _ _ h => rv rfl (x_and rfl rfl h.1 (fun hc => h.2.1.1 (beq_iff_eq.2 hc))) rfl,
              fun _ _ h => rv rfl (x_move rfl h.1) rfl,
              fun _ _ h => rb rfl rfl h.1 (fun hgt => x_field rfl h.2.1 Try.underlying67 rfl sz65 (by decide) rfl) (fun _ z => z),
              fun _ _ h => rb rfl rfl h.1 (fun hgt => x_loadS rfl (h.2.1.1 hgt) Try.underlying65 [.int .i64 o.att, .int .i64 o.ata] sz65 (blk_list (L := opc o A c) (blk_below HBX1 h.2.2.1) 8 rfl)) (fun _ z => z),
              fun _ _ h => rcb hgrow rfl rfl h.1 Try.func107 (by kernel_rfl) rfl rfl (fun hgt => args1 (h.2.1.1 hgt)) (fun hgt => sNone_calls o.att o.ata _) (fun _ _ _ h => h) (fun _ _ z => z),
              fun _ _ h => rb rfl rfl h.1 (fun hgt => x_not rfl (h.2.1.1 hgt)) (fun _ z => z),
              fun _ _ h => rv rfl (x_and rfl rfl h.1 (fun hc => h.2.1.1 (beq_iff_eq.2 hc))) rfl,
              fun _ _ h => rv rfl (x_assign rfl h.1) rfl, trivial⟩) ?_
            clear s1 s4 s109 s128
            clear hN hD
            rintro a19 w19 hN hD ⟨s2, s1, s4, hGR, -⟩
            replace HB := below_step HB hGR
            replace HBX1 := blk_below HBX1 hGR
            replace HBX3 := blk_below HBX3 hGR
            clear hGR
            show Code.wp _ _ _ _ _
            refine wp_ret (blk_ret (then_ret ?_))
            refine bodyPost_ret (results_single rfl (vtmp s2 .nil)) hD ?_
            exact ⟨by simp only [sOp, cd4, cd7, cd12, cd15, cd18, if_true, if_false, Bool.false_eq_true], HB⟩
          · rw [cd18]
            show Code.wp _ _ _ _ _
            have pd18 := ne_of_beq_false cd18
            refine wp_seq ?_
            refine deedL [.eq 143 (.bool (o.kind == 4)), .eq 142 (.bool (o.kind == 4)), .eq 1 (.pointer (some ⟨g1, 0, none⟩)), .eq 4 (.bool ((o.key.toList == (⟨#[]⟩ : ByteArray).toList) && (o.text.toList == (⟨#[]⟩ : ByteArray).toList))), .eq 109 (.int .i64 o.kind), .w (Below w17.heap.size w17)] 150 [[4], [0]] [] [1, 2, 3, 4, 5] hM hN hD (by kernel_rfl) ⟨s1, s4, s109, ⟨Below.refl _ _, below_drew (Below.refl _ _)⟩, trivial⟩ ⟨fun _ _ hb h => below_step h hb, trivial⟩ (fun hgrow => ⟨fun _ _ h => rv rfl (x_eql rfl h.1 rfl) rfl,
              fun _ _ h => rv rfl (x_assign rfl h.1) rfl, trivial⟩) ?_
            clear s1 s4 s109 s128
            clear hN hD
            rintro a20 w20 hN hD ⟨s142, s1, s4, s109, hGR, -⟩
            replace HB := below_step HB hGR
            replace HBX1 := blk_below HBX1 hGR
            replace HBX3 := blk_below HBX3 hGR
            clear hGR
            show Code.wp _ _ _ _ _
            refine wp_cond (t := o.kind == 4) s142 ?_
            rcases Bool.eq_false_or_eq_true (o.kind == 4) with cd21 | cd21
            · rw [cd21]
              show Code.wp _ _ _ _ _
              have pd21 := eq_of_beq cd21
              refine wp_seq ?_
              refine deedL [.eq 144 (.bool ((o.key.toList == (⟨#[]⟩ : ByteArray).toList) && (o.text.toList == (⟨#[]⟩ : ByteArray).toList))), .eq 145 (.bool ((o.key.toList == (⟨#[]⟩ : ByteArray).toList) && (o.text.toList == (⟨#[]⟩ : ByteArray).toList))), .gv ((((o.key.toList == (⟨#[]⟩ : ByteArray).toList) && (o.text.toList == (⟨#[]⟩ : ByteArray).toList)) == true)) 146 (.pointer (some ⟨g1, 8, none⟩)), .gv ((((o.key.toList == (⟨#[]⟩ : ByteArray).toList) && (o.text.toList == (⟨#[]⟩ : ByteArray).toList)) == true)) 147 (.agg #[Value.int .i64 o.att, Value.int .i64 o.ata]), .gv ((((o.key.toList == (⟨#[]⟩ : ByteArray).toList) && (o.text.toList == (⟨#[]⟩ : ByteArray).toList)) == true)) 148 (.bool (noneT o.att o.ata)), .eq 149 (.bool (((o.key.toList == (⟨#[]⟩ : ByteArray).toList) && (o.text.toList == (⟨#[]⟩ : ByteArray).toList)) && (noneT o.att o.ata))), .eq 2 (.bool (((o.key.toList == (⟨#[]⟩ : ByteArray).toList) && (o.text.toList == (⟨#[]⟩ : ByteArray).toList)) && (noneT o.att o.ata))), .eq 1 (.pointer (some ⟨g1, 0, none⟩)), .eq 4 (.bool ((o.key.toList == (⟨#[]⟩ : ByteArray).toList) && (o.text.toList == (⟨#[]⟩ : ByteArray).toList))), .w (Below w20.heap.size w20)] 150 [[8], [0], [1, 7], [1, 2, 9], [1, 3], [1, 4], [5]] [] [6, 7, 8, 9] hM hN hD (by kernel_rfl) ⟨s1, s4, ⟨Below.refl _ _, below_drew (Below.refl _ _)⟩, trivial⟩ ⟨fun _ _ hb h => below_step h hb, trivial⟩ (fun hgrow => ⟨fun _ _ h => rv rfl (x_move rfl h.1) rfl,
                fun _ _ h => rv rfl (x_move rfl h.1) rfl,
                fun _ _ h => rb rfl rfl h.1 (fun hgt => x_field rfl h.2.1 Try.underlying67 rfl sz65 (by decide) rfl) (fun _ z => z),
                fun _ _ h => rb rfl rfl h.1 (fun hgt => x_loadS rfl (h.2.1.1 hgt) Try.underlying65 [.int .i64 o.att, .int .i64 o.ata] sz65 (blk_list (L := opc o A c) (blk_below HBX1 h.2.2.1) 8 rfl)) (fun _ z => z),
                fun _ _ h => rcb hgrow rfl rfl h.1 Try.func107 (by kernel_rfl) rfl rfl (fun hgt => args1 (h.2.1.1 hgt)) (fun hgt => sNone_calls o.att o.ata _) (fun _ _ _ h => h) (fun _ _ z => z),
                fun _ _ h => rv rfl (x_and rfl rfl h.1 (fun hc => h.2.1.1 (beq_iff_eq.2 hc))) rfl,
                fun _ _ h => rv rfl (x_assign rfl h.1) rfl, trivial⟩) ?_
              clear s1 s4 s109 s142
              clear hN hD
              rintro a22 w22 hN hD ⟨s2, s1, s4, hGR, -⟩
              replace HB := below_step HB hGR
              replace HBX1 := blk_below HBX1 hGR
              replace HBX3 := blk_below HBX3 hGR
              clear hGR
              show Code.wp _ _ _ _ _
              refine wp_ret (blk_ret (then_ret ?_))
              refine bodyPost_ret (results_single rfl (vtmp s2 .nil)) hD ?_
              exact ⟨by simp only [sOp, cd4, cd7, cd12, cd15, cd18, cd21, if_true, if_false, Bool.false_eq_true], HB⟩
            · rw [cd21]
              show Code.wp _ _ _ _ _
              have pd21 := ne_of_beq_false cd21
              refine wp_skip ?_
              show Code.wp _ _ _ _ _
              refine wp_seq ?_
              refine deedL [.eq 2 (.bool false), .w (Below w20.heap.size w20)] 150 [[]] [] [0, 1] hM hN hD (by kernel_rfl) ⟨⟨Below.refl _ _, below_drew (Below.refl _ _)⟩, trivial⟩ ⟨fun _ _ hb h => below_step h hb, trivial⟩ (fun hgrow => ⟨fun _ _ _ => rv rfl (x_assign rfl rfl) rfl, trivial⟩) ?_
              clear s1 s4 s109 s142
              clear hN hD
              rintro a23 w23 hN hD ⟨s2, hGR, -⟩
              replace HB := below_step HB hGR
              replace HBX1 := blk_below HBX1 hGR
              replace HBX3 := blk_below HBX3 hGR
              clear hGR
              show Code.wp _ _ _ _ _
              refine wp_ret ?_
              refine bodyPost_ret (results_single rfl (vtmp s2 .nil)) hD ?_
              exact ⟨by simp only [sOp, cd4, cd7, cd12, cd15, cd18, cd21, if_true, if_false, Bool.false_eq_true], HB⟩
end Go.Proofs.Ytideafkiaipnoaa.Q
