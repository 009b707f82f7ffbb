/- What the law needs, part 4 of 6. -/
import Derived.Test.YtideafkiaipnoaaZt1
import Derived.Test.YtideafkiaipnoaaZt2
import Derived.Test.YtideafkiaipnoaaZt0
/- Functions walked. -/
namespace Go.Proofs.Ytideafkiaipnoaa.Q
open Go Go.RowKit Go.Proofs.YtideafkiaipnoaaW.PrintWords Go.Proofs.YtideafkiaipnoaaW.PrintLast Go.Proofs.Ytideafkiaipnoaa.Deed
set_option maxRecDepth 100000
set_option linter.unusedVariables false
set_option linter.unusedSimpArgs false
noncomputable def sOp (o : Op) : Bool :=
 if (((((((((((((!(stampOK o.time o.actor)) || (decide (o.seq < 1))) || (decide (1000000000000 < o.seq))) || (!(vecOK o.deps))) || ((gi o.deps o.actor) != (o.seq - 1))) || (decide (o.obj < 1))) || (decide (100 < o.obj))) || (decide (o.num < -1000000000000))) || (decide (1000000000000 < o.num))) || (decide (o.undo < 0))) || (decide (o.seq ≤ o.undo))) || (decide (200 < (o.key.size : Int)))) || (decide (200 < (o.text.size : Int)))) = true then false else (if ((!(noneT o.att o.ata)) && ((!(stampOK o.att o.ata)) || (!(lessT o.att o.ata o.time o.actor)))) = true then false else (if (o.kind == 1) = true then ((o.num == 0) && (noneT o.att o.ata)) else (if (o.kind == 2) = true then (((o.key.toList == (⟨#[]⟩ : ByteArray).toList) && (o.text.toList == (⟨#[]⟩ : ByteArray).toList)) && (charOK o.num)) else (if (o.kind == 3) = true then ((((o.key.toList == (⟨#[]⟩ : ByteArray).toList) && (o.text.toList == (⟨#[]⟩ : ByteArray).toList)) && (o.num == 0)) && (!(noneT o.att o.ata))) else (if (o.kind == 4) = true then (((o.key.toList == (⟨#[]⟩ : ByteArray).toList) && (o.text.toList == (⟨#[]⟩ : ByteArray).toList)) && (noneT o.att o.ata)) else false)))))
set_option maxHeartbeats 2000000 in
theorem sOp_calls (o : Op) (w : World) (A : Option Addr) (c : Nat) (HR : RI w A o.deps) : Calls Try.prog 82 #[.agg (opc o A c).toArray] w fun e w' => e = .returned (.bool (sOp o)) ∧ Below w.heap.size w w' := by
  refine calls_of_wp Try.func82 rfl ?_
  refine enter_ (N := 150) rfl ?_
  rintro a0 hN hD ⟨s0, -⟩
  have HB : Below w.heap.size w w := Below.refl _ _
  refine wp_seq ?_
  refine deedL [.s1 1 (NewB w.heap.size (opc o A c) 67), .eq 2 (.bool false), .eq 0 (.agg (opc o A c).toArray), .w (Below w.heap.size w)] 150 [[3, 2], []] [] [0, 2, 3] hM hN hD (by kernel_rfl) ⟨s0, ⟨Below.refl _ _, below_drew (Below.refl _ _)⟩, trivial⟩ ⟨fun _ _ _ hb h => h.grow hb, fun _ _ hb h => below_step h hb, trivial⟩ (fun hgrow => ⟨fun _ _ h => rbox hgrow rfl (x_box rfl h.2.1) h.1.size (fun _ _ z => z),
    fun _ _ _ => rv rfl (x_assign rfl rfl) rfl, trivial⟩) ?_
  clear s0
  clear hN hD
  rintro a1 w1 hN hD ⟨⟨g1, s1, lg1, HBX1⟩, s0, hGR, -⟩
  replace HB := below_step HB hGR
  clear hGR
  show Code.wp _ _ _ _ _
  refine wp_seq ?_
  refine deedL [.eq 5 (.agg (opc o A c).toArray), .eq 6 (.agg #[Value.int .i64 o.time, Value.int .i64 o.actor]), .s1 3 (NewB w1.heap.size [.int .i64 0, .int .i64 0] 65), .s1 3 (NewB w1.heap.size [.int .i64 o.time, .int .i64 o.actor] 65), .eq 1 (.pointer (some ⟨g1, 0, none⟩)), .w (Below w1.heap.size w1)] 150 [[4, 5], [0], [5], [2, 1, 5]] [[], [], [], [2]] [3, 4, 5] hM hN hD (by kernel_rfl) ⟨s1, ⟨Below.refl _ _, below_drew (Below.refl _ _)⟩, trivial⟩ ⟨fun _ _ _ hb h => h.grow hb, fun _ _ _ hb h => h.grow hb, fun _ _ hb h => below_step h hb, trivial⟩ (fun hgrow => ⟨fun _ _ h => rv rfl (x_loadS rfl h.1 Try.underlying67 (opc o A c) sz67 (blk_list (L := opc o A c) (blk_below HBX1 h.2.1) 0 rfl)) rfl,
    fun _ _ h => rc hgrow rfl Try.func105 (by kernel_rfl) rfl rfl (args1 h.1) (sStamp_calls o A c _) (fun _ _ h => ⟨_, h.1, h.2, rfl⟩),
    fun _ _ h => rbox hgrow rfl (x_alloc rfl zr65) h.1.size (fun _ _ z => z),
    ?_, trivial⟩) ?_
  · rintro a_ W ⟨h2, h1, h5, -⟩
    obtain ⟨g3, e3, l3, hb3⟩ := h2
    exact rstoreS rfl rfl e3 h1 (by simp [Value.oneCell']) sz65 hb3 rfl ⟨_, e3, l3, blk_stored (cs := [.int .i64 o.time, .int .i64 o.actor]) 0 _ [.int .i64 0, .int .i64 0] hb3 (of_decide_eq_true rfl)⟩ ⟨fun h => below_cells h l3, trivial⟩
  clear s0 s1
  clear hN hD
  rintro a2 w2 hN hD ⟨⟨g3, s3, lg3, HBX3⟩, s1, hGR, -⟩
  replace lg3 := Nat.le_trans HB.size lg3
  replace HB := below_step HB hGR
  replace HBX1 := blk_below HBX1 hGR
  clear hGR
  show Code.wp _ _ _ _ _
  refine wp_seq ?_
  refine wp_seq ?_
  refine deedL (.eq 7 (.agg #[Value.int .i64 o.time, Value.int .i64 o.actor]) :: .eq 8 (.bool (stampOK o.time o.actor)) :: .eq 9 (.bool (!(stampOK o.time o.actor))) :: .eq 10 (.bool (!(stampOK o.time o.actor))) :: .gv (((!(stampOK o.time o.actor)) == false)) 11 (.pointer (some ⟨g1, 1, none⟩)) :: .gv (((!(stampOK o.time o.actor)) == false)) 12 (.int .i64 o.seq) :: .gv (((!(stampOK o.time o.actor)) == false)) 13 (.bool (decide (o.seq < 1))) :: .eq 14 (.bool ((!(stampOK o.time o.actor)) || (decide (o.seq < 1)))) :: .eq 15 (.bool ((!(stampOK o.time o.actor)) || (decide (o.seq < 1)))) :: .gv ((((!(stampOK o.time o.actor)) || (decide (o.seq < 1))) == false)) 16 (.pointer (some ⟨g1, 1, none⟩)) :: .gv ((((!(stampOK o.time o.actor)) || (decide (o.seq < 1))) == false)) 17 (.int .i64 o.seq) :: .gv ((((!(stampOK o.time o.actor)) || (decide (o.seq < 1))) == false)) 18 (.bool (decide (1000000000000 < o.seq))) :: .eq 19 (.bool (((!(stampOK o.time o.actor)) || (decide (o.seq < 1))) || (decide (1000000000000 < o.seq)))) :: .eq 20 (.bool (((!(stampOK o.time o.actor)) || (decide (o.seq < 1))) || (decide (1000000000000 < o.seq)))) :: .gv (((((!(stampOK o.time o.actor)) || (decide (o.seq < 1))) || (decide (1000000000000 < o.seq))) == false)) 21 (.pointer (some ⟨g1, 3, none⟩)) :: .gv (((((!(stampOK o.time o.actor)) || (decide (o.seq < 1))) || (decide (1000000000000 < o.seq))) == false)) 22 (.agg #[Value.slice A o.deps.length c]) :: .gv (((((!(stampOK o.time o.actor)) || (decide (o.seq < 1))) || (decide (1000000000000 < o.seq))) == false)) 23 (.bool (vecOK o.deps)) :: .gv (((((!(stampOK o.time o.actor)) || (decide (o.seq < 1))) || (decide (1000000000000 < o.seq))) == false)) 24 (.bool (!(vecOK o.deps))) :: .eq 25 (.bool ((((!(stampOK o.time o.actor)) || (decide (o.seq < 1))) || (decide (1000000000000 < o.seq))) || (!(vecOK o.deps)))) :: .eq 26 (.bool ((((!(stampOK o.time o.actor)) || (decide (o.seq < 1))) || (decide (1000000000000 < o.seq))) || (!(vecOK o.deps)))) :: .gv ((((((!(stampOK o.time o.actor)) || (decide (o.seq < 1))) || (decide (1000000000000 < o.seq))) || (!(vecOK o.deps))) == false)) 27 (.pointer (some ⟨g1, 3, none⟩)) :: .gv ((((((!(stampOK o.time o.actor)) || (decide (o.seq < 1))) || (decide (1000000000000 < o.seq))) || (!(vecOK o.deps))) == false)) 28 (.pointer (some ⟨g1, 3, none⟩)) :: .gv ((((((!(stampOK o.time o.actor)) || (decide (o.seq < 1))) || (decide (1000000000000 < o.seq))) || (!(vecOK o.deps))) == false)) 29 (.slice A o.deps.length c) :: .gv ((((((!(stampOK o.time o.actor)) || (decide (o.seq < 1))) || (decide (1000000000000 < o.seq))) || (!(vecOK o.deps))) == false)) 30 (.pointer (some ⟨g1, 0, none⟩)) :: .gv ((((((!(stampOK o.time o.actor)) || (decide (o.seq < 1))) || (decide (1000000000000 < o.seq))) || (!(vecOK o.deps))) == false)) 31 (.int .i64 o.actor) :: .gv ((((((!(stampOK o.time o.actor)) || (decide (o.seq < 1))) || (decide (1000000000000 < o.seq))) || (!(vecOK o.deps))) == false)) 32 (.pointer (some ((adr A).add (o.actor.toNat * 1)))) :: .gv ((((((!(stampOK o.time o.actor)) || (decide (o.seq < 1))) || (decide (1000000000000 < o.seq))) || (!(vecOK o.deps))) == false)) 33 (.int .i64 (gi o.deps o.actor)) :: .gv ((((((!(stampOK o.time o.actor)) || (decide (o.seq < 1))) || (decide (1000000000000 < o.seq))) || (!(vecOK o.deps))) == false)) 34 (.pointer (some ⟨g1, 1, none⟩)) :: .gv ((((((!(stampOK o.time o.actor)) || (decide (o.seq < 1))) || (decide (1000000000000 < o.seq))) || (!(vecOK o.deps))) == false)) 35 (.int .i64 o.seq) :: .gv ((((((!(stampOK o.time o.actor)) || (decide (o.seq < 1))) || (decide (1000000000000 < o.seq))) || (!(vecOK o.deps))) == false)) 36 (.int .i64 (o.seq - 1)) :: .gv ((((((!(stampOK o.time o.actor)) || (decide (o.seq < 1))) || (decide (1000000000000 < o.seq))) || (!(vecOK o.deps))) == false)) 37 (.bool ((gi o.deps o.actor) != (o.seq - 1))) :: .eq 38 (.bool (((((!(stampOK o.time o.actor)) || (decide (o.seq < 1))) || (decide (1000000000000 < o.seq))) || (!(vecOK o.deps))) || ((gi o.deps o.actor) != (o.seq - 1)))) :: .eq 39 (.bool (((((!(stampOK o.time o.actor)) || (decide (o.seq < 1))) || (decide (1000000000000 < o.seq))) || (!(vecOK o.deps))) || ((gi o.deps o.actor) != (o.seq - 1)))) :: .gv (((((((!(stampOK o.time o.actor)) || (decide (o.seq < 1))) || (decide (1000000000000 < o.seq))) || (!(vecOK o.deps))) || ((gi o.deps o.actor) != (o.seq - 1))) == false)) 40 (.pointer (some ⟨g1, 5, none⟩)) :: .gv (((((((!(stampOK o.time o.actor)) || (decide (o.seq < 1))) || (decide (1000000000000 < o.seq))) || (!(vecOK o.deps))) || ((gi o.deps o.actor) != (o.seq - 1))) == false)) 41 (.int .i64 o.obj) :: .gv (((((((!(stampOK o.time o.actor)) || (decide (o.seq < 1))) || (decide (1000000000000 < o.seq))) || (!(vecOK o.deps))) || ((gi o.deps o.actor) != (o.seq - 1))) == false)) 42 (.bool (decide (o.obj < 1))) :: .eq 43 (.bool ((((((!(stampOK o.time o.actor)) || (decide (o.seq < 1))) || (decide (1000000000000 < o.seq))) || (!(vecOK o.deps))) || ((gi o.deps o.actor) != (o.seq - 1))) || (decide (o.obj < 1)))) :: .eq 44 (.bool ((((((!(stampOK o.time o.actor)) || (decide (o.seq < 1))) || (decide (1000000000000 < o.seq))) || (!(vecOK o.deps))) || ((gi o.deps o.actor) != (o.seq - 1))) || (decide (o.obj < 1)))) :: .gv ((((((((!(stampOK o.time o.actor)) || (decide (o.seq < 1))) || (decide (1000000000000 < o.seq))) || (!(vecOK o.deps))) || ((gi o.deps o.actor) != (o.seq - 1))) || (decide (o.obj < 1))) == false)) 45 (.pointer (some ⟨g1, 5, none⟩)) :: .gv ((((((((!(stampOK o.time o.actor)) || (decide (o.seq < 1))) || (decide (1000000000000 < o.seq))) || (!(vecOK o.deps))) || ((gi o.deps o.actor) != (o.seq - 1))) || (decide (o.obj < 1))) == false)) 46 (.int .i64 o.obj) :: .gv ((((((((!(stampOK o.time o.actor)) || (decide (o.seq < 1))) || (decide (1000000000000 < o.seq))) || (!(vecOK o.deps))) || ((gi o.deps o.actor) != (o.seq - 1))) || (decide (o.obj < 1))) == false)) 47 (.bool (decide (100 < o.obj))) :: .eq 48 (.bool (((((((!(stampOK o.time o.actor)) || (decide (o.seq < 1))) || (decide (1000000000000 < o.seq))) || (!(vecOK o.deps))) || ((gi o.deps o.actor) != (o.seq - 1))) || (decide (o.obj < 1))) || (decide (100 < o.obj)))) :: .eq 49 (.bool (((((((!(stampOK o.time o.actor)) || (decide (o.seq < 1))) || (decide (1000000000000 < o.seq))) || (!(vecOK o.deps))) || ((gi o.deps o.actor) != (o.seq - 1))) || (decide (o.obj < 1))) || (decide (100 < o.obj)))) :: .gv (((((((((!(stampOK o.time o.actor)) || (decide (o.seq < 1))) || (decide (1000000000000 < o.seq))) || (!(vecOK o.deps))) || ((gi o.deps o.actor) != (o.seq - 1))) || (decide (o.obj < 1))) || (decide (100 < o.obj))) == false)) 50 (.pointer (some ⟨g1, 6, none⟩)) :: .gv (((((((((!(stampOK o.time o.actor)) || (decide (o.seq < 1))) || (decide (1000000000000 < o.seq))) || (!(vecOK o.deps))) || ((gi o.deps o.actor) != (o.seq - 1))) || (decide (o.obj < 1))) || (decide (100 < o.obj))) == false)) 51 (.int .i64 o.num) :: .gv (((((((((!(stampOK o.time o.actor)) || (decide (o.seq < 1))) || (decide (1000000000000 < o.seq))) || (!(vecOK o.deps))) || ((gi o.deps o.actor) != (o.seq - 1))) || (decide (o.obj < 1))) || (decide (100 < o.obj))) == false)) 52 (.bool (decide (o.num < -1000000000000))) :: .eq 53 (.bool ((((((((!(stampOK o.time o.actor)) || (decide (o.seq < 1))) || (decide (1000000000000 < o.seq))) || (!(vecOK o.deps))) || ((gi o.deps o.actor) != (o.seq - 1))) || (decide (o.obj < 1))) || (decide (100 < o.obj))) || (decide (o.num < -1000000000000)))) :: .eq 54 (.bool ((((((((!(stampOK o.time o.actor)) || (decide (o.seq < 1))) || (decide (1000000000000 < o.seq))) || (!(vecOK o.deps))) || ((gi o.deps o.actor) != (o.seq - 1))) || (decide (o.obj < 1))) || (decide (100 < o.obj))) || (decide (o.num < -1000000000000)))) :: .gv ((((((((((!(stampOK o.time o.actor)) || (decide (o.seq < 1))) || (decide (1000000000000 < o.seq))) || (!(vecOK o.deps))) || ((gi o.deps o.actor) != (o.seq - 1))) || (decide (o.obj < 1))) || (decide (100 < o.obj))) || (decide (o.num < -1000000000000))) == false)) 55 (.pointer (some ⟨g1, 6, none⟩)) :: .gv ((((((((((!(stampOK o.time o.actor)) || (decide (o.seq < 1))) || (decide (1000000000000 < o.seq))) || (!(vecOK o.deps))) || ((gi o.deps o.actor) != (o.seq - 1))) || (decide (o.obj < 1))) || (decide (100 < o.obj))) || (decide (o.num < -1000000000000))) == false)) 56 (.int .i64 o.num) :: .gv ((((((((((!(stampOK o.time o.actor)) || (decide (o.seq < 1))) || (decide (1000000000000 < o.seq))) || (!(vecOK o.deps))) || ((gi o.deps o.actor) != (o.seq - 1))) || (decide (o.obj < 1))) || (decide (100 < o.obj))) || (decide (o.num < -1000000000000))) == false)) 57 (.bool (decide (1000000000000 < o.num))) :: .eq 58 (.bool (((((((((!(stampOK o.time o.actor)) || (decide (o.seq < 1))) || (decide (1000000000000 < o.seq))) || (!(vecOK o.deps))) || ((gi o.deps o.actor) != (o.seq - 1))) || (decide (o.obj < 1))) || (decide (100 < o.obj))) || (decide (o.num < -1000000000000))) || (decide (1000000000000 < o.num)))) :: .eq 59 (.bool (((((((((!(stampOK o.time o.actor)) || (decide (o.seq < 1))) || (decide (1000000000000 < o.seq))) || (!(vecOK o.deps))) || ((gi o.deps o.actor) != (o.seq - 1))) || (decide (o.obj < 1))) || (decide (100 < o.obj))) || (decide (o.num < -1000000000000))) || (decide (1000000000000 < o.num)))) :: .gv (((((((((((!(stampOK o.time o.actor)) || (decide (o.seq < 1))) || (decide (1000000000000 < o.seq))) || (!(vecOK o.deps))) || ((gi o.deps o.actor) != (o.seq - 1))) || (decide (o.obj < 1))) || (decide (100 < o.obj))) || (decide (o.num < -1000000000000))) || (decide (1000000000000 < o.num))) == false)) 60 (.pointer (some ⟨g1, 7, none⟩)) :: .gv (((((((((((!(stampOK o.time o.actor)) || (decide (o.seq < 1))) || (decide (1000000000000 < o.seq))) || (!(vecOK o.deps))) || ((gi o.deps o.actor) != (o.seq - 1))) || (decide (o.obj < 1))) || (decide (100 < o.obj))) || (decide (o.num < -1000000000000))) || (decide (1000000000000 < o.num))) == false)) 61 (.int .i64 o.undo) :: .gv (((((((((((!(stampOK o.time o.actor)) || (decide (o.seq < 1))) || (decide (1000000000000 < o.seq))) || (!(vecOK o.deps))) || ((gi o.deps o.actor) != (o.seq - 1))) || (decide (o.obj < 1))) || (decide (100 < o.obj))) || (decide (o.num < -1000000000000))) || (decide (1000000000000 < o.num))) == false)) 62 (.bool (decide (o.undo < 0))) :: .eq 63 (.bool ((((((((((!(stampOK o.time o.actor)) || (decide (o.seq < 1))) || (decide (1000000000000 < o.seq))) || (!(vecOK o.deps))) || ((gi o.deps o.actor) != (o.seq - 1))) || (decide (o.obj < 1))) || (decide (100 < o.obj))) || (decide (o.num < -1000000000000))) || (decide (1000000000000 < o.num))) || (decide (o.undo < 0)))) :: .eq 64 (.bool ((((((((((!(stampOK o.time o.actor)) || (decide (o.seq < 1))) || (decide (1000000000000 < o.seq))) || (!(vecOK o.deps))) || ((gi o.deps o.actor) != (o.seq - 1))) || (decide (o.obj < 1))) || (decide (100 < o.obj))) || (decide (o.num < -1000000000000))) || (decide (1000000000000 < o.num))) || (decide (o.undo < 0)))) :: .gv ((((((((((((!(stampOK o.time o.actor)) || (decide (o.seq < 1))) || (decide (1000000000000 < o.seq))) || (!(vecOK o.deps))) || ((gi o.deps o.actor) != (o.seq - 1))) || (decide (o.obj < 1))) || (decide (100 < o.obj))) || (decide (o.num < -1000000000000))) || (decide (1000000000000 < o.num))) || (decide (o.undo < 0))) == false)) 65 (.pointer (some ⟨g1, 7, none⟩)) :: .gv ((((((((((((!(stampOK o.time o.actor)) || (decide (o.seq < 1))) || (decide (1000000000000 < o.seq))) || (!(vecOK o.deps))) || ((gi o.deps o.actor) != (o.seq - 1))) || (decide (o.obj < 1))) || (decide (100 < o.obj))) || (decide (o.num < -1000000000000))) || (decide (1000000000000 < o.num))) || (decide (o.undo < 0))) == false)) 66 (.int .i64 o.undo) :: .gv ((((((((((((!(stampOK o.time o.actor)) || (decide (o.seq < 1))) || (decide (1000000000000 < o.seq))) || (!(vecOK o.deps))) || ((gi o.deps o.actor) != (o.seq - 1))) || (decide (o.obj < 1))) || (decide (100 < o.obj))) || (decide (o.num < -1000000000000))) || (decide (1000000000000 < o.num))) || (decide (o.undo < 0))) == false)) 67 (.pointer (some ⟨g1, 1, none⟩)) :: .gv ((((((((((((!(stampOK o.time o.actor)) || (decide (o.seq < 1))) || (decide (1000000000000 < o.seq))) || (!(vecOK o.deps))) || ((gi o.deps o.actor) != (o.seq - 1))) || (decide (o.obj < 1))) || (decide (100 < o.obj))) || (decide (o.num < -1000000000000))) || (decide (1000000000000 < o.num))) || (decide (o.undo < 0))) == false)) 68 (.int .i64 o.seq) :: .gv ((((((((((((!(stampOK o.time o.actor)) || (decide (o.seq < 1))) || (decide (1000000000000 < o.seq))) || (!(vecOK o.deps))) || ((gi o.deps o.actor) != (o.seq - 1))) || (decide (o.obj < 1))) || (decide (100 < o.obj))) || (decide (o.num < -1000000000000))) || (decide (1000000000000 < o.num))) || (decide (o.undo < 0))) == false)) 69 (.bool (decide (o.seq ≤ o.undo))) :: .eq 70 (.bool (((((((((((!(stampOK o.time o.actor)) || (decide (o.seq < 1))) || (decide (1000000000000 < o.seq))) || (!(vecOK o.deps))) || ((gi o.deps o.actor) != (o.seq - 1))) || (decide (o.obj < 1))) || (decide (100 < o.obj))) || (decide (o.num < -1000000000000))) || (decide (1000000000000 < o.num))) || (decide (o.undo < 0))) || (decide (o.seq ≤ o.undo)))) :: .eq 71 (.bool (((((((((((!(stampOK o.time o.actor)) || (decide (o.seq < 1))) || (decide (1000000000000 < o.seq))) || (!(vecOK o.deps))) || ((gi o.deps o.actor) != (o.seq - 1))) || (decide (o.obj < 1))) || (decide (100 < o.obj))) || (decide (o.num < -1000000000000))) || (decide (1000000000000 < o.num))) || (decide (o.undo < 0))) || (decide (o.seq ≤ o.undo)))) :: .gv (((((((((((((!(stampOK o.time o.actor)) || (decide (o.seq < 1))) || (decide (1000000000000 < o.seq))) || (!(vecOK o.deps))) || ((gi o.deps o.actor) != (o.seq - 1))) || (decide (o.obj < 1))) || (decide (100 < o.obj))) || (decide (o.num < -1000000000000))) || (decide (1000000000000 < o.num))) || (decide (o.undo < 0))) || (decide (o.seq ≤ o.undo))) == false)) 72 (.pointer (some ⟨g1, 10, none⟩)) :: .gv (((((((((((((!(stampOK o.time o.actor)) || (decide (o.seq < 1))) || (decide (1000000000000 < o.seq))) || (!(vecOK o.deps))) || ((gi o.deps o.actor) != (o.seq - 1))) || (decide (o.obj < 1))) || (decide (100 < o.obj))) || (decide (o.num < -1000000000000))) || (decide (1000000000000 < o.num))) || (decide (o.undo < 0))) || (decide (o.seq ≤ o.undo))) == false)) 73 (.string o.key) :: .gv (((((((((((((!(stampOK o.time o.actor)) || (decide (o.seq < 1))) || (decide (1000000000000 < o.seq))) || (!(vecOK o.deps))) || ((gi o.deps o.actor) != (o.seq - 1))) || (decide (o.obj < 1))) || (decide (100 < o.obj))) || (decide (o.num < -1000000000000))) || (decide (1000000000000 < o.num))) || (decide (o.undo < 0))) || (decide (o.seq ≤ o.undo))) == false)) 74 (.int .i64 (o.key.size : Int)) :: .gv (((((((((((((!(stampOK o.time o.actor)) || (decide (o.seq < 1))) || (decide (1000000000000 < o.seq))) || (!(vecOK o.deps))) || ((gi o.deps o.actor) != (o.seq - 1))) || (decide (o.obj < 1))) || (decide (100 < o.obj))) || (decide (o.num < -1000000000000))) || (decide (1000000000000 < o.num))) || (decide (o.undo < 0))) || (decide (o.seq ≤ o.undo))) == false)) 75 (.bool (decide (200 < (o.key.size : Int)))) :: .eq 76 (.bool ((((((((((((!(stampOK o.time o.actor)) || (decide (o.seq < 1))) || (decide (1000000000000 < o.seq))) || (!(vecOK o.deps))) || ((gi o.deps o.actor) != (o.seq - 1))) || (decide (o.obj < 1))) || (decide (100 < o.obj))) || (decide (o.num < -1000000000000))) || (decide (1000000000000 < o.num))) || (decide (o.undo < 0))) || (decide (o.seq ≤ o.undo))) || (decide (200 < (o.key.size : Int))))) :: .eq 77 (.bool ((((((((((((!(stampOK o.time o.actor)) || (decide (o.seq < 1))) || (decide (1000000000000 < o.seq))) || (!(vecOK o.deps))) || ((gi o.deps o.actor) != (o.seq - 1))) || (decide (o.obj < 1))) || (decide (100 < o.obj))) || (decide (o.num < -1000000000000))) || (decide (1000000000000 < o.num))) || (decide (o.undo < 0))) || (decide (o.seq ≤ o.undo))) || (decide (200 < (o.key.size : Int))))) :: .gv ((((((((((((((!(stampOK o.time o.actor)) || (decide (o.seq < 1))) || (decide (1000000000000 < o.seq))) || (!(vecOK o.deps))) || ((gi o.deps o.actor) != (o.seq - 1))) || (decide (o.obj < 1))) || (decide (100 < o.obj))) || (decide (o.num < -1000000000000))) || (decide (1000000000000 < o.num))) || (decide (o.undo < 0))) || (decide (o.seq ≤ o.undo))) || (decide (200 < (o.key.size : Int)))) == false)) 78 (.pointer (some ⟨g1, 11, none⟩)) :: .gv ((((((((((((((!(stampOK o.time o.actor)) || (decide (o.seq < 1))) || (decide (1000000000000 < o.seq))) || (!(vecOK o.deps))) || ((gi o.deps o.actor) != (o.seq - 1))) || (decide (o.obj < 1))) || (decide (100 < o.obj))) || (decide (o.num < -1000000000000))) || (decide (1000000000000 < o.num))) || (decide (o.undo < 0))) || (decide (o.seq ≤ o.undo))) || (decide (200 < (o.key.size : Int)))) == false)) 79 (.string o.text) :: .gv ((((((((((((((!(stampOK o.time o.actor)) || (decide (o.seq < 1))) || (decide (1000000000000 < o.seq))) || (!(vecOK o.deps))) || ((gi o.deps o.actor) != (o.seq - 1))) || (decide (o.obj < 1))) || (decide (100 < o.obj))) || (decide (o.num < -1000000000000))) || (decide (1000000000000 < o.num))) || (decide (o.undo < 0))) || (decide (o.seq ≤ o.undo))) || (decide (200 < (o.key.size : Int)))) == false)) 80 (.int .i64 (o.text.size : Int)) :: .gv ((((((((((((((!(stampOK o.time o.actor)) || (decide (o.seq < 1))) || (decide (1000000000000 < o.seq))) || (!(vecOK o.deps))) || ((gi o.deps o.actor) != (o.seq - 1))) || (decide (o.obj < 1))) || (decide (100 < o.obj))) || (decide (o.num < -1000000000000))) || (decide (1000000000000 < o.num))) || (decide (o.undo < 0))) || (decide (o.seq ≤ o.undo))) || (decide (200 < (o.key.size : Int)))) == false)) 81 (.bool (decide (200 < (o.text.size : Int)))) :: .eq 82 (.bool (((((((((((((!(stampOK o.time o.actor)) || (decide (o.seq < 1))) || (decide (1000000000000 < o.seq))) || (!(vecOK o.deps))) || ((gi o.deps o.actor) != (o.seq - 1))) || (decide (o.obj < 1))) || (decide (100 < o.obj))) || (decide (o.num < -1000000000000))) || (decide (1000000000000 < o.num))) || (decide (o.undo < 0))) || (decide (o.seq ≤ o.undo))) || (decide (200 < (o.key.size : Int)))) || (decide (200 < (o.text.size : Int))))) :: .eq 1 (.pointer (some ⟨g1, 0, none⟩)) :: .eq 3 (.pointer (some ⟨g3, 0, none⟩)) :: .w (Below w2.heap.size w2) :: []) 150 ([77, 78] :: [0] :: [1] :: [2] :: [3, 76] :: [3, 4, 78] :: [3, 5] :: [3, 6] :: [7] :: [8, 76] :: [8, 9, 78] :: [8, 10] :: [8, 11] :: [12] :: [13, 76] :: [13, 14, 78] :: [13, 15, 78] :: [13, 16] :: [13, 17] :: [18] :: [19, 76] :: [19, 20] :: [19, 21, 78] :: [19, 76] :: [19, 23, 78] :: [19, 22, 24] :: [19, 25, 78] :: [19, 76] :: [19, 27, 78] :: [19, 28] :: [19, 26, 29] :: [19, 30] :: [31] :: [32, 76] :: [32, 33, 78] :: [32, 34] :: [32, 35] :: [36] :: [37, 76] :: [37, 38, 78] :: [37, 39] :: [37, 40] :: [41] :: [42, 76] :: [42, 43, 78] :: [42, 44] :: [42, 45] :: [46] :: [47, 76] :: [47, 48, 78] :: [47, 49] :: [47, 50] :: [51] :: [52, 76] :: [52, 53, 78] :: [52, 54] :: [52, 55] :: [56] :: [57, 76] :: [57, 58, 78] :: [57, 76] :: [57, 60, 78] :: [57, 59, 61] :: [57, 62] :: [63] :: [64, 76] :: [64, 65, 78] :: [64, 66] :: [64, 67] :: [64, 68] :: [69] :: [70, 76] :: [70, 71, 78] :: [70, 72] :: [70, 73] :: [70, 74] :: []) [] [75, 76, 77, 78] hM hN hD (by kernel_rfl) ⟨s1, s3, ⟨Below.refl _ _, below_drew (Below.refl _ _)⟩, trivial⟩ ⟨fun _ _ hb h => below_step h hb, trivial⟩ (fun hgrow => ⟨fun _ _ h => rv rfl (x_loadS rfl h.1 Try.underlying65 [.int .i64 o.time, .int .i64 o.actor] sz65 (blk_list (L := [.int .i64 o.time, .int .i64 o.actor]) (blk_below HBX3 h.2.1) 0 rfl)) rfl,
    fun _ _ h => rc hgrow rfl Try.func106 (by kernel_rfl) rfl rfl (args1 h.1) (sStampOK_calls o.time o.actor _) (fun _ _ h => ⟨_, h.1, h.2, rfl⟩),
    fun _ _ h => rv rfl (x_not rfl h.1) rfl,
    fun _ _ h => rv rfl (x_move rfl h.1) rfl,
    fun _ _ h => rb rfl rfl h.1 (fun hgt => x_field rfl h.2.1 Try.underlying67 rfl sz3 (by decide) rfl) (fun _ z => z),
    fun _ _ h => rb rfl rfl h.1 (fun hgt => x_load1 rfl (h.2.1.1 hgt) Try.underlying3 rfl (blk_one (L := opc o A c) (blk_below HBX1 h.2.2.1) 1 rfl)) (fun _ z => z),
    fun _ _ h => rb rfl rfl h.1 (fun hgt => x_lss rfl (h.2.1.1 hgt) rfl) (fun _ z => z),
    fun _ _ h => rv rfl (x_or rfl rfl h.1 (fun hc => h.2.1.1 (beq_iff_eq.2 hc))) rfl,
    fun _ _ h => rv rfl (x_move rfl h.1) rfl,
    fun _ _ h => rb rfl rfl h.1 (fun hgt => x_field rfl h.2.1 Try.underlying67 rfl sz3 (by decide) rfl) (fun _ z => z),
    fun _ _ h => rb rfl rfl h.1 (fun hgt => x_load1 rfl (h.2.1.1 hgt) Try.underlying3 rfl (blk_one (L := opc o A c) (blk_below HBX1 h.2.2.1) 1 rfl)) (fun _ z => z),
    fun _ _ h => rb rfl rfl h.1 (fun hgt => x_gtr rfl (h.2.1.1 hgt) rfl) (fun _ z => z),
    fun _ _ h => rv rfl (x_or rfl rfl h.1 (fun hc => h.2.1.1 (beq_iff_eq.2 hc))) rfl,
    fun _ _ h => rv rfl (x_move rfl h.1) rfl,
    fun _ _ h => rb rfl rfl h.1 (fun hgt => x_field rfl h.2.1 Try.underlying67 rfl sz41 (by decide) rfl) (fun _ z => z),
    fun _ _ h => rb rfl rfl h.1 (fun hgt => x_loadS rfl (h.2.1.1 hgt) Try.underlying41 [.slice A o.deps.length c] sz41 (blk_list (L := opc o A c) (blk_below HBX1 h.2.2.1) 3 rfl)) (fun _ z => z),
    fun _ _ h => rcb hgrow rfl rfl h.1 Try.func57 (by kernel_rfl) rfl rfl (fun hgt => args1 (h.2.1.1 hgt)) (fun hgt => sVecOK_calls A o.deps c _ (RI.below HR (below_step HB h.2.2.1))) (fun _ _ _ h => h) (fun _ _ z => z),
    fun _ _ h => rb rfl rfl h.1 (fun hgt => x_not rfl (h.2.1.1 hgt)) (fun _ z => z),
    fun _ _ h => rv rfl (x_or rfl rfl h.1 (fun hc => h.2.1.1 (beq_iff_eq.2 hc))) rfl,
    fun _ _ h => rv rfl (x_move rfl h.1) rfl,
    fun _ _ h => rb rfl rfl h.1 (fun hgt => x_field rfl h.2.1 Try.underlying67 rfl sz41 (by decide) rfl) (fun _ z => z),
    fun _ _ h => rb rfl rfl h.1 (fun hgt => x_field rfl (h.2.1.1 hgt) Try.underlying41 rfl sz24 (by decide) rfl) (fun _ z => z),
    fun _ _ h => rb rfl rfl h.1 (fun hgt => x_load1 rfl (h.2.1.1 hgt) Try.underlying24 rfl (blk_one (L := opc o A c) (blk_below HBX1 h.2.2.1) 3 rfl)) (fun _ z => z),
    fun _ _ h => rb rfl rfl h.1 (fun hgt => x_field rfl h.2.1 Try.underlying67 rfl sz3 (by decide) rfl) (fun _ z => z),
    fun _ _ h => rb rfl rfl h.1 (fun hgt => x_load1 rfl (h.2.1.1 hgt) Try.underlying3 rfl (blk_one (L := opc o A c) (blk_below HBX1 h.2.2.1) 0 rfl)) (fun _ z => z),
    fun _ _ h => rb rfl rfl h.1 (fun hgt => x_index_at rfl (h.2.1.1 hgt) (h.2.2.1.1 hgt) Try.underlying24 sz3 (by simp [stampOK, actorOK] at hgt; omega) (by simp [stampOK, actorOK, vecOK_iff, VecOK] at hgt; omega) (RI.ad HR o.actor (by simp [stampOK, actorOK] at hgt; omega) (by simp [stampOK, actorOK, vecOK_iff, VecOK] at hgt; omega))) (fun _ z => z),
    fun _ _ h => rb rfl rfl h.1 (fun hgt => x_load1 rfl (h.2.1.1 hgt) Try.underlying3 rfl (RI.at_ HR (below_step HB h.2.2.1) (by simp [stampOK, actorOK] at hgt; omega) (by simp [stampOK, actorOK, vecOK_iff, VecOK] at hgt; omega))) (fun _ z => z),
    fun _ _ h => rb rfl rfl h.1 (fun hgt => x_field rfl h.2.1 Try.underlying67 rfl sz3 (by decide) rfl) (fun _ z => z),
    fun _ _ h => rb rfl rfl h.1 (fun hgt => x_load1 rfl (h.2.1.1 hgt) Try.underlying3 rfl (blk_one (L := opc o A c) (blk_below HBX1 h.2.2.1) 1 rfl)) (fun _ z => z),
    fun _ _ h => rb rfl rfl h.1 (fun hgt => x_sub' rfl (h.2.1.1 hgt) rfl (by simp at hgt; omega)) (fun _ z => z),
    fun _ _ h => rb rfl rfl h.1 (fun hgt => x_neq rfl (h.2.1.1 hgt) (h.2.2.1.1 hgt)) (fun _ z => z),
    fun _ _ h => rv rfl (x_or rfl rfl h.1 (fun hc => h.2.1.1 (beq_iff_eq.2 hc))) rfl,
    fun _ _ h => rv rfl (x_move rfl h.1) rfl,
    fun _ _ h => rb rfl rfl h.1 (fun hgt => x_field rfl h.2.1 Try.underlying67 rfl sz3 (by decide) rfl) (fun _ z => z),
    fun _ _ h => rb rfl rfl h.1 (fun hgt => x_load1 rfl (h.2.1.1 hgt) Try.underlying3 rfl (blk_one (L := opc o A c) (blk_below HBX1 h.2.2.1) 5 rfl)) (fun _ z => z),
    fun _ _ h => rb rfl rfl h.1 (fun hgt => x_lss rfl (h.2.1.1 hgt) rfl) (fun _ z => z),
    fun _ _ h => rv rfl (x_or rfl rfl h.1 (fun hc => h.2.1.1 (beq_iff_eq.2 hc))) rfl,
    fun _ _ h => rv rfl (x_move rfl h.1) rfl,
    fun _ _ h => rb rfl rfl h.1 (fun hgt => x_field rfl h.2.1 Try.underlying67 rfl sz3 (by decide) rfl) (fun _ z => z),
    fun _ _ h => rb rfl rfl h.1 (fun hgt => x_load1 rfl (h.2.1.1 hgt) Try.underlying3 rfl (blk_one (L := opc o A c) (blk_below HBX1 h.2.2.1) 5 rfl)) (fun _ z => z),
    fun _ _ h => rb rfl rfl h.1 (fun hgt => x_gtr rfl (h.2.1.1 hgt) rfl) (fun _ z => z),
    fun _ _ h => rv rfl (x_or rfl rfl h.1 (fun hc => h.2.1.1 (beq_iff_eq.2 hc))) rfl,
    fun _ _ h => rv rfl (x_move rfl h.1) rfl,
    fun _ _ h => rb rfl rfl h.1 (fun hgt => x_field rfl h.2.1 Try.underlying67 rfl sz3 (by decide) rfl) (fun _ z => z),
    fun _ _ h => rb rfl rfl h.1 (fun hgt => x_load1 rfl (h.2.1.1 hgt) Try.underlying3 rfl (blk_one (L := opc o A c) (blk_below HBX1 h.2.2.1) 6 rfl)) (fun _ z => z),
    fun _ _ h => rb rfl rfl h.1 (fun hgt => x_lss rfl (h.2.1.1 hgt) rfl) (fun _ z => z),
    fun _ _ h => rv rfl (x_or rfl rfl h.1 (fun hc => h.2.1.1 (beq_iff_eq.2 hc))) rfl,
    fun _ _ h => rv rfl (x_move rfl h.1) rfl,
    fun _ _ h => rb rfl rfl h.1 (fun hgt => x_field rfl h.2.1 Try.underlying67 rfl sz3 (by decide) rfl) (fun _ z => z),
    fun _ _ h => rb rfl rfl h.1 (fun hgt => x_load1 rfl (h.2.1.1 hgt) Try.underlying3 rfl (blk_one (L := opc o A c) (blk_below HBX1 h.2.2.1) 6 rfl)) (fun _ z => z),
    fun _ _ h => rb rfl rfl h.1 (fun hgt => x_gtr rfl (h.2.1.1 hgt) rfl) (fun _ z => z),
    fun _ _ h => rv rfl (x_or rfl rfl h.1 (fun hc => h.2.1.1 (beq_iff_eq.2 hc))) rfl,
    fun _ _ h => rv rfl (x_move rfl h.1) rfl,
    fun _ _ h => rb rfl rfl h.1 (fun hgt => x_field rfl h.2.1 Try.underlying67 rfl sz3 (by decide) rfl) (fun _ z => z),
    fun _ _ h => rb rfl rfl h.1 (fun hgt => x_load1 rfl (h.2.1.1 hgt) Try.underlying3 rfl (blk_one (L := opc o A c) (blk_below HBX1 h.2.2.1) 7 rfl)) (fun _ z => z),
    fun _ _ h => rb rfl rfl h.1 (fun hgt => x_lss rfl (h.2.1.1 hgt) rfl) (fun _ z => z),
    fun _ _ h => rv rfl (x_or rfl rfl h.1 (fun hc => h.2.1.1 (beq_iff_eq.2 hc))) rfl,
    fun _ _ h => rv rfl (x_move rfl h.1) rfl,
    fun _ _ h => rb rfl rfl h.1 (fun hgt => x_field rfl h.2.1 Try.underlying67 rfl sz3 (by decide) rfl) (fun _ z => z),
    fun _ _ h => rb rfl rfl h.1 (fun hgt => x_load1 rfl (h.2.1.1 hgt) Try.underlying3 rfl (blk_one (L := opc o A c) (blk_below HBX1 h.2.2.1) 7 rfl)) (fun _ z => z),
    fun _ _ h => rb rfl rfl h.1 (fun hgt => x_field rfl h.2.1 Try.underlying67 rfl sz3 (by decide) rfl) (fun _ z => z),
    fun _ _ h => rb rfl rfl h.1 (fun hgt => x_load1 rfl (h.2.1.1 hgt) Try.underlying3 rfl (blk_one (L := opc o A c) (blk_below HBX1 h.2.2.1) 1 rfl)) (fun _ z => z),
    fun _ _ h => rb rfl rfl h.1 (fun hgt => x_geq rfl (h.2.1.1 hgt) (h.2.2.1.1 hgt)) (fun _ z => z),
    fun _ _ h => rv rfl (x_or rfl rfl h.1 (fun hc => h.2.1.1 (beq_iff_eq.2 hc))) rfl,
    fun _ _ h => rv rfl (x_move rfl h.1) rfl,
    fun _ _ h => rb rfl rfl h.1 (fun hgt => x_field rfl h.2.1 Try.underlying67 rfl sz9 (by decide) rfl) (fun _ z => z),
    fun _ _ h => rb rfl rfl h.1 (fun hgt => x_load1 rfl (h.2.1.1 hgt) Try.underlying9 rfl (blk_one (L := opc o A c) (blk_below HBX1 h.2.2.1) 10 rfl)) (fun _ z => z),
    fun _ _ h => rb rfl rfl h.1 (fun hgt => x_len_string rfl Try.underlying9 (h.2.1.1 hgt)) (fun _ z => z),
    fun _ _ h => rb rfl rfl h.1 (fun hgt => x_gtr rfl (h.2.1.1 hgt) rfl) (fun _ z => z),
    fun _ _ h => rv rfl (x_or rfl rfl h.1 (fun hc => h.2.1.1 (beq_iff_eq.2 hc))) rfl,
    fun _ _ h => rv rfl (x_move rfl h.1) rfl,
    fun _ _ h => rb rfl rfl h.1 (fun hgt => x_field rfl h.2.1 Try.underlying67 rfl sz9 (by decide) rfl) (fun _ z => z),
    fun _ _ h => rb rfl rfl h.1 (fun hgt => x_load1 rfl (h.2.1.1 hgt) Try.underlying9 rfl (blk_one (L := opc o A c) (blk_below HBX1 h.2.2.1) 11 rfl)) (fun _ z => z),
    fun _ _ h => rb rfl rfl h.1 (fun hgt => x_len_string rfl Try.underlying9 (h.2.1.1 hgt)) (fun _ z => z),
    fun _ _ h => rb rfl rfl h.1 (fun hgt => x_gtr rfl (h.2.1.1 hgt) rfl) (fun _ z => z),
    fun _ _ h => rv rfl (x_or rfl rfl h.1 (fun hc => h.2.1.1 (beq_iff_eq.2 hc))) rfl, trivial⟩) ?_
  clear s1 s3
  clear hN hD
  rintro a3 w3 hN hD ⟨s82, s1, s3, hGR, -⟩
  replace HB := below_step HB hGR
  replace HBX1 := blk_below HBX1 hGR
  replace HBX3 := blk_below HBX3 hGR
  clear hGR
  show Code.wp _ _ _ _ _
  refine wp_cond (t := ((((((((((((!(stampOK o.time o.actor)) || (decide (o.seq < 1))) || (decide (1000000000000 < o.seq))) || (!(vecOK o.deps))) || ((gi o.deps o.actor) != (o.seq - 1))) || (decide (o.obj < 1))) || (decide (100 < o.obj))) || (decide (o.num < -1000000000000))) || (decide (1000000000000 < o.num))) || (decide (o.undo < 0))) || (decide (o.seq ≤ o.undo))) || (decide (200 < (o.key.size : Int)))) || (decide (200 < (o.text.size : Int)))) s82 ?_
  rcases Bool.eq_false_or_eq_true (((((((((((((!(stampOK o.time o.actor)) || (decide (o.seq < 1))) || (decide (1000000000000 < o.seq))) || (!(vecOK o.deps))) || ((gi o.deps o.actor) != (o.seq - 1))) || (decide (o.obj < 1))) || (decide (100 < o.obj))) || (decide (o.num < -1000000000000))) || (decide (1000000000000 < o.num))) || (decide (o.undo < 0))) || (decide (o.seq ≤ o.undo))) || (decide (200 < (o.key.size : Int)))) || (decide (200 < (o.text.size : Int)))) with cd4 | cd4
  · rw [cd4]
    show Code.wp _ _ _ _ _
    refine wp_seq ?_
    refine deedL [.eq 2 (.bool false), .w (Below w3.heap.size w3)] 150 [[]] [] [0, 1] hM hN hD (by kernel_rfl) ⟨⟨Below.refl _ _, below_drew (Below.refl _ _)⟩, trivial⟩ ⟨fun _ _ hb h => below_step h hb, trivial⟩ (fun hgrow => ⟨fun _ _ _ => rv rfl (x_assign rfl rfl) rfl, trivial⟩) ?_
    clear s1 s3 s82
    clear hN hD
    rintro a5 w5 hN hD ⟨s2, hGR, -⟩
    replace HB := below_step HB hGR
    replace HBX1 := blk_below HBX1 hGR
    replace HBX3 := blk_below HBX3 hGR
    clear hGR
    show Code.wp _ _ _ _ _
    refine wp_ret (then_ret ?_)
    refine bodyPost_ret (results_single rfl (vtmp s2 .nil)) hD ?_
    exact ⟨by simp only [sOp, cd4, if_true, if_false, Bool.false_eq_true], HB⟩
  · rw [cd4]
    show Code.wp _ _ _ _ _
    refine wp_skip ?_
    show Code.wp _ _ _ _ _
    refine wp_seq ?_
    refine wp_seq ?_
    refine deedL (.eq 83 (.pointer (some ⟨g1, 8, none⟩)) :: .eq 84 (.agg #[Value.int .i64 o.att, Value.int .i64 o.ata]) :: .eq 85 (.bool (noneT o.att o.ata)) :: .eq 86 (.bool (!(noneT o.att o.ata))) :: .eq 87 (.bool (!(noneT o.att o.ata))) :: .gv (((!(noneT o.att o.ata)) == true)) 88 (.pointer (some ⟨g1, 8, none⟩)) :: .gv (((!(noneT o.att o.ata)) == true)) 89 (.agg #[Value.int .i64 o.att, Value.int .i64 o.ata]) :: .gv (((!(noneT o.att o.ata)) == true)) 90 (.bool (stampOK o.att o.ata)) :: .gv (((!(noneT o.att o.ata)) == true)) 91 (.bool (!(stampOK o.att o.ata))) :: .gv (((!(noneT o.att o.ata)) == true)) 92 (.bool (!(stampOK o.att o.ata))) :: .gv (((!(noneT o.att o.ata)) == true) && ((!(stampOK o.att o.ata)) == false)) 93 (.pointer (some ⟨g1, 8, none⟩)) :: .gv (((!(noneT o.att o.ata)) == true) && ((!(stampOK o.att o.ata)) == false)) 94 (.agg #[Value.int .i64 o.att, Value.int .i64 o.ata]) :: .gv (((!(noneT o.att o.ata)) == true) && ((!(stampOK o.att o.ata)) == false)) 95 (.agg #[Value.int .i64 o.time, Value.int .i64 o.actor]) :: .gv (((!(noneT o.att o.ata)) == true) && ((!(stampOK o.att o.ata)) == false)) 96 (.bool (lessT o.att o.ata o.time o.actor)) :: .gv (((!(noneT o.att o.ata)) == true) && ((!(stampOK o.att o.ata)) == false)) 97 (.bool (!(lessT o.att o.ata o.time o.actor))) :: .gv (((!(noneT o.att o.ata)) == true)) 98 (.bool ((!(stampOK o.att o.ata)) || (!(lessT o.att o.ata o.time o.actor)))) :: .eq 99 (.bool ((!(noneT o.att o.ata)) && ((!(stampOK o.att o.ata)) || (!(lessT o.att o.ata o.time o.actor))))) :: .eq 1 (.pointer (some ⟨g1, 0, none⟩)) :: .eq 3 (.pointer (some ⟨g3, 0, none⟩)) :: .w (Below w3.heap.size w3) :: []) 150 ([17] :: [0, 19] :: [1] :: [2] :: [3] :: [4, 17] :: [4, 5, 19] :: [4, 6] :: [4, 7] :: [4, 8] :: [9, 17] :: [9, 10, 19] :: [9, 18, 19] :: [9, 11, 12] :: [9, 13] :: [4, 9, 14] :: [4, 15] :: []) [] [16, 17, 18, 19] hM hN hD (by kernel_rfl) ⟨s1, s3, ⟨Below.refl _ _, below_drew (Below.refl _ _)⟩, trivial⟩ ⟨fun _ _ hb h => below_step h hb, trivial⟩ (fun hgrow => ⟨fun _ _ h => rv rfl (x_field rfl h.1 Try.underlying67 rfl sz65 (by decide) rfl) rfl,
      fun _ _ h => rv rfl (x_loadS rfl h.1 Try.underlying65 [.int .i64 o.att, .int .i64 o.ata] sz65 (blk_list (L := opc o A c) (blk_below HBX1 h.2.1) 8 rfl)) rfl,
      fun _ _ h => rc hgrow rfl Try.func107 (by kernel_rfl) rfl rfl (args1 h.1) (sNone_calls o.att o.ata _) (fun _ _ h => ⟨_, h.1, h.2, rfl⟩),
      fun _ _ h => rv rfl (x_not rfl h.1) rfl,
      fun _ _ h => rv rfl (x_move rfl h.1) rfl,
      fun _ _ h => rb rfl rfl h.1 (fun hgt => x_field rfl h.2.1 Try.underlying67 rfl sz65 (by decide) rfl) (fun _ z => z),
      fun _ _ h => rb rfl rfl h.1 (fun hgt => x_loadS rfl (h.2.1.1 hgt) Try.underlying65 [.int .i64 o.att, .int .i64 o.ata] sz65 (blk_list (L := opc o A c) (blk_below HBX1 h.2.2.1) 8 rfl)) (fun _ z => z),
      fun _ _ h => rcb hgrow rfl rfl h.1 Try.func106 (by kernel_rfl) rfl rfl (fun hgt => args1 (h.2.1.1 hgt)) (fun hgt => sStampOK_calls o.att o.ata _) (fun _ _ _ h => h) (fun _ _ z => z),
      fun _ _ h => rb rfl rfl h.1 (fun hgt => x_not rfl (h.2.1.1 hgt)) (fun _ z => z),
      fun _ _ h => rb rfl rfl h.1 (fun hgt => x_move rfl (h.2.1.1 hgt)) (fun _ z => z),
      fun _ _ h => rg rfl rfl h.1 (fun hgt => x_field rfl h.2.1 Try.underlying67 rfl sz65 (by decide) rfl) (fun _ z => z),
      fun _ _ h => rg rfl rfl h.1 (fun hgt => x_loadS rfl (h.2.1.1 hgt) Try.underlying65 [.int .i64 o.att, .int .i64 o.ata] sz65 (blk_list (L := opc o A c) (blk_below HBX1 h.2.2.1) 8 rfl)) (fun _ z => z),
      fun _ _ h => rg rfl rfl h.1 (fun hgt => x_loadS rfl h.2.1 Try.underlying65 [.int .i64 o.time, .int .i64 o.actor] sz65 (blk_list (L := [.int .i64 o.time, .int .i64 o.actor]) (blk_below HBX3 h.2.2.1) 0 rfl)) (fun _ z => z),
      fun _ _ h => rcg hgrow rfl rfl h.1 Try.func108 (by kernel_rfl) rfl rfl (fun hgt => args2 (h.2.1.1 hgt) (h.2.2.1.1 hgt)) (fun hgt => sLess_calls o.att o.ata o.time o.actor _) (fun _ _ _ h => h) (fun _ _ z => z),
      fun _ _ h => rg rfl rfl h.1 (fun hgt => x_not rfl (h.2.1.1 hgt)) (fun _ z => z),
      fun _ _ h => rb rfl rfl h.1 (fun hgt => x_or rfl rfl (h.2.1.1 hgt) (fun hc => h.2.2.1.1 (Bool.and_eq_true _ _ ▸ ⟨hgt, beq_iff_eq.2 hc⟩))) (fun _ z => z),
      fun _ _ h => rv rfl (x_and rfl rfl h.1 (fun hc => h.2.1.1 (beq_iff_eq.2 hc))) rfl, trivial⟩) ?_
    clear s1 s3 s82
    clear hN hD
    rintro a6 w6 hN hD ⟨s99, s1, s3, hGR, -⟩
    replace HB := below_step HB hGR
    replace HBX1 := blk_below HBX1 hGR
    replace HBX3 := blk_below HBX3 hGR
    clear hGR
    show Code.wp _ _ _ _ _
    refine wp_cond (t := (!(noneT o.att o.ata)) && ((!(stampOK o.att o.ata)) || (!(lessT o.att o.ata o.time o.actor)))) s99 ?_
    rcases Bool.eq_false_or_eq_true ((!(noneT o.att o.ata)) && ((!(stampOK o.att o.ata)) || (!(lessT o.att o.ata o.time o.actor)))) with cd7 | cd7
    · rw [cd7]
      show Code.wp _ _ _ _ _
      refine wp_seq ?_
      refine deedL [.eq 2 (.bool false), .w (Below w6.heap.size w6)] 150 [[]] [] [0, 1] hM hN hD (by kernel_rfl) ⟨⟨Below.refl _ _, below_drew (Below.refl _ _)⟩, trivial⟩ ⟨fun _ _ hb h => below_step h hb, trivial⟩ (fun hgrow => ⟨fun _ _ _ => rv rfl (x_assign rfl rfl) rfl, trivial⟩) ?_
      clear s1 s3 s99
      clear hN hD
      rintro a8 w8 hN hD ⟨s2, hGR, -⟩
      replace HB := below_step HB hGR
      replace HBX1 := blk_below HBX1 hGR
      replace HBX3 := blk_below HBX3 hGR
      clear hGR
      show Code.wp _ _ _ _ _
      refine wp_ret (then_ret ?_)
      refine bodyPost_ret (results_single rfl (vtmp s2 .nil)) hD ?_
      exact ⟨by simp only [sOp, cd4, cd7, if_true, if_false, Bool.false_eq_true], HB⟩
    · rw [cd7]
      show Code.wp _ _ _ _ _
      refine wp_skip ?_
      show Code.wp _ _ _ _ _
      refine wp_seq ?_
      refine deedL [.eq 100 (.pointer (some ⟨g1, 10, none⟩)), .eq 101 (.string o.key), .eq 102 (.bool (o.key.toList == (⟨#[]⟩ : ByteArray).toList)), .eq 103 (.bool (o.key.toList == (⟨#[]⟩ : ByteArray).toList)), .gv (((o.key.toList == (⟨#[]⟩ : ByteArray).toList) == true)) 104 (.pointer (some ⟨g1, 11, none⟩)), .gv (((o.key.toList == (⟨#[]⟩ : ByteArray).toList) == true)) 105 (.string o.text), .gv (((o.key.toList == (⟨#[]⟩ : ByteArray).toList) == true)) 106 (.bool (o.text.toList == (⟨#[]⟩ : ByteArray).toList)), .eq 107 (.bool ((o.key.toList == (⟨#[]⟩ : ByteArray).toList) && (o.text.toList == (⟨#[]⟩ : ByteArray).toList))), .eq 4 (.bool ((o.key.toList == (⟨#[]⟩ : ByteArray).toList) && (o.text.toList == (⟨#[]⟩ : ByteArray).toList))), .eq 1 (.pointer (some ⟨g1, 0, none⟩)), .w (Below w6.heap.size w6)] 150 [[9], [0, 10], [1], [2], [3, 9], [3, 4, 10], [3, 5], [3, 6], [7]] [] [8, 9, 10] hM hN hD (by kernel_rfl) ⟨s1, ⟨Below.refl _ _, below_drew (Below.refl _ _)⟩, trivial⟩ ⟨fun _ _ hb h => below_step h hb, trivial⟩ (fun hgrow => ⟨fun _ _ h => rv rfl (x_field rfl h.1 Try.underlying67 rfl sz9 (by decide) rfl) rfl,
        fun _ _ h => rv rfl (x_load1 rfl h.1 Try.underlying9 rfl (blk_one (L := opc o A c) (blk_below HBX1 h.2.1) 10 rfl)) rfl,
        fun _ _ h => rv rfl (x_seql rfl h.1 rfl) rfl,
        fun _ _ h => rv rfl (x_move rfl h.1) rfl,
        fun _ _ h => rb rfl rfl h.1 (fun hgt => x_field rfl h.2.1 Try.underlying67 rfl sz9 (by decide) rfl) (fun _ z => z),
        fun _ _ h => rb rfl rfl h.1 (fun hgt => x_load1 rfl (h.2.1.1 hgt) Try.underlying9 rfl (blk_one (L := opc o A c) (blk_below HBX1 h.2.2.1) 11 rfl)) (fun _ z => z),
        fun _ _ h => rb rfl rfl h.1 (fun hgt => x_seql rfl (h.2.1.1 hgt) rfl) (fun _ z => z),
        fun _ _ h => rv rfl (x_and rfl rfl h.1 (fun hc => h.2.1.1 (beq_iff_eq.2 hc))) rfl,
        fun _ _ h => rv rfl (x_assign rfl h.1) rfl, trivial⟩) ?_
      clear s1 s3 s99
      clear hN hD
      rintro a9 w9 hN hD ⟨s4, s1, hGR, -⟩
      replace HB := below_step HB hGR
      replace HBX1 := blk_below HBX1 hGR
      replace HBX3 := blk_below HBX3 hGR
      clear hGR
      show Code.wp _ _ _ _ _
      refine wp_seq ?_
      refine wp_seq ?_
      refine deedL [.eq 108 (.pointer (some ⟨g1, 4, none⟩)), .eq 109 (.int .i64 o.kind), .eq 1 (.pointer (some ⟨g1, 0, none⟩)), .eq 4 (.bool ((o.key.toList == (⟨#[]⟩ : ByteArray).toList) && (o.text.toList == (⟨#[]⟩ : ByteArray).toList))), .w (Below w9.heap.size w9)] 150 [[2], [0, 4]] [] [1, 2, 3, 4] hM hN hD (by kernel_rfl) ⟨s1, s4, ⟨Below.refl _ _, below_drew (Below.refl _ _)⟩, trivial⟩ ⟨fun _ _ hb h => below_step h hb, trivial⟩ (fun hgrow => ⟨fun _ _ h => rv rfl (x_field rfl h.1 Try.underlying67 rfl sz3 (by decide) rfl) rfl,
        fun _ _ h => rv rfl (x_load1 rfl h.1 Try.underlying3 rfl (blk_one (L := opc o A c) (blk_below HBX1 h.2.1) 4 rfl)) rfl, trivial⟩) ?_
      clear s1 s4
      clear hN hD
      rintro a10 w10 hN hD ⟨s109, s1, s4, hGR, -⟩
      replace HB := below_step HB hGR
      replace HBX1 := blk_below HBX1 hGR
      replace HBX3 := blk_below HBX3 hGR
      clear hGR
      show Code.wp _ _ _ _ _
      refine wp_block ?_
      refine wp_seq ?_
      refine deedL [.eq 111 (.bool (o.kind == 1)), .eq 110 (.bool (o.kind == 1)), .eq 1 (.pointer (some ⟨g1, 0, none⟩)), .eq 4 (.bool ((o.key.toList == (⟨#[]⟩ : ByteArray).toList) && (o.text.toList == (⟨#[]⟩ : ByteArray).toList))), .eq 109 (.int .i64 o.kind), .w (Below w10.heap.size w10)] 150 [[4], [0]] [] [1, 2, 3, 4, 5] hM hN hD (by kernel_rfl) ⟨s1, s4, s109, ⟨Below.refl _ _, below_drew (Below.refl _ _)⟩, trivial⟩ ⟨fun _ _ hb h => below_step h hb, trivial⟩ (fun hgrow => ⟨fun _ _ h => rv rfl (x_eql rfl h.1 rfl) rfl,
        fun _ _ h => rv rfl (x_assign rfl h.1) rfl, trivial⟩) ?_
      clear s1 s4 s109
      clear hN hD
      rintro a11 w11 hN hD ⟨s110, s1, s4, s109, hGR, -⟩
      replace HB := below_step HB hGR
      replace HBX1 := blk_below HBX1 hGR
      replace HBX3 := blk_below HBX3 hGR
      clear hGR
      show Code.wp _ _ _ _ _
      refine wp_cond (t := o.kind == 1) s110 ?_
      rcases Bool.eq_false_or_eq_true (o.kind == 1) with cd12 | cd12
      · rw [cd12]
        show Code.wp _ _ _ _ _
        have pd12 := eq_of_beq cd12
        refine wp_seq ?_
        refine deedL [.eq 112 (.pointer (some ⟨g1, 6, none⟩)), .eq 113 (.int .i64 o.num), .eq 114 (.bool (o.num == 0)), .eq 115 (.bool (o.num == 0)), .gv (((o.num == 0) == true)) 116 (.pointer (some ⟨g1, 8, none⟩)), .gv (((o.num == 0) == true)) 117 (.agg #[Value.int .i64 o.att, Value.int .i64 o.ata]), .gv (((o.num == 0) == true)) 118 (.bool (noneT o.att o.ata)), .eq 119 (.bool ((o.num == 0) && (noneT o.att o.ata))), .eq 2 (.bool ((o.num == 0) && (noneT o.att o.ata))), .eq 1 (.pointer (some ⟨g1, 0, none⟩)), .w (Below w11.heap.size w11)] 150 [[9], [0, 10], [1], [2], [3, 9], [3, 4, 10], [3, 5], [3, 6], [7]] [] [8, 9, 10] hM hN hD (by kernel_rfl) ⟨s1, ⟨Below.refl _ _, below_drew (Below.refl _ _)⟩, trivial⟩ ⟨fun _ _ hb h => below_step h hb, trivial⟩ (fun hgrow => ⟨fun _ _ h => rv rfl (x_field rfl h.1 Try.underlying67 rfl sz3 (by decide) rfl) rfl,
          fun _ _ h => rv rfl (x_load1 rfl h.1 Try.underlying3 rfl (blk_one (L := opc o A c) (blk_below HBX1 h.2.1) 6 rfl)) rfl,
          fun _ _ h => rv rfl (x_eql rfl h.1 rfl) rfl,
          fun _ _ h => rv rfl (x_move rfl h.1) rfl,
          fun _ _ h => rb rfl rfl h.1 (fun hgt => x_field rfl h.2.1 Try.underlying67 rfl sz65 (by decide) rfl) (fun _ z => z),
          fun _ _ h => rb rfl rfl h.1 (fun hgt => x_loadS rfl (h.2.1.1 hgt) Try.underlying65 [.int .i64 o.att, .int .i64 o.ata] sz65 (blk_list (L := opc o A c) (blk_below HBX1 h.2.2.1) 8 rfl)) (fun _ z => z),
          fun _ _ h => rcb hgrow rfl rfl h.1 Try.func107 (by kernel_rfl) rfl rfl (fun hgt => args1 (h.2.1.1 hgt)) (fun hgt => sNone_calls o.att o.ata _) (fun _ _ _ h => h) (fun _ _ z => z),
          fun _ _ h => rv rfl (x_and rfl rfl h.1 (fun hc => h.2.1.1 (beq_iff_eq.2 hc))) rfl,
          fun _ _ h => rv rfl (x_assign rfl h.1) rfl, trivial⟩) ?_
        clear s1 s4 s109 s110
        clear hN hD
        rintro a13 w13 hN hD ⟨s2, s1, hGR, -⟩
        replace HB := below_step HB hGR
        replace HBX1 := blk_below HBX1 hGR
        replace HBX3 := blk_below HBX3 hGR
        clear hGR
        show Code.wp _ _ _ _ _
        refine wp_ret (blk_ret (then_ret ?_))
        refine bodyPost_ret (results_single rfl (vtmp s2 .nil)) hD ?_
        exact ⟨by simp only [sOp, cd4, cd7, cd12, if_true, if_false, Bool.false_eq_true], HB⟩
      · rw [cd12]
        show Code.wp _ _ _ _ _
        have pd12 := ne_of_beq_false cd12
        refine wp_seq ?_
        refine deedL [.eq 121 (.bool (o.kind == 2)), .eq 120 (.bool (o.kind == 2)), .eq 1 (.pointer (some ⟨g1, 0, none⟩)), .eq 4 (.bool ((o.key.toList == (⟨#[]⟩ : ByteArray).toList) && (o.text.toList == (⟨#[]⟩ : ByteArray).toList))), .eq 109 (.int .i64 o.kind), .w (Below w11.heap.size w11)] 150 [[4], [0]] [] [1, 2, 3, 4, 5] hM hN hD (by kernel_rfl) ⟨s1, s4, s109, ⟨Below.refl _ _, below_drew (Below.refl _ _)⟩, trivial⟩ ⟨fun _ _ hb h => below_step h hb, trivial⟩ (fun hgrow => ⟨fun _ _ h => rv rfl (x_eql rfl h.1 rfl) rfl,
          fun _ _ h => rv rfl (x_assign rfl h.1) rfl, trivial⟩) ?_
        clear s1 s4 s109 s110
        clear hN hD
        rintro a14 w14 hN hD ⟨s120, s1, s4, s109, hGR, -⟩
        replace HB := below_step HB hGR
        replace HBX1 := blk_below HBX1 hGR
        replace HBX3 := blk_below HBX3 hGR
        clear hGR
        show Code.wp _ _ _ _ _
        refine wp_cond (t := o.kind == 2) s120 ?_
        rcases Bool.eq_false_or_eq_true (o.kind == 2) with cd15 | cd15
        · rw [cd15]
          show Code.wp _ _ _ _ _
          have pd15 := eq_of_beq cd15
          refine wp_seq ?_
          refine deedL [.eq 122 (.bool ((o.key.toList == (⟨#[]⟩ : ByteArray).toList) && (o.text.toList == (⟨#[]⟩ : ByteArray).toList))), .eq 123 (.bool ((o.key.toList == (⟨#[]⟩ : ByteArray).toList) && (o.text.toList == (⟨#[]⟩ : ByteArray).toList))), .gv ((((o.key.toList == (⟨#[]⟩ : ByteArray).toList) && (o.text.toList == (⟨#[]⟩ : ByteArray).toList)) == true)) 124 (.pointer (some ⟨g1, 6, none⟩)), .gv ((((o.key.toList == (⟨#[]⟩ : ByteArray).toList) && (o.text.toList == (⟨#[]⟩ : ByteArray).toList)) == true)) 125 (.int .i64 o.num), .gv ((((o.key.toList == (⟨#[]⟩ : ByteArray).toList) && (o.text.toList == (⟨#[]⟩ : ByteArray).toList)) == true)) 126 (.bool (charOK o.num)), .eq 127 (.bool (((o.key.toList == (⟨#[]⟩ : ByteArray).toList) && (o.text.toList == (⟨#[]⟩ : ByteArray).toList)) && (charOK o.num))), .eq 2 (.bool (((o.key.toList == (⟨#[]⟩ : ByteArray).toList) && (o.text.toList == (⟨#[]⟩ : ByteArray).toList)) && (charOK o.num))), .eq 1 (.pointer (some ⟨g1, 0, none⟩)), .eq 4 (.bool ((o.key.toList == (⟨#[]⟩ : ByteArray).toList) && (o.text.toList == (⟨#[]⟩ : ByteArray).toList))), .w (Below w14.heap.size w14)] 150 [[8], [0], [1, 7], [1, 2, 9], [1, 3], [1, 4], [5]] [] [6, 7, 8, 9] hM hN hD (by kernel_rfl) ⟨s1, s4, ⟨Below.refl _ _, below_drew (Below.refl _ _)⟩, trivial⟩ ⟨fun _ _ hb h => below_step h hb, trivial⟩ (fun hgrow => ⟨fun _ _ h => rv rfl (x_move rfl h.1) rfl,
            fun _ _ h => rv rfl (x_move rfl h.1) rfl,
            fun _ _ h => rb rfl rfl h.1 (fun hgt => x_field rfl h.2.1 Try.underlying67 rfl sz3 (by decide) rfl) (fun _ z => z),
            fun _ _ h => rb rfl rfl h.1 (fun hgt => x_load1 rfl (h.2.1.1 hgt) Try.underlying3 rfl (blk_one (L := opc o A c) (blk_below HBX1 h.2.2.1) 6 rfl)) (fun _ z => z),
            fun _ _ h => rcb hgrow rfl rfl h.1 Try.func109 (by kernel_rfl) rfl rfl (fun hgt => args1 (h.2.1.1 hgt)) (fun hgt => sChar_calls o.num _) (fun _ _ _ h => h) (fun _ _ z => z),
            fun _ _ h => rv rfl (x_and rfl rfl h.1 (fun hc => h.2.1.1 (beq_iff_eq.2 hc))) rfl,
            fun _ _ h => rv rfl (x_assign rfl h.1) rfl, trivial⟩) ?_
          clear s1 s4 s109 s120
          clear hN hD
          rintro a16 w16 hN hD ⟨s2, s1, s4, hGR, -⟩
          replace HB := below_step HB hGR
          replace HBX1 := blk_below HBX1 hGR
          replace HBX3 := blk_below HBX3 hGR
          clear hGR
          show Code.wp _ _ _ _ _
          refine wp_ret (blk_ret (then_ret ?_))
          refine bodyPost_ret (results_single rfl (vtmp s2 .nil)) hD ?_
          exact ⟨by simp only [sOp, cd4, cd7, cd12, cd15, if_true, if_false, Bool.false_eq_true], HB⟩
        · rw [cd15]
          show Code.wp _ _ _ _ _
          have pd15 := ne_of_beq_false cd15
          refine wp_seq ?_
          refine deedL [.eq 129 (.bool (o.kind == 3)), .eq 128 (.bool (o.kind == 3)), .eq 1 (.pointer (some ⟨g1, 0, none⟩)), .eq 4 (.bool ((o.key.toList == (⟨#[]⟩ : ByteArray).toList) && (o.text.toList == (⟨#[]⟩ : ByteArray).toList))), .eq 109 (.int .i64 o.kind), .w (Below w14.heap.size w14)] 150 [[4], [0]] [] [1, 2, 3, 4, 5] hM hN hD (by kernel_rfl) ⟨s1, s4, s109, ⟨Below.refl _ _, below_drew (Below.refl _ _)⟩, trivial⟩ ⟨fun _ _ hb h => below_step h hb, trivial⟩ (fun hgrow => ⟨fun _ _ h => rv rfl (x_eql rfl h.1 rfl) rfl,
            fun _ _ h => rv rfl (x_assign rfl h.1) rfl, trivial⟩) ?_
          clear s1 s4 s109 s120
          clear hN hD
          rintro a17 w17 hN hD ⟨s128, s1, s4, s109, hGR, -⟩
          replace HB := below_step HB hGR
          replace HBX1 := blk_below HBX1 hGR
          replace HBX3 := blk_below HBX3 hGR
          clear hGR
          show Code.wp _ _ _ _ _
          refine wp_cond (t := o.kind == 3) s128 ?_
          rcases Bool.eq_false_or_eq_true (o.kind == 3) with cd18 | cd18
          · rw [cd18]
            show Code.wp _ _ _ _ _
            have pd18 := eq_of_beq cd18
            refine wp_seq ?_
            refine deedL (.eq 130 (.bool ((o.key.toList == (⟨#[]⟩ : ByteArray).toList) && (o.text.toList == (⟨#[]⟩ : ByteArray).toList))) :: .eq 131 (.bool ((o.key.toList == (⟨#[]⟩ : ByteArray).toList) && (o.text.toList == (⟨#[]⟩ : ByteArray).toList))) :: .gv ((((o.key.toList == (⟨#[]⟩ : ByteArray).toList) && (o.text.toList == (⟨#[]⟩ : ByteArray).toList)) == true)) 132 (.pointer (some ⟨g1, 6, none⟩)) :: .gv ((((o.key.toList == (⟨#[]⟩ : ByteArray).toList) && (o.text.toList == (⟨#[]⟩ : ByteArray).toList)) == true)) 133 (.int .i64 o.num) :: .gv ((((o.key.toList == (⟨#[]⟩ : ByteArray).toList) && (o.text.toList == (⟨#[]⟩ : ByteArray).toList)) == true)) 134 (.bool (o.num == 0)) :: .eq 135 (.bool (((o.key.toList == (⟨#[]⟩ : ByteArray).toList) && (o.text.toList == (⟨#[]⟩ : ByteArray).toList)) && (o.num == 0))) :: .eq 136 (.bool (((o.key.toList == (⟨#[]⟩ : ByteArray).toList) && (o.text.toList == (⟨#[]⟩ : ByteArray).toList)) && (o.num == 0))) :: .gv (((((o.key.toList == (⟨#[]⟩ : ByteArray).toList) && (o.text.toList == (⟨#[]⟩ : ByteArray).toList)) && (o.num == 0)) == true)) 137 (.pointer (some ⟨g1, 8, none⟩)) :: .gv (((((o.key.toList == (⟨#[]⟩ : ByteArray).toList) && (o.text.toList == (⟨#[]⟩ : ByteArray).toList)) && (o.num == 0)) == true)) 138 (.agg #[Value.int .i64 o.att, Value.int .i64 o.ata]) :: .gv (((((o.key.toList == (⟨#[]⟩ : ByteArray).toList) && (o.text.toList == (⟨#[]⟩ : ByteArray).toList)) && (o.num == 0)) == true)) 139 (.bool (noneT o.att o.ata)) :: .gv (((((o.key.toList == (⟨#[]⟩ : ByteArray).toList) && (o.text.toList == (⟨#[]⟩ : ByteArray).toList)) && (o.num == 0)) == true)) 140 (.bool (!(noneT o.att o.ata))) :: .eq 141 (.bool ((((o.key.toList == (⟨#[]⟩ : ByteArray).toList) && (o.text.toList == (⟨#[]⟩ : ByteArray).toList)) && (o.num == 0)) && (!(noneT o.att o.ata)))) :: .eq 2 (.bool ((((o.key.toList == (⟨#[]⟩ : ByteArray).toList) && (o.text.toList == (⟨#[]⟩ : ByteArray).toList)) && (o.num == 0)) && (!(noneT o.att o.ata)))) :: .eq 1 (.pointer (some ⟨g1, 0, none⟩)) :: .eq 4 (.bool ((o.key.toList == (⟨#[]⟩ : ByteArray).toList) && (o.text.toList == (⟨#[]⟩ : ByteArray).toList))) :: .w (Below w17.heap.size w17) :: []) 150 [[14], [0], [1, 13], [1, 2, 15], [1, 3], [1, 4], [5], [6, 13], [6, 7, 15], [6, 8], [6, 9], [6, 10], [11]] [] [12, 13, 14, 15] hM hN hD (by kernel_rfl) ⟨s1, s4, ⟨Below.refl _ _, below_drew (Below.refl _ _)⟩, trivial⟩ ⟨fun _ _ hb h => below_step h hb, trivial⟩ (fun hgrow => ⟨fun _ _ h => rv rfl (x_move rfl h.1) rfl,
              fun _ _ h => rv rfl (x_move rfl h.1) rfl,
              fun _ _ h => rb rfl rfl h.1 (fun hgt => x_field rfl h.2.1 Try.underlying67 rfl sz3 (by decide) rfl) (fun _ z => z),
              fun _ _ h => rb rfl rfl h.1 (fun hgt => x_load1 rfl (h.2.1.1 hgt) Try.underlying3 rfl (blk_one (L := opc o A c) (blk_below HBX1 h.2.2.1) 6 rfl)) (fun _ z => z),
              fun _ _ h => rb rfl rfl h.1 (fun hgt => x_eql rfl (h.2.1.1 hgt) rfl) (fun _ z => z),
              fun _ _ h => rv rfl (x_and rfl rfl h.1 (fun hc => h.2.1.1 (beq_iff_eq.2 hc))) rfl,
              fun _ _ h => rv rfl (x_move rfl h.1) rfl,
              fun _ _ h => rb rfl rfl h.1 (fun hgt => x_field rfl h.2.1 Try.underlying67 rfl sz65 (by decide) rfl) (fun _ z => z),
              fun _ _ h => rb rfl rfl h.1 (fun hgt => x_loadS rfl (h.2.1.1 hgt) Try.underlying65 [.int .i64 o.att, .int .i64 o.ata] sz65 (blk_list (L := opc o A c) (blk_below HBX1 h.2.2.1) 8 rfl)) (fun _ z => z),
              fun _ _ h => rcb hgrow rfl rfl h.1 Try.func107 (by kernel_rfl) rfl rfl (fun hgt => args1 (h.2.1.1 hgt)) (fun hgt => sNone_calls o.att o.ata _) (fun _ _ _ h => h) (fun _ _ z => z),
              fun _ _ h => rb rfl rfl h.1 (fun hgt => x_not rfl (h.2.1.1 hgt)) (fun _ z => z),
              fun _ _ h => rv rfl (x_and rfl rfl h.1 (fun hc => h.2.1.1 (beq_iff_eq.2 hc))) rfl,
              fun _ _ h => rv rfl (x_assign rfl h.1) rfl, trivial⟩) ?_
            clear s1 s4 s109 s128
            clear hN hD
            rintro a19 w19 hN hD ⟨s2, s1, s4, hGR, -⟩
            replace HB := below_step HB hGR
            replace HBX1 := blk_below HBX1 hGR
            replace HBX3 := blk_below HBX3 hGR
            clear hGR
            show Code.wp _ _ _ _ _
            refine wp_ret (blk_ret (then_ret ?_))
            refine bodyPost_ret (results_single rfl (vtmp s2 .nil)) hD ?_
            exact ⟨by simp only [sOp, cd4, cd7, cd12, cd15, cd18, if_true, if_false, Bool.false_eq_true], HB⟩
          · rw [cd18]
            show Code.wp _ _ _ _ _
            have pd18 := ne_of_beq_false cd18
            refine wp_seq ?_
            refine deedL [.eq 143 (.bool (o.kind == 4)), .eq 142 (.bool (o.kind == 4)), .eq 1 (.pointer (some ⟨g1, 0, none⟩)), .eq 4 (.bool ((o.key.toList == (⟨#[]⟩ : ByteArray).toList) && (o.text.toList == (⟨#[]⟩ : ByteArray).toList))), .eq 109 (.int .i64 o.kind), .w (Below w17.heap.size w17)] 150 [[4], [0]] [] [1, 2, 3, 4, 5] hM hN hD (by kernel_rfl) ⟨s1, s4, s109, ⟨Below.refl _ _, below_drew (Below.refl _ _)⟩, trivial⟩ ⟨fun _ _ hb h => below_step h hb, trivial⟩ (fun hgrow => ⟨fun _ _ h => rv rfl (x_eql rfl h.1 rfl) rfl,
              fun _ _ h => rv rfl (x_assign rfl h.1) rfl, trivial⟩) ?_
            clear s1 s4 s109 s128
            clear hN hD
            rintro a20 w20 hN hD ⟨s142, s1, s4, s109, hGR, -⟩
            replace HB := below_step HB hGR
            replace HBX1 := blk_below HBX1 hGR
            replace HBX3 := blk_below HBX3 hGR
            clear hGR
            show Code.wp _ _ _ _ _
            refine wp_cond (t := o.kind == 4) s142 ?_
            rcases Bool.eq_false_or_eq_true (o.kind == 4) with cd21 | cd21
            · rw [cd21]
              show Code.wp _ _ _ _ _
              have pd21 := eq_of_beq cd21
              refine wp_seq ?_
              refine deedL [.eq 144 (.bool ((o.key.toList == (⟨#[]⟩ : ByteArray).toList) && (o.text.toList == (⟨#[]⟩ : ByteArray).toList))), .eq 145 (.bool ((o.key.toList == (⟨#[]⟩ : ByteArray).toList) && (o.text.toList == (⟨#[]⟩ : ByteArray).toList))), .gv ((((o.key.toList == (⟨#[]⟩ : ByteArray).toList) && (o.text.toList == (⟨#[]⟩ : ByteArray).toList)) == true)) 146 (.pointer (some ⟨g1, 8, none⟩)), .gv ((((o.key.toList == (⟨#[]⟩ : ByteArray).toList) && (o.text.toList == (⟨#[]⟩ : ByteArray).toList)) == true)) 147 (.agg #[Value.int .i64 o.att, Value.int .i64 o.ata]), .gv ((((o.key.toList == (⟨#[]⟩ : ByteArray).toList) && (o.text.toList == (⟨#[]⟩ : ByteArray).toList)) == true)) 148 (.bool (noneT o.att o.ata)), .eq 149 (.bool (((o.key.toList == (⟨#[]⟩ : ByteArray).toList) && (o.text.toList == (⟨#[]⟩ : ByteArray).toList)) && (noneT o.att o.ata))), .eq 2 (.bool (((o.key.toList == (⟨#[]⟩ : ByteArray).toList) && (o.text.toList == (⟨#[]⟩ : ByteArray).toList)) && (noneT o.att o.ata))), .eq 1 (.pointer (some ⟨g1, 0, none⟩)), .eq 4 (.bool ((o.key.toList == (⟨#[]⟩ : ByteArray).toList) && (o.text.toList == (⟨#[]⟩ : ByteArray).toList))), .w (Below w20.heap.size w20)] 150 [[8], [0], [1, 7], [1, 2, 9], [1, 3], [1, 4], [5]] [] [6, 7, 8, 9] hM hN hD (by kernel_rfl) ⟨s1, s4, ⟨Below.refl _ _, below_drew (Below.refl _ _)⟩, trivial⟩ ⟨fun _ _ hb h => below_step h hb, trivial⟩ (fun hgrow => ⟨fun _ _ h => rv rfl (x_move rfl h.1) rfl,
                fun _ _ h => rv rfl (x_move rfl h.1) rfl,
                fun _ _ h => rb rfl rfl h.1 (fun hgt => x_field rfl h.2.1 Try.underlying67 rfl sz65 (by decide) rfl) (fun _ z => z),
                fun _ _ h => rb rfl rfl h.1 (fun hgt => x_loadS rfl (h.2.1.1 hgt) Try.underlying65 [.int .i64 o.att, .int .i64 o.ata] sz65 (blk_list (L := opc o A c) (blk_below HBX1 h.2.2.1) 8 rfl)) (fun _ z => z),
                fun _ _ h => rcb hgrow rfl rfl h.1 Try.func107 (by kernel_rfl) rfl rfl (fun hgt => args1 (h.2.1.1 hgt)) (fun hgt => sNone_calls o.att o.ata _) (fun _ _ _ h => h) (fun _ _ z => z),
                fun _ _ h => rv rfl (x_and rfl rfl h.1 (fun hc => h.2.1.1 (beq_iff_eq.2 hc))) rfl,
                fun _ _ h => rv rfl (x_assign rfl h.1) rfl, trivial⟩) ?_
              clear s1 s4 s109 s142
              clear hN hD
              rintro a22 w22 hN hD ⟨s2, s1, s4, hGR, -⟩
              replace HB := below_step HB hGR
              replace HBX1 := blk_below HBX1 hGR
              replace HBX3 := blk_below HBX3 hGR
              clear hGR
              show Code.wp _ _ _ _ _
              refine wp_ret (blk_ret (then_ret ?_))
              refine bodyPost_ret (results_single rfl (vtmp s2 .nil)) hD ?_
              exact ⟨by simp only [sOp, cd4, cd7, cd12, cd15, cd18, cd21, if_true, if_false, Bool.false_eq_true], HB⟩
            · rw [cd21]
              show Code.wp _ _ _ _ _
              have pd21 := ne_of_beq_false cd21
              refine wp_skip ?_
              show Code.wp _ _ _ _ _
              refine wp_seq ?_
              refine deedL [.eq 2 (.bool false), .w (Below w20.heap.size w20)] 150 [[]] [] [0, 1] hM hN hD (by kernel_rfl) ⟨⟨Below.refl _ _, below_drew (Below.refl _ _)⟩, trivial⟩ ⟨fun _ _ hb h => below_step h hb, trivial⟩ (fun hgrow => ⟨fun _ _ _ => rv rfl (x_assign rfl rfl) rfl, trivial⟩) ?_
              clear s1 s4 s109 s142
              clear hN hD
              rintro a23 w23 hN hD ⟨s2, hGR, -⟩
              replace HB := below_step HB hGR
              replace HBX1 := blk_below HBX1 hGR
              replace HBX3 := blk_below HBX3 hGR
              clear hGR
              show Code.wp _ _ _ _ _
              refine wp_ret ?_
              refine bodyPost_ret (results_single rfl (vtmp s2 .nil)) hD ?_
              exact ⟨by simp only [sOp, cd4, cd7, cd12, cd15, cd18, cd21, if_true, if_false, Bool.false_eq_true], HB⟩
end Go.Proofs.Ytideafkiaipnoaa.Q

/- Both tests of an operation are one; what it says. -/
namespace Go.Proofs.Ytideafkiaipnoaa.Q
set_option linter.unusedVariables false
set_option linter.unusedSimpArgs false
open Go
theorem less_lessT (a b c d : Int) : less (a, b) (c, d) = lessT a b c d := by
  unfold less lessT
  by_cases h : a = c
  · simp [h]
  · simp [h]
theorem bor_ite (a b x : Bool) : (if (a || b) = true then false else x) = (if a = true then false else if b = true then false else x) := by cases a <;> cases b <;> rfl
theorem sOp_iOp (o : Op) : sOp o = iOp o := by
  unfold iOp sOp noneT
  simp only [less_lessT, bor_ite, Bool.not_or, Bool.not_not]
/-- What a well-formed operation is, as far as the log asks. -/
structure OpFine (o : Op) : Prop where
  a0 : 0 ≤ o.actor
  a1 : o.actor < 16
  t0 : 1 ≤ o.time
  t1 : o.time ≤ 1000000000000
  s0 : 1 ≤ o.seq
  s1 : o.seq ≤ 1000000000000
  j0 : 1 ≤ o.obj
  j1 : o.obj ≤ 100
  vec : VecOK o.deps
  own : gi o.deps o.actor = o.seq - 1
  kinds : o.kind = 1 ∨ o.kind = 2 ∨ o.kind = 3 ∨ o.kind = 4
theorem ite_f (a x : Bool) : (if a = true then false else x) = true ↔ a = false ∧ x = true := by cases a <;> simp
theorem iOp_fine {o : Op} (h : iOp o = true) : OpFine o := by
  unfold iOp at h
  simp only [bor_ite, ite_f] at h
  obtain ⟨h1, h2, h3, h4, h5, h6, h7, _, _, _, _, _, _, _, hk⟩ := h
  have hs : stampOK o.time o.actor = true := by simpa using h1
  simp [stampOK, actorOK] at hs
  have hv : VecOK o.deps := by simpa [vecOK_iff] using h4
  simp at h2 h3 h5 h6 h7
  refine ⟨hs.2.1, hs.2.2, hs.1.1, hs.1.2, by omega, by omega, by omega, by omega, hv, h5, ?_⟩
  by_cases k1 : o.kind = 1
  · exact .inl k1
  · by_cases k2 : o.kind = 2
    · exact .inr (.inl k2)
    · by_cases k3 : o.kind = 3
      · exact .inr (.inr (.inl k3))
      · by_cases k4 : o.kind = 4
        · exact .inr (.inr (.inr k4))
        · simp [k1, k2, k3, k4] at hk
end Go.Proofs.Ytideafkiaipnoaa.Q

/- Functions walked. -/
namespace Go.Proofs.Ytideafkiaipnoaa.Q
open Go Go.RowKit Go.Proofs.YtideafkiaipnoaaW.PrintWords Go.Proofs.YtideafkiaipnoaaW.PrintLast Go.Proofs.Ytideafkiaipnoaa.Deed
set_option maxRecDepth 100000
set_option linter.unusedVariables false
set_option linter.unusedSimpArgs false
theorem sNew_calls (w : World) : Calls Try.prog 99 #[] w fun e w' => ∃ g, e = .returned (.agg #[.slice (some ⟨g, 0, none⟩) 16 16]) ∧ w.heap.size ≤ g ∧ IB w' g (List.replicate 16 0) 3 ∧ Below w.heap.size w w' := by
  refine calls_of_wp Try.func99 rfl ?_
  refine enter_ (N := 3) rfl ?_
  rintro a0 hN hD ⟨-⟩
  have HB : Below w.heap.size w w := Below.refl _ _
  refine wp_seq ?_
  refine deedL [.s1 0 (NewB w.heap.size [.slice none 0 0] 41), .w (Below w.heap.size w)] 3 [[1]] [] [0, 1] hM hN hD (by kernel_rfl) ⟨⟨Below.refl _ _, below_drew (Below.refl _ _)⟩, trivial⟩ ⟨fun _ _ _ hb h => h.grow hb, fun _ _ hb h => below_step h hb, trivial⟩ (fun hgrow => ⟨fun _ _ h => rbox hgrow rfl (x_alloc rfl zr41) h.1.size (fun _ _ z => z), trivial⟩) ?_
  clear hN hD
  rintro a1 w1 hN hD ⟨⟨g0, s0, lg0, HBX0⟩, hGR, -⟩
  replace HB := below_step HB hGR
  clear hGR
  show Code.wp _ _ _ _ _
  refine wp_seq ?_
  refine deedL [.s1 1 (NewS w1.heap.size 16 (List.replicate 16 0) 3), .s2 1 2 fun x_ y_ _ => ∃ (g1 : Nat), x_ = .slice (some ⟨g1, 0, none⟩) 16 16 ∧ y_ = .agg #[Value.slice (some ⟨g1, 0, none⟩) 16 16], .s1 1 fun x_ W => ∃ (g1 : Nat), x_ = .slice (some ⟨g1, 0, none⟩) 16 16 ∧ W.heap[g0]? = some (.cells ([.slice (some ⟨g1, 0, none⟩) 16 16]).toArray 41 (0, 0)), .eq 0 (.pointer (some ⟨g0, 0, none⟩)), .w (Kx (fun k => k = g0) w1), .w fun W => W.heap[g0]? = some (.cells ([.slice none 0 0]).toArray 41 (0, 0))] 3 [[4], [0], [3, 1, 5]] [[], [], [5]] [0, 2, 3, 4] hM hN hD (by kernel_rfl) ⟨s0, ⟨Kx.refl _ _, Kx.drew _ _⟩, ⟨HBX0, blk_below HBX0 (below_drew (Below.refl _ _))⟩, trivial⟩ ⟨fun _ _ _ hb h => h.grow hb, fun _ _ _ _ hb h => h, fun _ _ _ hb h => by obtain ⟨g1, e_, h_⟩ := h; exact ⟨_, e_, blk_below h_ hb⟩, fun _ _ hb h => h.step hb, fun _ _ hb h => blk_below h hb, trivial⟩ (fun hgrow => ⟨fun _ _ h => rmakeI hgrow rfl (x_makeI rfl rfl rfl Try.underlying24 inf3 rfl (by decide)) h.1.size (fun _ _ z => z),
    ?_,
    ?_, trivial⟩) ?_
  · rintro a_ W ⟨h0, -⟩
    obtain ⟨g1, e0, l0, hb0⟩ := h0
    exact rv rfl (x_build rfl Try.underlying41 zr41 bp41 (bcons e0 rfl) (by kernel_rfl) (ps := [(0, _)]) (vs := [(0, .slice (some ⟨g1, 0, none⟩) 16 16)]) (L := [.slice (some ⟨g1, 0, none⟩) 16 16])) ⟨_, e0, rfl⟩
  · rintro a_ W ⟨h3, h1, h5, -⟩
    obtain ⟨g1, r1, e1⟩ := h1
    exact rstoreS rfl rfl h3 e1 (by simp [Value.oneCell']) sz41 h5 rfl ⟨_, r1, blk_stored (cs := [.slice (some ⟨g1, 0, none⟩) 16 16]) 0 _ [.slice none 0 0] h5 (of_decide_eq_true rfl)⟩ ⟨fun h => h.otherS (blk_lt HBX0), id, fun h => h.sets rfl _ _, trivial⟩
  clear s0
  clear hN hD
  rintro a2 w2 hN hD ⟨⟨g1, s1, lg1, HBX1⟩, qs2, s0, hGR, -⟩
  obtain ⟨g1_, e_, MBX0⟩ := qs2
  cases s1.symm.trans e_
  replace lg1 := Nat.le_trans HB.size lg1
  have NB := Kx.below HB hGR HB.size (fun k e => by subst e; exact lg0)
  replace HB := NB
  clear NB
  replace HBX0 := MBX0
  clear MBX0
  clear hGR
  show Code.wp _ _ _ _ _
  refine wp_ret ?_
  refine bodyPost_ret (results_single rfl (vcell s0 HBX0 Try.underlying41 rfl sz41 .nil)) hD ?_
  exact ⟨g1, rfl, lg1, HBX1, HB⟩
/-- How many operations of each actor. -/
def cnt (os : List Op) : List Int := os.foldl (fun cs o => si cs o.actor (gi cs o.actor + 1)) (List.replicate 16 0)
theorem cnt_snoc (os : List Op) (o : Op) : cnt (os ++ [o]) = si (cnt os) o.actor (gi (cnt os) o.actor + 1) := by simp [cnt]
theorem cnt_length (os : List Op) : (cnt os).length = 16 := by
  unfold cnt
  suffices h : ∀ (cs : List Int), cs.length = 16 → (os.foldl (fun cs o => si cs o.actor (gi cs o.actor + 1)) cs).length = 16 from h _ (by simp)
  induction os with
  | nil => intro cs h; exact h
  | cons o r ih => intro cs h; exact ih _ (by rw [si_length]; exact h)
theorem take_snoc {os : List Op} {i : Int} (h0 : 0 ≤ i) (h1 : i < os.length) : os.take (i + 1).toNat = os.take i.toNat ++ [go_ os i] := by
  rw [show (i + 1).toNat = i.toNat + 1 by omega, List.take_add_one, go_of h0 h1]
  rfl
/-- How many of actor a. -/
def num (os : List Op) (a : Int) : Int := ((os.filter fun o => o.actor == a).length : Int)
theorem num_snoc (os : List Op) (o : Op) (a : Int) : num (os ++ [o]) a = num os a + if o.actor = a then 1 else 0 := by
  unfold num
  rw [List.filter_append, List.length_append]
  by_cases h : o.actor = a <;> simp [h]
theorem num_le (os : List Op) (a : Int) : 0 ≤ num os a ∧ num os a ≤ os.length := by
  unfold num
  have := List.length_filter_le (fun o : Op => o.actor == a) os
  omega
theorem gi_rep (n : Nat) (a : Int) : gi (List.replicate n 0) a = 0 := by
  unfold gi
  rw [List.getD_eq_getElem?_getD, List.getElem?_replicate]
  split <;> rfl
def Actors (os : List Op) : Prop := ∀ o ∈ os, 0 ≤ o.actor ∧ o.actor < 16
theorem gi_cnt {os : List Op} (h : Actors os) {a : Int} (h0 : 0 ≤ a) (h1 : a < 16) : gi (cnt os) a = num os a := by
  have key : ∀ (r : List Op), Actors r → ∀ a : Int, 0 ≤ a → a < 16 → gi (cnt r.reverse) a = num r.reverse a := by
    intro r
    induction r with
    | nil =>
      intro _ a h0 h1
      show gi (List.replicate 16 0) a = _
      rw [gi_rep]
      simp [num]
    | cons o r ih =>
      intro hr a h0 h1
      obtain ⟨ho0, ho1⟩ := hr o (by simp)
      have hr' : Actors r := fun x hx => hr x (by simp [hx])
      rw [List.reverse_cons, cnt_snoc, num_snoc, gi_si ho0 (by rw [cnt_length]; omega) h0, ih hr' _ ho0 ho1, ih hr' _ h0 h1]
      by_cases e : a = o.actor
      · subst e; simp
      · rw [if_neg e, if_neg (fun h => e h.symm)]; simp
  have := key os.reverse (fun o ho => h o (by simpa using ho)) a h0 h1
  rwa [List.reverse_reverse] at this
/-- What each object is, as the log tells it last. -/
def tf (f : Op → Int) (os : List Op) : List Int := os.foldl (fun ts o => si ts o.obj (f o)) (List.replicate 101 0)
theorem tf_snoc (f : Op → Int) (os : List Op) (o : Op) : tf f (os ++ [o]) = si (tf f os) o.obj (f o) := by simp [tf]
theorem tf_length (f : Op → Int) (os : List Op) : (tf f os).length = 101 := by
  unfold tf
  suffices h : ∀ (cs : List Int), cs.length = 101 → (os.foldl (fun ts o => si ts o.obj (f o)) cs).length = 101 from h _ (by simp)
  induction os with
  | nil => intro cs h; exact h
  | cons o r ih => intro cs h; exact ih _ (by rw [si_length]; exact h)
theorem Actors.take {os : List Op} (h : Actors os) (n : Nat) : Actors (os.take n) := fun o ho => h o (List.mem_of_mem_take ho)
theorem Actors.at_ {os : List Op} (h : Actors os) {i : Int} (h0 : 0 ≤ i) (h1 : i < os.length) : 0 ≤ (go_ os i).actor ∧ (go_ os i).actor < 16 := h _ (List.mem_of_getElem? (go_of h0 h1))
set_option maxHeartbeats 2000000 in
theorem sCounts_calls (A : Option Addr) (os : List Op) (D : Nat → Option Addr) (C : Nat → Nat) (c : Nat) (w : World) (HR : RO w A os D C) (HA : Actors os) (HL : os.length ≤ 4096) : Calls Try.prog 64 #[.slice A os.length c] w fun e w' => ∃ g, e = .returned (.agg #[.slice (some ⟨g, 0, none⟩) 16 16]) ∧ w.heap.size ≤ g ∧ IB w' g (cnt os) 3 ∧ Below w.heap.size w w' := by
  refine calls_of_wp Try.func64 rfl ?_
  refine enter_ (N := 24) rfl ?_
  rintro a0 hN hD ⟨s0, -⟩
  have HB : Below w.heap.size w w := Below.refl _ _
  refine wp_seq ?_
  refine deedL [.s1 2 (NewB w.heap.size [.slice none 0 0] 41), .eq 0 (.slice A os.length c), .w (Below w.heap.size w)] 24 [[2]] [] [0, 1, 2] hM hN hD (by kernel_rfl) ⟨s0, ⟨Below.refl _ _, below_drew (Below.refl _ _)⟩, trivial⟩ ⟨fun _ _ _ hb h => h.grow hb, fun _ _ hb h => below_step h hb, trivial⟩ (fun hgrow => ⟨fun _ _ h => rbox hgrow rfl (x_alloc rfl zr41) h.1.size (fun _ _ z => z), trivial⟩) ?_
  clear s0
  clear hN hD
  rintro a1 w1 hN hD ⟨⟨g2, s2, lg2, HBX2⟩, s0, hGR, -⟩
  replace HB := below_step HB hGR
  clear hGR
  show Code.wp _ _ _ _ _
  refine wp_seq ?_
  refine deedL [.s1 5 fun x_ W => ∃ (gz : Nat), x_ = .agg #[Value.slice (some ⟨gz, 0, none⟩) 16 16] ∧ w1.heap.size ≤ gz ∧ IB W gz (List.replicate 16 0) 3, .s1 3 (NewB w1.heap.size [.slice none 0 0] 41), .s2 5 3 fun x_ y_ W => ∃ (gz : Nat), x_ = .agg #[Value.slice (some ⟨gz, 0, none⟩) 16 16] ∧ NewB w1.heap.size [.slice (some ⟨gz, 0, none⟩) 16 16] 41 y_ W, .eq 0 (.slice A os.length c), .eq 2 (.pointer (some ⟨g2, 0, none⟩)), .w (Below w1.heap.size w1)] 24 [[5], [5], [1, 0, 5]] [[], [], [1]] [0, 2, 3, 4, 5] hM hN hD (by kernel_rfl) ⟨s0, s2, ⟨Below.refl _ _, below_drew (Below.refl _ _)⟩, trivial⟩ ⟨fun _ _ _ hb h => by obtain ⟨gz, e_, z0, z1⟩ := h; exact ⟨_, e_, z0, z1.below hb⟩, fun _ _ _ hb h => h.grow hb, fun _ _ _ _ hb h => by obtain ⟨gz, e_, h_⟩ := h; exact ⟨_, e_, h_.grow hb⟩, fun _ _ hb h => below_step h hb, trivial⟩ (fun hgrow => ⟨fun _ _ h => rc hgrow rfl Try.func99 (by kernel_rfl) rfl rfl (args0) (sNew_calls _) (fun _ _ hR => by obtain ⟨gz, e_, z0, z1, hb⟩ := hR; exact ⟨_, e_, hb, gz, rfl, (Nat.le_trans h.1.size z0), z1⟩),
    fun _ _ h => rbox hgrow rfl (x_alloc rfl zr41) h.1.size (fun _ _ z => z),
    ?_, trivial⟩) ?_
  · rintro a_ W ⟨h1, h0, h5, -⟩
    obtain ⟨gz, e0, HLgz, HCgz⟩ := h0
    obtain ⟨g3, e2, l2, hb2⟩ := h1
    exact rstoreS rfl rfl e2 e0 (by simp [Value.oneCell']) sz41 hb2 rfl ⟨_, e0, ⟨_, e2, l2, blk_stored (cs := [.slice (some ⟨gz, 0, none⟩) 16 16]) 0 _ [.slice none 0 0] hb2 (of_decide_eq_true rfl)⟩⟩ ⟨fun h => by obtain ⟨gz, e_, z0, z1⟩ := h; exact ⟨_, e_, z0, (setCells_far _ _ _ (blk_neT z1 hb2 rfl)).trans z1⟩, fun h => below_cells h l2, trivial⟩
  clear s0 s2
  clear hN hD
  rintro a2 w2 hN hD ⟨⟨gz, s5, HLgz, HCgz⟩, qs2, s0, s2, hGR, -⟩
  obtain ⟨gz_, e_, g3, s3, lg3, HBX3⟩ := qs2
  cases s5.symm.trans e_
  have lgz := HLgz
  clear HLgz
  have n_g2_g3 : g2 ≠ g3 := by have := blk_lt HBX2; omega
  replace lgz := Nat.le_trans HB.size lgz
  replace lg3 := Nat.le_trans HB.size lg3
  replace HB := below_step HB hGR
  replace HBX2 := blk_below HBX2 hGR
  clear hGR
  show Code.wp _ _ _ _ _
  refine wp_seq ?_
  refine wp_seq ?_
  refine deedL [.eq 4 (.int .i64 0), .eq 0 (.slice A os.length c), .eq 2 (.pointer (some ⟨g2, 0, none⟩)), .eq 3 (.pointer (some ⟨g3, 0, none⟩)), .w (Below w2.heap.size w2)] 24 [[]] [] [0, 1, 2, 3, 4] hM hN hD (by kernel_rfl) ⟨s0, s2, s3, ⟨Below.refl _ _, below_drew (Below.refl _ _)⟩, trivial⟩ ⟨fun _ _ hb h => below_step h hb, trivial⟩ (fun hgrow => ⟨fun _ _ _ => rv rfl (x_assign rfl rfl) rfl, trivial⟩) ?_
  clear s0 s2 s3
  clear hN hD
  rintro a3 w3 hN hD ⟨s4, s0, s2, s3, hGR, -⟩
  replace HB := below_step HB hGR
  replace HBX2 := blk_below HBX2 hGR
  replace HCgz := HCgz.below hGR
  replace HBX3 := blk_below HBX3 hGR
  clear hGR
  show Code.wp _ _ _ _ _
  refine wp_block ?_
  refine wp_loopN (fun n_ q_ w_ => ∃ (i : Int), (q_.tmps.size = 24) ∧ (q_.defers = []) ∧ (sl q_ 0 = .slice A os.length c) ∧ (sl q_ 2 = .pointer (some ⟨g2, 0, none⟩)) ∧ (sl q_ 3 = .pointer (some ⟨g3, 0, none⟩)) ∧ (sl q_ 4 = .int .i64 i) ∧ (Below w.heap.size w w_) ∧ (w_.heap[g2]? = some (.cells ([.slice none 0 0]).toArray 41 (0, 0))) ∧ (w_.heap[g3]? = some (.cells ([.slice (some ⟨gz, 0, none⟩) 16 16]).toArray 41 (0, 0))) ∧ (IB w_ gz (cnt (os.take i.toNat)) 3) ∧ (0 ≤ i) ∧ (i ≤ os.length) ∧ (n_ = (os.length - i).toNat)) ((fun (i : Int) => (os.length - i).toNat) 0) ?_ ?_
  · exact ⟨0, hN, hD, s0, s2, s3, s4, HB, HBX2, HBX3, HCgz, (by omega), (by omega), rfl⟩
  clear s0 s2 s3 s4 HB HBX2 HCgz HBX3 hN hD
  rintro n_4 a4 w4 ⟨i, hN, hD, s0, s2, s3, s4, HB, HBX2, HBX3, HCgz, hi0, hi1, hmeas⟩
  have hcl := cnt_length (os.take i.toNat)
  refine wp_seq ?_
  refine wp_seq ?_
  refine deedL [.eq 6 (.int .i64 i), .eq 7 (.slice A os.length c), .eq 8 (.int .i64 (os.length : Int)), .eq 9 (.bool (decide (i < (os.length : Int)))), .eq 0 (.slice A os.length c), .eq 2 (.pointer (some ⟨g2, 0, none⟩)), .eq 3 (.pointer (some ⟨g3, 0, none⟩)), .eq 4 (.int .i64 i), .w (Below w4.heap.size w4)] 24 [[7], [4], [1], [0, 2]] [] [3, 4, 5, 6, 7, 8] hM hN hD (by kernel_rfl) ⟨s0, s2, s3, s4, ⟨Below.refl _ _, below_drew (Below.refl _ _)⟩, trivial⟩ ⟨fun _ _ hb h => below_step h hb, trivial⟩ (fun hgrow => ⟨fun _ _ h => rv rfl (x_move rfl h.1) rfl,
    fun _ _ h => rv rfl (x_move rfl h.1) rfl,
    fun _ _ h => rv rfl (x_len_slice rfl Try.underlying27 h.1) rfl,
    fun _ _ h => rv rfl (x_lss rfl h.1 h.2.1) rfl, trivial⟩) ?_
  clear s0 s2 s3 s4
  clear hN hD
  rintro a5 w5 hN hD ⟨s9, s0, s2, s3, s4, hGR, -⟩
  replace HB := below_step HB hGR
  replace HBX2 := blk_below HBX2 hGR
  replace HBX3 := blk_below HBX3 hGR
  replace HCgz := HCgz.below hGR
  clear hGR
  show Code.wp _ _ _ _ _
  refine wp_cond (t := decide (i < (os.length : Int))) s9 ?_
  rcases Bool.eq_false_or_eq_true (decide (i < (os.length : Int))) with cd6 | cd6
  · rw [cd6]
    show Code.wp _ _ _ _ _
    have pd6 := of_decide_eq_true cd6
    refine wp_skip ?_
    show Code.wp _ _ _ _ _
    refine wp_seq ?_
    refine wp_block ?_
    have hac := HA.at_ hi0 pd6
    have hgc := gi_cnt (HA.take i.toNat) hac.1 hac.2
    have hnl := num_le (os.take i.toNat) (go_ os i).actor
    have htl : (os.take i.toNat).length ≤ os.length := by simp; omega
    refine deedL (.eq 12 (.pointer (some ⟨g3, 0, none⟩)) :: .eq 13 (.slice (some ⟨gz, 0, none⟩) 16 16) :: .eq 14 (.slice A os.length c) :: .eq 15 (.int .i64 i) :: .eq 16 (.pointer (some ((adr A).add (i.toNat * 12)))) :: .eq 17 (.pointer (some ((adr A).add (i.toNat * 12)))) :: .eq 18 (.int .i64 ((go_ os i).actor)) :: .eq 19 (.pointer (some ⟨gz, ((go_ os i).actor).toNat, none⟩)) :: .eq 20 (.int .i64 (gi (cnt (os.take i.toNat)) ((go_ os i).actor))) :: .eq 21 (.int .i64 (gi (cnt (os.take i.toNat)) ((go_ os i).actor) + 1)) :: .eq 22 (.pointer (some ⟨gz, ((go_ os i).actor).toNat, none⟩)) :: (.w fun W => IB W gz (si (cnt (os.take i.toNat)) ((go_ os i).actor) (gi (cnt (os.take i.toNat)) ((go_ os i).actor) + 1)) 3) :: .eq 0 (.slice A os.length c) :: .eq 2 (.pointer (some ⟨g2, 0, none⟩)) :: .eq 3 (.pointer (some ⟨g3, 0, none⟩)) :: .eq 4 (.int .i64 i) :: (.w (Kx (fun k => k = gz) w5)) :: (.w fun W => IB W gz (cnt (os.take i.toNat)) 3) :: []) 24 [[14], [0, 16], [12], [15], [2, 3], [4], [5, 16], [1, 6], [7, 17], [8], [1, 6], [10, 9, 17]] [[], [], [], [], [], [], [], [], [], [], [], [17]] [11, 12, 13, 14, 15, 16] hM hN hD (by kernel_rfl) ⟨s0, s2, s3, s4, ⟨Kx.refl _ _, Kx.drew _ _⟩, ⟨HCgz, HCgz.below (below_drew (Below.refl _ _))⟩, trivial⟩ ⟨fun _ _ hb h => h.below hb, fun _ _ hb h => h.step hb, fun _ _ hb h => h.below hb, trivial⟩ (fun hgrow => ⟨fun _ _ h => rv rfl (x_field rfl h.1 Try.underlying41 rfl sz24 (by decide) rfl) rfl,
      fun _ _ h => rv rfl (x_load1 rfl h.1 Try.underlying24 rfl (blk_one (L := [.slice (some ⟨gz, 0, none⟩) 16 16]) (blk_kx HBX3 h.2.1 (fun e => (blk_neT HBX3 HCgz rfl) e)) 0 rfl)) rfl,
      fun _ _ h => rv rfl (x_move rfl h.1) rfl,
      fun _ _ h => rv rfl (x_move rfl h.1) rfl,
      fun _ _ h => rv rfl (x_index_at rfl h.1 h.2.1 Try.underlying27 sz67 (by omega) (by omega) (RO.ad HR i (by omega) (by omega))) rfl,
      fun _ _ h => rv rfl (x_field rfl h.1 Try.underlying67 rfl sz3 (by decide) rfl) rfl,
      fun _ _ h => rv rfl (x_load1 rfl h.1 Try.underlying3 rfl (RO.cell0 HR (Kx.below HB h.2.1 HB.size (fun k e => by subst e; exact lgz)) (by omega) (by omega))) rfl,
      fun _ _ h => rv rfl (x_index_slice rfl h.1 h.2.1 Try.underlying24 sz3 (by omega) (by omega) (ptr1 _ _)) rfl,
      fun _ _ h => rv rfl (x_load1 rfl h.1 Try.underlying3 rfl (IB.at_ h.2.1 (by omega) (by omega))) rfl,
      fun _ _ h => rv rfl (x_add' rfl h.1 rfl (by omega)) rfl,
      fun _ _ h => rv rfl (x_index_slice rfl h.1 h.2.1 Try.underlying24 sz3 (by omega) (by omega) (ptr1 _ _)) rfl,
      ?_, trivial⟩) ?_
    · rintro a_ W ⟨h10, h9, h17, -⟩
      exact rstoreI rfl rfl h10 h9 sz3 h17 (by omega) (by omega) (IB.set h17 _ _) ⟨fun h => h.set rfl _ _, trivial⟩
    clear s0 s2 s3 s4 s9
    clear hN hD
    rintro a7 w7 hN hD ⟨MCgz, s0, s2, s3, s4, hGR, -⟩
    have NB := Kx.below HB hGR HB.size (fun k e => by subst e; exact lgz)
    have NBX2 := blk_kx HBX2 hGR (fun e => (blk_neT HBX2 HCgz rfl) e)
    have NBX3 := blk_kx HBX3 hGR (fun e => (blk_neT HBX3 HCgz rfl) e)
    replace HB := NB
    replace HBX2 := NBX2
    replace HBX3 := NBX3
    clear NB NBX2 NBX3
    replace HCgz := MCgz
    clear MCgz
    clear hGR
    show Code.wp _ _ _ _ _
    refine deedL [.eq 10 (.int .i64 i), .eq 11 (.int .i64 (i + 1)), .eq 4 (.int .i64 (i + 1)), .eq 0 (.slice A os.length c), .eq 2 (.pointer (some ⟨g2, 0, none⟩)), .eq 3 (.pointer (some ⟨g3, 0, none⟩)), .eq 4 (.int .i64 i), .w (Below w7.heap.size w7)] 24 [[6], [0], [1]] [[], [], [6]] [2, 3, 4, 5, 7] hM hN hD (by kernel_rfl) ⟨s0, s2, s3, s4, ⟨Below.refl _ _, below_drew (Below.refl _ _)⟩, trivial⟩ ⟨fun _ _ hb h => below_step h hb, trivial⟩ (fun hgrow => ⟨fun _ _ h => rv rfl (x_move rfl h.1) rfl,
      fun _ _ h => rv rfl (x_add' rfl h.1 rfl (by omega)) rfl,
      fun _ _ h => rv rfl (x_assign rfl h.1) rfl, trivial⟩) ?_
    clear s0 s2 s3 s4
    clear hN hD
    rintro a8 w8 hN hD ⟨s4, s0, s2, s3, hGR, -⟩
    replace HB := below_step HB hGR
    replace HBX2 := blk_below HBX2 hGR
    replace HBX3 := blk_below HBX3 hGR
    replace HCgz := HCgz.below hGR
    clear hGR
    show ∃ m, m < n_4 ∧ _
    exact ⟨_, (by omega), ⟨(i + 1), hN, hD, s0, s2, s3, s4, HB, HBX2, HBX3, (by rw [take_snoc hi0 pd6, cnt_snoc]; exact HCgz), (by omega), (by omega), rfl⟩⟩
  · rw [cd6]
    show Code.wp _ _ _ _ _
    have pd6 := of_decide_eq_false cd6
    refine wp_exit (then_exit (then_exit (at_exit ?_)))
    show Code.wp _ _ _ _ _
    refine wp_seq ?_
    refine deedL [.eq 23 (.agg #[Value.slice (some ⟨gz, 0, none⟩) 16 16]), .w fun W => W.heap[g2]? = some (.cells ([.slice (some ⟨gz, 0, none⟩) 16 16]).toArray 41 (0, 0)), .eq 2 (.pointer (some ⟨g2, 0, none⟩)), .eq 3 (.pointer (some ⟨g3, 0, none⟩)), .w (Kx (fun k => k = g2) w5), .w fun W => W.heap[g2]? = some (.cells ([.slice none 0 0]).toArray 41 (0, 0))] 24 [[3, 4], [2, 0, 5]] [[], [5]] [1, 2, 3, 4] hM hN hD (by kernel_rfl) ⟨s2, s3, ⟨Kx.refl _ _, Kx.drew _ _⟩, ⟨HBX2, blk_below HBX2 (below_drew (Below.refl _ _))⟩, trivial⟩ ⟨fun _ _ hb h => blk_below h hb, fun _ _ hb h => h.step hb, fun _ _ hb h => blk_below h hb, trivial⟩ (fun hgrow => ⟨fun _ _ h => rv rfl (x_loadS rfl h.1 Try.underlying41 [.slice (some ⟨gz, 0, none⟩) 16 16] sz41 (blk_list (L := [.slice (some ⟨gz, 0, none⟩) 16 16]) (blk_kx HBX3 h.2.1 (fun e => (Ne.symm n_g2_g3) e)) 0 rfl)) rfl,
      ?_, trivial⟩) ?_
    · rintro a_ W ⟨h2, h0, h5, -⟩
      exact rstoreS rfl rfl h2 h0 (by simp [Value.oneCell']) sz41 h5 rfl (blk_stored (cs := [.slice (some ⟨gz, 0, none⟩) 16 16]) 0 _ [.slice none 0 0] h5 (of_decide_eq_true rfl)) ⟨fun h => h.sets rfl _ _, trivial⟩
    clear s0 s2 s3 s4 s9
    clear hN hD
    rintro a9 w9 hN hD ⟨MBX2, s2, s3, hGR, -⟩
    have NB := Kx.below HB hGR HB.size (fun k e => by subst e; exact lg2)
    have NBX3 := blk_kx HBX3 hGR (fun e => (Ne.symm n_g2_g3) e)
    have NCgz : IB w9 gz (cnt (os.take i.toNat)) 3 := blk_kx HCgz hGR (fun e => (blk_neT HCgz HBX2 rfl) e)
    replace HB := NB
    replace HBX3 := NBX3
    replace HCgz := NCgz
    clear NB NBX3 NCgz
    replace HBX2 := MBX2
    clear MBX2
    clear hGR
    show Code.wp _ _ _ _ _
    refine wp_ret ?_
    refine bodyPost_ret (results_single rfl (vcell s2 HBX2 Try.underlying41 rfl sz41 .nil)) hD ?_
    exact ⟨gz, rfl, lgz, (by rw [show os.take i.toNat = os from by rw [List.take_of_length_le]; omega] at HCgz; exact HCgz), HB⟩
end Go.Proofs.Ytideafkiaipnoaa.Q

/- The book of a log: what it is; its rows read. -/
namespace Go.Proofs.Ytideafkiaipnoaa.Q
set_option linter.unusedVariables false
set_option linter.unusedSimpArgs false
open Go Go.RowKit Go.Proofs.YtideafkiaipnoaaW.PrintWords Go.Proofs.Ytideafkiaipnoaa.Deed
def Bk.zero : Bk := ⟨List.replicate 16 [], List.replicate 101 0, 0, (0, 0)⟩
def bk (ls : List LO) : Bk := ls.foldl Bk.put Bk.zero
theorem bk_snoc (ls : List LO) (x : LO) : bk (ls ++ [x]) = (bk ls).put x := by simp [bk]
def lo (os : List Op) (D : Nat → Option Addr) (C : Nat → Nat) (i : Nat) : LO := ⟨os.getD i default, D i, C i⟩
/-- The first n operations, located. -/
def los (os : List Op) (D : Nat → Option Addr) (C : Nat → Nat) (n : Nat) : List LO := (List.range n).map (lo os D C)
theorem los_snoc {os : List Op} {D : Nat → Option Addr} {C : Nat → Nat} {i : Int} (h0 : 0 ≤ i) : los os D C (i + 1).toNat = los os D C i.toNat ++ [⟨go_ os i, D i.toNat, C i.toNat⟩] := by
  rw [show (i + 1).toNat = i.toNat + 1 by omega]
  simp [los, List.range_succ, lo, go_]
theorem los_ops {os : List Op} {D : Nat → Option Addr} {C : Nat → Nat} {n : Nat} (h : n ≤ os.length) : (los os D C n).map (·.o) = os.take n := by
  apply List.ext_getElem
  · simp [los]; omega
  · intro i h1 h2
    simp [los] at h1
    have : i < os.length := by omega
    simp [los, lo, List.getD_eq_getElem?_getD, this]
theorem los_length (os : List Op) (D : Nat → Option Addr) (C : Nat → Nat) (n : Nat) : (los os D C n).length = n := by simp [los]
theorem rev_ind {α : Type} {p : List α → Prop} (h0 : p []) (h1 : ∀ l x, p l → p (l ++ [x])) (l : List α) : p l := by
  have : ∀ r : List α, p r.reverse := by
    intro r
    induction r with
    | nil => exact h0
    | cons x r ih => rw [List.reverse_cons]; exact h1 _ _ ih
  have h := this l.reverse
  rwa [List.reverse_reverse] at h
theorem bk_lof (ls : List LO) : (bk ls).of.length = 16 := by
  induction ls using rev_ind with
  | h0 => simp [bk, Bk.zero]
  | h1 l x ih => rw [bk_snoc]; simp [Bk.put, ih]
theorem bk_size (ls : List LO) : (bk ls).size = ls.length := by
  induction ls using rev_ind with
  | h0 => simp [bk, Bk.zero]
  | h1 l x ih => rw [bk_snoc]; simp [Bk.put, ih]
theorem bk_kind (ls : List LO) : (bk ls).kind = tf thing (ls.map (·.o)) := by
  induction ls using rev_ind with
  | h0 => rfl
  | h1 l x ih => rw [bk_snoc, List.map_append, List.map_singleton, tf_snoc, ← ih]; rfl
theorem bk_of (ls : List LO) (ha : ∀ x ∈ ls, 0 ≤ x.o.actor ∧ x.o.actor < 16) {a : Int} (h0 : 0 ≤ a) (h1 : a < 16) : (bk ls).of.getD a.toNat [] = ls.filter fun x => x.o.actor == a := by
  induction ls using rev_ind with
  | h0 =>
    show (List.replicate 16 ([] : List LO)).getD a.toNat [] = _
    rw [List.getD_eq_getElem?_getD, List.getElem?_replicate]
    split <;> rfl
  | h1 l x ih =>
    have hl := bk_lof l
    obtain ⟨hx0, hx1⟩ := ha x (by simp)
    have ih' := ih (fun y hy => ha y (by simp [hy]))
    rw [bk_snoc, List.filter_append]
    show ((bk l).of.set x.o.actor.toNat ((bk l).of.getD x.o.actor.toNat [] ++ [x])).getD a.toNat [] = _
    by_cases e : x.o.actor = a
    · subst e
      rw [List.getD_eq_getElem?_getD, List.getElem?_set_self (by omega), Option.getD_some, ih']
      simp
    · have : x.o.actor.toNat ≠ a.toNat := by omega
      rw [List.getD_eq_getElem?_getD, List.getElem?_set_ne this, ← List.getD_eq_getElem?_getD, ih']
      simp [e]
theorem bk_of_le (ls : List LO) (i : Nat) : ((bk ls).of.getD i []).length ≤ ls.length := by
  induction ls using rev_ind with
  | h0 =>
    show ((List.replicate 16 ([] : List LO)).getD i []).length ≤ _
    rw [List.getD_eq_getElem?_getD, List.getElem?_replicate]
    split <;> simp
  | h1 l x ih =>
    rw [bk_snoc]
    show (((bk l).of.set x.o.actor.toNat ((bk l).of.getD x.o.actor.toNat [] ++ [x])).getD i []).length ≤ _
    have hx : ∀ j, ((bk l).of.getD j []).length ≤ l.length ∨ True := fun _ => .inr trivial
    by_cases e : x.o.actor.toNat = i
    · subst e
      by_cases hl : x.o.actor.toNat < (bk l).of.length
      · rw [List.getD_eq_getElem?_getD, List.getElem?_set_self hl]
        simp only [Option.getD_some, List.length_append, List.length_singleton]
        exact Nat.succ_le_succ ih
      · rw [List.set_eq_of_length_le (by omega)]
        simp only [List.length_append, List.length_singleton]
        omega
    · rw [List.getD_eq_getElem?_getD, List.getElem?_set_ne e, ← List.getD_eq_getElem?_getD]
      simp only [List.length_append, List.length_singleton]
      omega
/-- The n-th of actor a. -/
def lnth (os : List Op) (D : Nat → Option Addr) (C : Nat → Nat) (a n : Int) : LO := ((los os D C os.length).filter fun x => x.o.actor == a).getD (n - 1).toNat default
def onth (os : List Op) (a n : Int) : Op := (os.filter fun o => o.actor == a).getD (n - 1).toNat default
theorem lnth_o (os : List Op) (D : Nat → Option Addr) (C : Nat → Nat) (a n : Int) : (lnth os D C a n).o = onth os a n := by
  have h : os.filter (fun o => o.actor == a) = ((los os D C os.length).filter fun x => x.o.actor == a).map (·.o) := by
    have h2 := los_ops (os := os) (D := D) (C := C) (Nat.le_refl os.length)
    rw [List.take_length] at h2
    conv => lhs; rw [← h2]
    rw [List.filter_map]
    rfl
  unfold lnth onth
  rw [h, List.getD_eq_getElem?_getD, List.getD_eq_getElem?_getD, List.getElem?_map]
  cases ((los os D C os.length).filter fun x => x.o.actor == a)[(n - 1).toNat]? <;> rfl
/-! ### The book's blocks are the call's own -/
def okW (w W : World) (k : Nat) : Prop := w.heap.size ≤ k ∧ k < W.heap.size
section
variable {w0 w W W' : World} {ok : Nat → Prop} {g : Nat} {vs : List Value} {B : Bk}
theorem BookAt.lift (h : BookAt w0 ok W g vs B) (hok : ∀ k, ok k → w.heap.size ≤ k) : BookAt w0 (okW w W) W g vs B :=
  ⟨⟨hok _ h.okg, h.lt⟩, h.lvs, h.lof, h.lkind, h.blk, fun i v ps hv hps => ⟨(h.rows i v ps hv hps).1, fun k hk => by
    obtain ⟨⟨inner, ho, _⟩, h2⟩ := h.rows i v ps hv hps
    exact ⟨hok _ (h2 k hk), own_lt ho k hk⟩⟩, h.apart⟩
theorem BookAt.stepW (h : BookAt w0 (okW w W) W g vs B) (hb : Below W.heap.size W W') : BookAt w0 (okW w W') W' g vs B := (h.below hb).imp fun _ hk => ⟨hk.1, Nat.lt_of_lt_of_le hk.2 hb.size⟩
/-- A book with nothing in it. -/
theorem BookAt.zero (hb : W.heap[g]? = some (.cells (bookCells (List.replicate 16 (.slice none 0 0)) Bk.zero).toArray 75 (0, 0))) (hok : ok g) : BookAt w0 ok W g (List.replicate 16 (.slice none 0 0)) Bk.zero := by
  refine ⟨hok, by simp, rfl, by simp [Bk.zero], hb, ?_, ?_⟩
  · intro i v ps hv hps
    have h1 : v = .slice none 0 0 := by
      rw [List.getElem?_replicate] at hv
      split at hv <;> simp_all
    have h2 : ps = [] := by
      simp only [Bk.zero] at hps
      rw [List.getElem?_replicate] at hps
      split at hps <;> simp_all
    subst h1 h2
    exact ⟨OwnRow.none_ _ _ _ _ _, fun k hk => by simp [Value.ownBlock] at hk⟩
  · intro i j u v _ hu _ k hk
    rw [List.getElem?_replicate] at hu
    split at hu
    · cases hu; simp [Value.ownBlock] at hk
    · cases hu
end
def vadr : Value → Addr
  | .slice A _ _ => adr A
  | _ => ⟨0, 0, none⟩
section
variable {P : Program} {ρ : Operand → Value} {o : Oper} {w : World} {x y : Operand} {t e : TypeId} {v : Value} {α : Type} {R : α → List Value → Prop} {ps : List α} {size base : Nat}
theorem x_len_own {e2 : TypeId} {k : Int} (ho : o.op = .call { callee := .builtin .len, args := #[x], argTypes := #[t] }) (ht : P.underlying t = some (.slice e)) (h : ρ x = v) (HO : OwnRow R e2 size w base v ps) (hk : (ps.length : Int) = k) : (execOp ρ o).run P w = .ok (.value (.int .i64 k)) w := by
  obtain ⟨A, c, e, _⟩ := HO.slice_
  subst hk
  exact x_len_slice ho ht (h.trans e)
theorem own_adr {e2 : TypeId} (HO : OwnRow R e2 size w base v ps) {i : Int} (h0 : 0 ≤ i) (h1 : i < ps.length) : ∃ c, v = .slice (some (vadr v)) ps.length c := by
  obtain ⟨A, c, e, _, hr⟩ := HO.reads
  obtain ⟨ad, hA, _⟩ := hr.2.2 (by omega)
  refine ⟨c, ?_⟩
  subst e hA
  rfl
theorem x_index_own {e2 : TypeId} {k : IntKind} {i : Int} {m : Nat} (ho : o.op = .indexAddr t x y) (h : ρ x = v) (hy : ρ y = .int k i) (ht : P.underlying t = some (.slice e)) (hi : (P.info? e).map (·.size) = some m) (HO : OwnRow R e2 size w base v ps) (h0 : 0 ≤ i) (h1 : i < ps.length) :
    (execOp ρ o).run P w = .ok (.value (.pointer (some ((vadr v).add (i.toNat * m))))) w := by
  obtain ⟨c, e⟩ := own_adr HO h0 h1
  exact x_index_slice ho (h.trans e) hy ht hi h0 h1 rfl
theorem own_cells {e2 : TypeId} (HO : OwnRow R e2 size w base v ps) (d : α) {i : Int} (h0 : 0 ≤ i) (h1 : i < ps.length) : ∃ c, c.length = size ∧ R (ps.getD i.toNat d) c ∧ ∀ j u, c[j]? = some u → w.cell? (((vadr v).add (i.toNat * size)).add j) = some u := by
  obtain ⟨A, c, e, _, hr⟩ := HO.reads
  obtain ⟨ad, cs, hA, hl, hR, hc⟩ := hr.get_ d i h0 h1
  refine ⟨cs, hl, hR, fun j u hu => ?_⟩
  subst e hA
  rw [add_add]
  exact hc j u hu
end
theorem lo_cells {w0 w : World} {v : Value} {ps : List LO} (HO : OwnRow (LoIn w0) 67 12 w 0 v ps) {i : Int} (h0 : 0 ≤ i) (h1 : i < ps.length) {x : LO} (hx : ps.getD i.toNat default = x) : ∀ j u, (opc x.o x.A x.c)[j]? = some u → w.cell? (((vadr v).add (i.toNat * 12)).add j) = some u := by
  obtain ⟨c, _, hR, hc⟩ := own_cells HO default h0 h1
  rw [hx] at hR
  rw [← hR.1]
  exact hc
section
variable {w0 w W : World} {ok : Nat → Prop} {g : Nat} {vs : List Value} {B : Bk} {os : List Op} {D : Nat → Option Addr} {C : Nat → Nat} {n : Nat}
theorem los_act (hn : n ≤ os.length) (HA : Actors (os.take n)) : ∀ x ∈ los os D C n, 0 ≤ x.o.actor ∧ x.o.actor < 16 := by
  intro x hx
  refine HA x.o ?_
  rw [← los_ops (D := D) (C := C) hn]
  exact List.mem_map_of_mem hx
theorem BookAt.ownA (h : BookAt w0 ok W g vs (bk (los os D C n))) (hn : n ≤ os.length) (HA : Actors (os.take n)) {a : Int} (h0 : 0 ≤ a) (h1 : a < 16) : OwnRow (LoIn w0) 67 12 W 0 (vs.getD a.toNat undef) ((los os D C n).filter fun x => x.o.actor == a) := by
  rw [← bk_of _ (los_act hn HA) h0 h1]
  exact (h.row (by omega)).1
theorem filt_num (hn : n ≤ os.length) (a : Int) : ((((los os D C n).filter fun x => x.o.actor == a)).length : Int) = num (os.take n) a := by
  unfold num
  rw [← los_ops (D := D) (C := C) hn, List.filter_map, List.length_map]
  rfl
theorem BookAt.ckindT (h : BookAt w0 ok W g vs (bk (los os D C n))) (hn : n ≤ os.length) {j : Int} (h0 : 0 ≤ j) (h1 : j < 101) : W.cell? ⟨g, 16 + j.toNat, none⟩ = some (.int .i64 (gi (tf thing (os.take n)) j)) := by
  rw [h.ckind (by omega), bk_kind, los_ops hn]
  rfl
theorem BookAt.kinds (h : BookAt w0 ok W g vs B) : ∀ (j : Nat) (u : Value), (B.kind.map (Value.int .i64))[j]? = some u → W.cell? ((⟨g, 16, none⟩ : Addr).add j) = some u := by
  intro j u hu
  have hj : j < B.kind.length := by have := (List.getElem?_eq_some_iff.1 hu).1; simpa using this
  rw [add_mk, h.ckind (by rw [← h.lkind]; exact hj)]
  rw [List.getElem?_map, List.getElem?_eq_getElem hj] at hu
  simpa [List.getD_eq_getElem?_getD, hj] using hu
theorem acts_of {i : Int} (h : ∀ j : Int, 0 ≤ j → j < i → iOp (go_ os j) = true) (hi : i ≤ os.length) : Actors (os.take i.toNat) := by
  intro o ho
  obtain ⟨k, hk, e⟩ := List.getElem_of_mem ho
  rw [List.length_take] at hk
  have hk2 : k < os.length := by omega
  have e2 : go_ os (k : Int) = o := by
    rw [← e, List.getElem_take]
    simp [go_, List.getD_eq_getElem?_getD, hk2]
  have := iOp_fine (e2 ▸ h k (by omega) (by omega))
  exact ⟨this.a0, this.a1⟩
end
theorem nor_l {a b : Bool} (h : (((!a) || b) == false) = true) : a = true := by cases a <;> simp_all
end Go.Proofs.Ytideafkiaipnoaa.Q

/- Functions walked. -/
namespace Go.Proofs.Ytideafkiaipnoaa.Q
open Go Go.RowKit Go.Proofs.YtideafkiaipnoaaW.PrintWords Go.Proofs.YtideafkiaipnoaaW.PrintLast Go.Proofs.Ytideafkiaipnoaa.Deed
set_option maxRecDepth 100000
set_option linter.unusedVariables false
set_option linter.unusedSimpArgs false
theorem zb75 : (Try.prog.info? 75).map (·.zero) = some (some (.agg (bookCells (List.replicate 16 (.slice none 0 0)) Bk.zero).toArray)) := by kernel_rfl
theorem pb75 : places Try.prog 75 = some ([(0, 16), (16, 101), (117, 1), (118, 2)].map some) := by kernel_rfl
noncomputable def iBad (os : List Op) (i : Int) : Bool := ((!(iOp (go_ os i))) || ((decide (0 < i)) && (decide ((go_ os i).actor < (go_ os (i - 1)).actor)))) || ((go_ os i).seq != (num (os.take i.toNat) (go_ os i).actor + 1))
noncomputable def iKindBad (os : List Op) (i : Int) : Bool := ((gi (tf thing (os.take i.toNat)) (go_ os i).obj) != 0) && ((gi (tf thing (os.take i.toNat)) (go_ os i).obj) != (thing (go_ os i)))
noncomputable def depBad (os : List Op) (k b : Int) : Bool := (decide (num os b < gi (go_ os k).deps b)) || ((decide (0 < gi (go_ os k).deps b)) && (!(less ((onth os b (gi (go_ os k).deps b)).time, (onth os b (gi (go_ os k).deps b)).actor) ((go_ os k).time, (go_ os k).actor))))
def ILog (os : List Op) : Prop := os.length ≤ 1024 ∧ (∀ i : Int, 0 ≤ i → i < os.length → iBad os i = false ∧ iKindBad os i = false) ∧ ∀ k b : Int, 0 ≤ k → k < os.length → 0 ≤ b → b < 16 → depBad os k b = false
noncomputable def iLogOK (os : List Op) : Bool := by classical exact decide (ILog os)
theorem iLogOK_true {os : List Op} (h : ILog os) : iLogOK os = true := by simp [iLogOK, h]
theorem iLogOK_false {os : List Op} (h : ¬ ILog os) : iLogOK os = false := by simp [iLogOK, h]
theorem iLogOK_iff {os : List Op} : iLogOK os = true ↔ ILog os := by simp [iLogOK]
theorem iBad_ok {os : List Op} {i : Int} (h : iBad os i = false) : iOp (go_ os i) = true := by
  unfold iBad at h
  cases e : iOp (go_ os i) with
  | true => rfl
  | false => rw [e] at h; simp at h
set_option maxHeartbeats 2000000 in
theorem read_calls (A : Option Addr) (os : List Op) (D : Nat → Option Addr) (C : Nat → Nat) (c : Nat) (w : World) (HR : RO w A os D C) : Calls Try.prog 50 #[.slice A os.length c] w fun e w' => ∃ p, e = .returned (.tuple #[p, .bool (iLogOK os)]) ∧ (iLogOK os = true → ∃ g vs, p = .pointer (some ⟨g, 0, none⟩) ∧ BookAt w (okW w w') w' g vs (bk (los os D C os.length))) ∧ Below w.heap.size w w' := by
  refine calls_of_wp Try.func50 rfl ?_
  refine enter_ (N := 127) rfl ?_
  rintro a0 hN hD ⟨s0, -⟩
  have HB : Below w.heap.size w w := Below.refl _ _
  refine wp_seq ?_
  refine deedL [.eq 2 (.pointer none), .eq 3 (.bool false), .eq 0 (.slice A os.length c), .w (Below w.heap.size w)] 127 [[], []] [] [2, 3] hM hN hD (by kernel_rfl) ⟨s0, ⟨Below.refl _ _, below_drew (Below.refl _ _)⟩, trivial⟩ ⟨fun _ _ hb h => below_step h hb, trivial⟩ (fun hgrow => ⟨fun _ _ _ => rv rfl (x_assign rfl rfl) rfl,
    fun _ _ _ => rv rfl (x_assign rfl rfl) rfl, trivial⟩) ?_
  clear s0
  clear hN hD
  rintro a1 w1 hN hD ⟨s0, hGR, -⟩
  replace HB := below_step HB hGR
  clear hGR
  show Code.wp _ _ _ _ _
  refine wp_seq ?_
  refine wp_seq ?_
  refine deedL [.eq 11 (.slice A os.length c), .eq 12 (.int .i64 (os.length : Int)), .eq 13 (.bool (decide (1024 < (os.length : Int)))), .eq 0 (.slice A os.length c), .w (Below w1.heap.size w1)] 127 [[3], [0], [1]] [] [2, 3, 4] hM hN hD (by kernel_rfl) ⟨s0, ⟨Below.refl _ _, below_drew (Below.refl _ _)⟩, trivial⟩ ⟨fun _ _ hb h => below_step h hb, trivial⟩ (fun hgrow => ⟨fun _ _ h => rv rfl (x_move rfl h.1) rfl,
    fun _ _ h => rv rfl (x_len_slice rfl Try.underlying27 h.1) rfl,
    fun _ _ h => rv rfl (x_gtr rfl h.1 rfl) rfl, trivial⟩) ?_
  clear s0
  clear hN hD
  rintro a2 w2 hN hD ⟨s13, s0, hGR, -⟩
  replace HB := below_step HB hGR
  clear hGR
  show Code.wp _ _ _ _ _
  refine wp_cond (t := decide (1024 < (os.length : Int))) s13 ?_
  rcases Bool.eq_false_or_eq_true (decide (1024 < (os.length : Int))) with cd3 | cd3
  · rw [cd3]
    show Code.wp _ _ _ _ _
    have pd3 := of_decide_eq_true cd3
    refine wp_seq ?_
    refine deedL [.eq 2 (.pointer none), .eq 3 (.bool false), .w (Below w2.heap.size w2)] 127 [[], []] [] [0, 1, 2] hM hN hD (by kernel_rfl) ⟨⟨Below.refl _ _, below_drew (Below.refl _ _)⟩, trivial⟩ ⟨fun _ _ hb h => below_step h hb, trivial⟩ (fun hgrow => ⟨fun _ _ _ => rv rfl (x_assign rfl rfl) rfl,
      fun _ _ _ => rv rfl (x_assign rfl rfl) rfl, trivial⟩) ?_
    clear s0 s13
    clear hN hD
    rintro a4 w4 hN hD ⟨s2, s3, hGR, -⟩
    replace HB := below_step HB hGR
    clear hGR
    show Code.wp _ _ _ _ _
    refine wp_ret (then_ret ?_)
    refine bodyPost_ret (fn := Try.f50) (results_list (rs := [.tmp 2, .tmp 3]) (vs := [.pointer none, .bool false]) rfl (by simp) (vtmp s2 (vtmp s3 .nil))) hD ?_
    rw [iLogOK_false (fun h => by have := h.1; omega)]
    exact ⟨_, rfl, fun h => (by cases h), HB⟩
  · rw [cd3]
    show Code.wp _ _ _ _ _
    have pd3 := of_decide_eq_false cd3
    refine wp_skip ?_
    show Code.wp _ _ _ _ _
    refine wp_seq ?_
    refine deedL [.eq 14 (.agg (bookCells (List.replicate 16 (.slice none 0 0)) Bk.zero).toArray), .s1 15 (NewB w2.heap.size (bookCells (List.replicate 16 (.slice none 0 0)) Bk.zero) 75), .s2 15 4 fun x_ y_ _ => ∃ (g15 : Nat), x_ = .pointer (some ⟨g15, 0, none⟩) ∧ y_ = .pointer (some ⟨g15, 0, none⟩), .eq 0 (.slice A os.length c), .w (Below w2.heap.size w2)] 127 [[], [4, 0], [1]] [] [1, 2, 3, 4] hM hN hD (by kernel_rfl) ⟨s0, ⟨Below.refl _ _, below_drew (Below.refl _ _)⟩, trivial⟩ ⟨fun _ _ _ hb h => h.grow hb, fun _ _ _ _ hb h => h, fun _ _ hb h => below_step h hb, trivial⟩ (fun hgrow => ⟨fun _ _ _ => rv rfl (x_build rfl Try.underlying75 zb75 pb75 rfl rfl (ps := []) (vs := []) (L := bookCells (List.replicate 16 (.slice none 0 0)) Bk.zero)) rfl,
      fun _ _ h => rbox hgrow rfl (x_box rfl h.2.1) h.1.size (fun _ _ z => z),
      ?_, trivial⟩) ?_
    · rintro a_ W ⟨h1, -⟩
      obtain ⟨g15, e1, l1, hb1⟩ := h1
      exact rv rfl (x_assign rfl e1) ⟨_, e1, rfl⟩
    clear s0 s13
    clear hN hD
    rintro a5 w5 hN hD ⟨⟨g15, s15, lg15, HBX15⟩, q4, s0, hGR, -⟩
    obtain ⟨g15_, e_, s4⟩ := q4
    cases s15.symm.trans e_
    replace lg15 := Nat.le_trans HB.size lg15
    replace HB := below_step HB hGR
    have HBK : BookAt w (okW w w5) w5 g15 (List.replicate 16 (.slice none 0 0)) Bk.zero := BookAt.zero HBX15 ⟨lg15, blk_lt HBX15⟩
    clear HBX15
    clear hGR
    show Code.wp _ _ _ _ _
    refine wp_seq ?_
    refine wp_seq ?_
    refine deedL [.eq 16 (.slice A os.length c), .eq 17 (.int .i64 (os.length : Int)), .eq 18 (.int .i64 0), .eq 0 (.slice A os.length c), .eq 4 (.pointer (some ⟨g15, 0, none⟩)), .w (Below w5.heap.size w5)] 127 [[3], [0], []] [] [0, 1, 2, 3, 4, 5] hM hN hD (by kernel_rfl) ⟨s0, s4, ⟨Below.refl _ _, below_drew (Below.refl _ _)⟩, trivial⟩ ⟨fun _ _ hb h => below_step h hb, trivial⟩ (fun hgrow => ⟨fun _ _ h => rv rfl (x_move rfl h.1) rfl,
      fun _ _ h => rv rfl (x_len_slice rfl Try.underlying27 h.1) rfl,
      fun _ _ _ => rv rfl (x_move rfl rfl) rfl, trivial⟩) ?_
    clear s0 s4
    clear hN hD
    rintro a6 w6 hN hD ⟨s16, s17, s18, s0, s4, hGR, -⟩
    replace HB := below_step HB hGR
    replace HBK := HBK.stepW hGR
    clear hGR
    show Code.wp _ _ _ _ _
    refine wp_block ?_
    refine wp_loopN (fun n_ q_ w_ => ∃ (i : Int) (vs : List Value), (q_.tmps.size = 127) ∧ (q_.defers = []) ∧ (sl q_ 0 = .slice A os.length c) ∧ (sl q_ 4 = .pointer (some ⟨g15, 0, none⟩)) ∧ (sl q_ 16 = .slice A os.length c) ∧ (sl q_ 17 = .int .i64 (os.length : Int)) ∧ (sl q_ 18 = .int .i64 i) ∧ (Below w.heap.size w w_) ∧ (BookAt w (okW w w_) w_ g15 vs (bk (los os D C i.toNat))) ∧ (0 ≤ i) ∧ (i ≤ os.length) ∧ (∀ j : Int, 0 ≤ j → j < i → iBad os j = false ∧ iKindBad os j = false) ∧ (n_ = (os.length - i).toNat)) ((fun (i : Int) (vs : List Value) => (os.length - i).toNat) 0 (List.replicate 16 (.slice none 0 0))) ?_ ?_
    · exact ⟨0, (List.replicate 16 (.slice none 0 0)), hN, hD, s0, s4, s16, s17, s18, HB, HBK, (by omega), (by omega), (by intro j u v; omega), rfl⟩
    clear s0 s4 s16 s17 s18 HB HBK hN hD
    rintro n_7 a7 w7 ⟨i, vs, hN, hD, s0, s4, s16, s17, s18, HB, HBK, hi0, hi1, hi, hmeas⟩
    have hac := acts_of (fun j u v => iBad_ok (hi j u v).1) hi1
    have htn : i.toNat ≤ os.length := by omega
    have hnl := fun a => num_le (os.take i.toNat) a
    have htl : (os.take i.toNat).length ≤ os.length := by simp; omega
    refine wp_seq ?_
    refine deedL [.eq 19 (.bool (decide (i < (os.length : Int)))), .eq 0 (.slice A os.length c), .eq 4 (.pointer (some ⟨g15, 0, none⟩)), .eq 16 (.slice A os.length c), .eq 17 (.int .i64 (os.length : Int)), .eq 18 (.int .i64 i), .w (Below w7.heap.size w7)] 127 [[5, 4]] [] [0, 1, 2, 3, 4, 5, 6] hM hN hD (by kernel_rfl) ⟨s0, s4, s16, s17, s18, ⟨Below.refl _ _, below_drew (Below.refl _ _)⟩, trivial⟩ ⟨fun _ _ hb h => below_step h hb, trivial⟩ (fun hgrow => ⟨fun _ _ h => rv rfl (x_lss rfl h.1 h.2.1) rfl, trivial⟩) ?_
    clear s0 s4 s16 s17 s18
    clear hN hD
    rintro a8 w8 hN hD ⟨s19, s0, s4, s16, s17, s18, hGR, -⟩
    replace HB := below_step HB hGR
    replace HBK := HBK.stepW hGR
    clear hGR
    show Code.wp _ _ _ _ _
    refine wp_seq ?_
    refine wp_cond (t := decide (i < (os.length : Int))) s19 ?_
    rcases Bool.eq_false_or_eq_true (decide (i < (os.length : Int))) with cd9 | cd9
    · rw [cd9]
      show Code.wp _ _ _ _ _
      have pd9 := of_decide_eq_true cd9
      have hi2 := pd9
      refine wp_skip ?_
      show Code.wp _ _ _ _ _
      refine wp_seq ?_
      refine wp_block ?_
      refine wp_seq ?_
      refine deedL [.eq 20 (.int .i64 i), .eq 21 (.pointer (some ((adr A).add (i.toNat * 12)))), .eq 22 (.agg (opc (go_ os i) (D i.toNat) (C i.toNat)).toArray), .s1 6 (NewB w8.heap.size [.int .i64 0, .int .i64 0, .int .i64 0, .slice none 0 0, .int .i64 0, .int .i64 0, .int .i64 0, .int .i64 0, .int .i64 0, .int .i64 0, .string ⟨#[]⟩, .string ⟨#[]⟩] 67), .eq 5 (.int .i64 i), .s1 6 (NewB w8.heap.size (opc (go_ os i) (D i.toNat) (C i.toNat)) 67), .eq 0 (.slice A os.length c), .eq 4 (.pointer (some ⟨g15, 0, none⟩)), .eq 16 (.slice A os.length c), .eq 17 (.int .i64 (os.length : Int)), .eq 18 (.int .i64 i), .w (Below w8.heap.size w8)] 127 [[10], [8, 10], [1, 11], [11], [0], [3, 2, 11]] [[], [], [], [], [], [3]] [4, 5, 6, 7, 8, 9, 10, 11] hM hN hD (by kernel_rfl) ⟨s0, s4, s16, s17, s18, ⟨Below.refl _ _, below_drew (Below.refl _ _)⟩, trivial⟩ ⟨fun _ _ _ hb h => h.grow hb, fun _ _ _ hb h => h.grow hb, fun _ _ hb h => below_step h hb, trivial⟩ (fun hgrow => ⟨fun _ _ h => rv rfl (x_move rfl h.1) rfl,
        fun _ _ h => rv rfl (x_index_at rfl h.1 h.2.1 Try.underlying27 sz67 (by omega) (by omega) (RO.ad HR i (by omega) (by omega))) rfl,
        fun _ _ h => rv rfl (x_loadS rfl h.1 Try.underlying67 (opc (go_ os i) (D i.toNat) (C i.toNat)) sz67 (RO.cells HR (below_step HB h.2.1) (by omega) (by omega))) rfl,
        fun _ _ h => rbox hgrow rfl (x_alloc rfl zr67) h.1.size (fun _ _ z => z),
        fun _ _ h => rv rfl (x_assign rfl h.1) rfl,
        ?_, trivial⟩) ?_
      · rintro a_ W ⟨h3, h2, h11, -⟩
        obtain ⟨g6, e5, l5, hb5⟩ := h3
        exact rstoreS rfl rfl e5 h2 (by simp [Value.oneCell']) sz67 hb5 rfl ⟨_, e5, l5, blk_stored (cs := (opc (go_ os i) (D i.toNat) (C i.toNat))) 0 _ [.int .i64 0, .int .i64 0, .int .i64 0, .slice none 0 0, .int .i64 0, .int .i64 0, .int .i64 0, .int .i64 0, .int .i64 0, .int .i64 0, .string ⟨#[]⟩, .string ⟨#[]⟩] hb5 (of_decide_eq_true rfl)⟩ ⟨fun h => below_cells h l5, trivial⟩
      clear s0 s4 s16 s17 s18 s19
      clear hN hD
      rintro a10 w10 hN hD ⟨s5, ⟨g6, s6, lg6, HBX6⟩, s0, s4, s16, s17, s18, hGR, -⟩
      replace lg6 := Nat.le_trans HB.size lg6
      replace HB := below_step HB hGR
      replace HBK := HBK.stepW hGR
      clear hGR
      show Code.wp _ _ _ _ _
      refine wp_seq ?_
      refine wp_seq ?_
      refine deedL (.eq 23 (.agg (opc (go_ os i) (D i.toNat) (C i.toNat)).toArray) :: .eq 24 (.bool (iOp (go_ os i))) :: .eq 25 (.bool (!(iOp (go_ os i)))) :: .eq 26 (.bool (!(iOp (go_ os i)))) :: .gv (((!(iOp (go_ os i))) == false)) 27 (.int .i64 i) :: .gv (((!(iOp (go_ os i))) == false)) 28 (.bool (decide (0 < i))) :: .gv (((!(iOp (go_ os i))) == false)) 29 (.bool (decide (0 < i))) :: .gv (((!(iOp (go_ os i))) == false) && ((decide (0 < i)) == true)) 30 (.slice A os.length c) :: .gv (((!(iOp (go_ os i))) == false) && ((decide (0 < i)) == true)) 31 (.int .i64 i) :: .gv (((!(iOp (go_ os i))) == false) && ((decide (0 < i)) == true)) 32 (.int .i64 (i - 1)) :: .gv (((!(iOp (go_ os i))) == false) && ((decide (0 < i)) == true)) 33 (.pointer (some ((adr A).add ((i - 1).toNat * 12)))) :: .gv (((!(iOp (go_ os i))) == false) && ((decide (0 < i)) == true)) 34 (.pointer (some ((adr A).add ((i - 1).toNat * 12)))) :: .gv (((!(iOp (go_ os i))) == false) && ((decide (0 < i)) == true)) 35 (.int .i64 ((go_ os (i - 1)).actor)) :: .gv (((!(iOp (go_ os i))) == false) && ((decide (0 < i)) == true)) 36 (.pointer (some ⟨g6, 0, none⟩)) :: .gv (((!(iOp (go_ os i))) == false) && ((decide (0 < i)) == true)) 37 (.int .i64 ((go_ os i).actor)) :: .gv (((!(iOp (go_ os i))) == false) && ((decide (0 < i)) == true)) 38 (.bool (decide ((go_ os i).actor < (go_ os (i - 1)).actor))) :: .gv (((!(iOp (go_ os i))) == false)) 39 (.bool ((decide (0 < i)) && (decide ((go_ os i).actor < (go_ os (i - 1)).actor)))) :: .eq 40 (.bool ((!(iOp (go_ os i))) || ((decide (0 < i)) && (decide ((go_ os i).actor < (go_ os (i - 1)).actor))))) :: .eq 41 (.bool ((!(iOp (go_ os i))) || ((decide (0 < i)) && (decide ((go_ os i).actor < (go_ os (i - 1)).actor))))) :: .gv ((((!(iOp (go_ os i))) || ((decide (0 < i)) && (decide ((go_ os i).actor < (go_ os (i - 1)).actor)))) == false)) 42 (.pointer (some ⟨g6, 1, none⟩)) :: .gv ((((!(iOp (go_ os i))) || ((decide (0 < i)) && (decide ((go_ os i).actor < (go_ os (i - 1)).actor)))) == false)) 43 (.int .i64 ((go_ os i).seq)) :: .gv ((((!(iOp (go_ os i))) || ((decide (0 < i)) && (decide ((go_ os i).actor < (go_ os (i - 1)).actor)))) == false)) 44 (.pointer (some ⟨g15, 0, none⟩)) :: .gv ((((!(iOp (go_ os i))) || ((decide (0 < i)) && (decide ((go_ os i).actor < (go_ os (i - 1)).actor)))) == false)) 45 (.pointer (some ⟨g6, 0, none⟩)) :: .gv ((((!(iOp (go_ os i))) || ((decide (0 < i)) && (decide ((go_ os i).actor < (go_ os (i - 1)).actor)))) == false)) 46 (.int .i64 ((go_ os i).actor)) :: .gv ((((!(iOp (go_ os i))) || ((decide (0 < i)) && (decide ((go_ os i).actor < (go_ os (i - 1)).actor)))) == false)) 47 (.pointer (some ⟨g15, 0, none⟩)) :: .gv ((((!(iOp (go_ os i))) || ((decide (0 < i)) && (decide ((go_ os i).actor < (go_ os (i - 1)).actor)))) == false)) 48 (.pointer (some ⟨g15, 0, none⟩)) :: .gv ((((!(iOp (go_ os i))) || ((decide (0 < i)) && (decide ((go_ os i).actor < (go_ os (i - 1)).actor)))) == false)) 49 (.pointer (some ⟨g15, ((go_ os i).actor).toNat, none⟩)) :: .gv ((((!(iOp (go_ os i))) || ((decide (0 < i)) && (decide ((go_ os i).actor < (go_ os (i - 1)).actor)))) == false)) 50 (vs.getD (go_ os i).actor.toNat undef) :: .gv ((((!(iOp (go_ os i))) || ((decide (0 < i)) && (decide ((go_ os i).actor < (go_ os (i - 1)).actor)))) == false)) 51 (.int .i64 (num (os.take i.toNat) (go_ os i).actor)) :: .gv ((((!(iOp (go_ os i))) || ((decide (0 < i)) && (decide ((go_ os i).actor < (go_ os (i - 1)).actor)))) == false)) 52 (.int .i64 (num (os.take i.toNat) (go_ os i).actor + 1)) :: .gv ((((!(iOp (go_ os i))) || ((decide (0 < i)) && (decide ((go_ os i).actor < (go_ os (i - 1)).actor)))) == false)) 53 (.bool (((go_ os i).seq) != (num (os.take i.toNat) (go_ os i).actor + 1))) :: .eq 54 (.bool (((!(iOp (go_ os i))) || ((decide (0 < i)) && (decide ((go_ os i).actor < (go_ os (i - 1)).actor)))) || (((go_ os i).seq) != (num (os.take i.toNat) (go_ os i).actor + 1)))) :: .eq 0 (.slice A os.length c) :: .eq 4 (.pointer (some ⟨g15, 0, none⟩)) :: .eq 5 (.int .i64 i) :: .eq 6 (.pointer (some ⟨g6, 0, none⟩)) :: .eq 16 (.slice A os.length c) :: .eq 17 (.int .i64 (os.length : Int)) :: .eq 18 (.int .i64 i) :: .w (Below w10.heap.size w10) :: []) 127 ([35, 39] :: [0, 39] :: [1] :: [2] :: [3, 34] :: [3, 4] :: [3, 5] :: [6, 32] :: [6, 34] :: [6, 8] :: [6, 7, 9] :: [6, 10] :: [6, 11, 39] :: [6, 35] :: [6, 13, 39] :: [6, 12, 14] :: [3, 6, 15] :: [3, 16] :: [17] :: [18, 35] :: [18, 19, 39] :: [18, 33] :: [18, 35] :: [18, 22, 39] :: [18, 21] :: [18, 24] :: [18, 25, 23] :: [18, 26, 39] :: [18, 27, 39] :: [18, 28] :: [18, 20, 29] :: [18, 30] :: []) [] [31, 32, 33, 34, 35, 36, 37, 38, 39] hM hN hD (by kernel_rfl) ⟨s0, s4, s5, s6, s16, s17, s18, ⟨Below.refl _ _, below_drew (Below.refl _ _)⟩, trivial⟩ ⟨fun _ _ hb h => below_step h hb, trivial⟩ (fun hgrow => ⟨fun _ _ h => rv rfl (x_loadS rfl h.1 Try.underlying67 (opc (go_ os i) (D i.toNat) (C i.toNat)) sz67 (blk_list (L := opc (go_ os i) (D i.toNat) (C i.toNat)) (blk_below HBX6 h.2.1) 0 rfl)) rfl,
        fun _ _ h => rc hgrow rfl Try.func86 (by kernel_rfl) rfl rfl (args1 h.1) (iOp_calls (go_ os i) _ (D i.toNat) (C i.toNat) (RI.below (RO.deps HR (by omega) (by omega)) (below_step HB h.2.1))) (fun _ _ h => ⟨_, h.1, h.2, rfl⟩),
        fun _ _ h => rv rfl (x_not rfl h.1) rfl,
        fun _ _ h => rv rfl (x_move rfl h.1) rfl,
        fun _ _ h => rb rfl rfl h.1 (fun hgt => x_move rfl h.2.1) (fun _ z => z),
        fun _ _ h => rb rfl rfl h.1 (fun hgt => x_gtr rfl (h.2.1.1 hgt) rfl) (fun _ z => z),
        fun _ _ h => rb rfl rfl h.1 (fun hgt => x_move rfl (h.2.1.1 hgt)) (fun _ z => z),
        fun _ _ h => rg rfl rfl h.1 (fun hgt => x_move rfl h.2.1) (fun _ z => z),
        fun _ _ h => rg rfl rfl h.1 (fun hgt => x_move rfl h.2.1) (fun _ z => z),
        fun _ _ h => rg rfl rfl h.1 (fun hgt => x_sub' rfl (h.2.1.1 hgt) rfl (by simp at hgt; omega)) (fun _ z => z),
        fun _ _ h => rg rfl rfl h.1 (fun hgt => x_index_at rfl (h.2.1.1 hgt) (h.2.2.1.1 hgt) Try.underlying27 sz67 (by simp at hgt; omega) (by simp at hgt; omega) (RO.ad HR (i - 1) (by simp at hgt; omega) (by simp at hgt; omega))) (fun _ z => z),
        fun _ _ h => rg rfl rfl h.1 (fun hgt => x_field rfl (h.2.1.1 hgt) Try.underlying67 rfl sz3 (by decide) rfl) (fun _ z => z),
        fun _ _ h => rg rfl rfl h.1 (fun hgt => x_load1 rfl (h.2.1.1 hgt) Try.underlying3 rfl (RO.cell0 HR (below_step HB h.2.2.1) (by simp at hgt; omega) (by simp at hgt; omega))) (fun _ z => z),
        fun _ _ h => rg rfl rfl h.1 (fun hgt => x_field rfl h.2.1 Try.underlying67 rfl sz3 (by decide) rfl) (fun _ z => z),
        fun _ _ h => rg rfl rfl h.1 (fun hgt => x_load1 rfl (h.2.1.1 hgt) Try.underlying3 rfl (blk_one (L := opc (go_ os i) (D i.toNat) (C i.toNat)) (blk_below HBX6 h.2.2.1) 0 rfl)) (fun _ z => z),
        fun _ _ h => rg rfl rfl h.1 (fun hgt => x_gtr rfl (h.2.1.1 hgt) (h.2.2.1.1 hgt)) (fun _ z => z),
        fun _ _ h => rb rfl rfl h.1 (fun hgt => x_and rfl rfl (h.2.1.1 hgt) (fun hc => h.2.2.1.1 (Bool.and_eq_true _ _ ▸ ⟨hgt, beq_iff_eq.2 hc⟩))) (fun _ z => z),
        fun _ _ h => rv rfl (x_or rfl rfl h.1 (fun hc => h.2.1.1 (beq_iff_eq.2 hc))) rfl,
        fun _ _ h => rv rfl (x_move rfl h.1) rfl,
        fun _ _ h => rb rfl rfl h.1 (fun hgt => x_field rfl h.2.1 Try.underlying67 rfl sz3 (by decide) rfl) (fun _ z => z),
        fun _ _ h => rb rfl rfl h.1 (fun hgt => x_load1 rfl (h.2.1.1 hgt) Try.underlying3 rfl (blk_one (L := opc (go_ os i) (D i.toNat) (C i.toNat)) (blk_below HBX6 h.2.2.1) 1 rfl)) (fun _ z => z),
        fun _ _ h => rb rfl rfl h.1 (fun hgt => x_move rfl h.2.1) (fun _ z => z),
        fun _ _ h => rb rfl rfl h.1 (fun hgt => x_field rfl h.2.1 Try.underlying67 rfl sz3 (by decide) rfl) (fun _ z => z),
        fun _ _ h => rb rfl rfl h.1 (fun hgt => x_load1 rfl (h.2.1.1 hgt) Try.underlying3 rfl (blk_one (L := opc (go_ os i) (D i.toNat) (C i.toNat)) (blk_below HBX6 h.2.2.1) 0 rfl)) (fun _ z => z),
        fun _ _ h => rb rfl rfl h.1 (fun hgt => x_nil rfl (h.2.1.1 hgt)) (fun _ z => z),
        fun _ _ h => rb rfl rfl h.1 (fun hgt => x_field rfl (h.2.1.1 hgt) Try.underlying75 rfl sz72 (by decide) rfl) (fun _ z => z),
        fun _ _ h => rb rfl rfl h.1 (fun hgt => x_index_array rfl (h.2.1.1 hgt) (h.2.2.1.1 hgt) Try.underlying72 sz27 (by have hf := iOp_fine (nor_l hgt); exact hf.a0) (by have hf := iOp_fine (nor_l hgt); have := hf.a0; have := hf.a1; omega) (by rw [add_mk]; first | rfl | simp)) (fun _ z => z),
        fun _ _ h => rb rfl rfl h.1 (fun hgt => x_load1 rfl (h.2.1.1 hgt) Try.underlying27 rfl ((HBK.stepW h.2.2.1).cof (by have hf := iOp_fine (nor_l hgt); have := hf.a0; have := hf.a1; omega))) (fun _ z => z),
        fun _ _ h => rb rfl rfl h.1 (fun hgt => x_len_own rfl Try.underlying27 (h.2.1.1 hgt) ((HBK.stepW h.2.2.1).ownA htn hac (iOp_fine (nor_l hgt)).a0 (iOp_fine (nor_l hgt)).a1) (filt_num htn _)) (fun _ z => z),
        fun _ _ h => rb rfl rfl h.1 (fun hgt => x_add' rfl (h.2.1.1 hgt) rfl (by have := hnl (go_ os i).actor; omega)) (fun _ z => z),
        fun _ _ h => rb rfl rfl h.1 (fun hgt => x_neq rfl (h.2.1.1 hgt) (h.2.2.1.1 hgt)) (fun _ z => z),
        fun _ _ h => rv rfl (x_or rfl rfl h.1 (fun hc => h.2.1.1 (beq_iff_eq.2 hc))) rfl, trivial⟩) ?_
      clear s0 s4 s16 s17 s18 s5 s6
      clear hN hD
      rintro a11 w11 hN hD ⟨s54, s0, s4, s5, s6, s16, s17, s18, hGR, -⟩
      replace HB := below_step HB hGR
      replace HBK := HBK.stepW hGR
      replace HBX6 := blk_below HBX6 hGR
      clear hGR
      show Code.wp _ _ _ _ _
      refine wp_cond (t := ((!(iOp (go_ os i))) || ((decide (0 < i)) && (decide ((go_ os i).actor < (go_ os (i - 1)).actor)))) || (((go_ os i).seq) != (num (os.take i.toNat) (go_ os i).actor + 1))) s54 ?_
      rcases Bool.eq_false_or_eq_true (((!(iOp (go_ os i))) || ((decide (0 < i)) && (decide ((go_ os i).actor < (go_ os (i - 1)).actor)))) || (((go_ os i).seq) != (num (os.take i.toNat) (go_ os i).actor + 1))) with cd12 | cd12
      · rw [cd12]
        show Code.wp _ _ _ _ _
        have hs1 : iBad os i = true := cd12
        refine wp_seq ?_
        refine deedL [.eq 2 (.pointer none), .eq 3 (.bool false), .w (Below w11.heap.size w11)] 127 [[], []] [] [0, 1, 2] hM hN hD (by kernel_rfl) ⟨⟨Below.refl _ _, below_drew (Below.refl _ _)⟩, trivial⟩ ⟨fun _ _ hb h => below_step h hb, trivial⟩ (fun hgrow => ⟨fun _ _ _ => rv rfl (x_assign rfl rfl) rfl,
          fun _ _ _ => rv rfl (x_assign rfl rfl) rfl, trivial⟩) ?_
        clear s0 s4 s5 s6 s16 s17 s18 s54
        clear hN hD
        rintro a13 w13 hN hD ⟨s2, s3, hGR, -⟩
        replace HB := below_step HB hGR
        replace HBK := HBK.stepW hGR
        replace HBX6 := blk_below HBX6 hGR
        clear hGR
        show Code.wp _ _ _ _ _
        refine wp_ret (then_ret (blk_ret (then_ret (then_ret (blk_ret (then_ret ?_))))))
        refine bodyPost_ret (fn := Try.f50) (results_list (rs := [.tmp 2, .tmp 3]) (vs := [.pointer none, .bool false]) rfl (by simp) (vtmp s2 (vtmp s3 .nil))) hD ?_
        rw [iLogOK_false (fun h => by have := (h.2.1 i hi0 hi2).1; rw [hs1] at this; cases this)]
        exact ⟨_, rfl, fun h => (by cases h), HB⟩
      · rw [cd12]
        show Code.wp _ _ _ _ _
        have hs1 : iBad os i = false := cd12
        refine wp_skip ?_
        show Code.wp _ _ _ _ _
        refine wp_seq ?_
        refine wp_seq ?_
        have hf := iOp_fine (iBad_ok hs1)
        have hj0 := hf.j0
        have hj1 := hf.j1
        refine deedL (.eq 55 (.pointer (some ⟨g15, 0, none⟩)) :: .eq 56 (.pointer (some ⟨g6, 5, none⟩)) :: .eq 57 (.int .i64 ((go_ os i).obj)) :: .eq 58 (.pointer (some ⟨g15, 0, none⟩)) :: .eq 59 (.pointer (some ⟨g15, 16, none⟩)) :: .eq 60 (.pointer (some ⟨g15, 16 + ((go_ os i).obj).toNat, none⟩)) :: .eq 61 (.int .i64 (gi (tf thing (os.take i.toNat)) (go_ os i).obj)) :: .eq 62 (.bool ((gi (tf thing (os.take i.toNat)) (go_ os i).obj) != 0)) :: .eq 63 (.bool ((gi (tf thing (os.take i.toNat)) (go_ os i).obj) != 0)) :: .gv ((((gi (tf thing (os.take i.toNat)) (go_ os i).obj) != 0) == true)) 64 (.pointer (some ⟨g15, 0, none⟩)) :: .gv ((((gi (tf thing (os.take i.toNat)) (go_ os i).obj) != 0) == true)) 65 (.pointer (some ⟨g6, 5, none⟩)) :: .gv ((((gi (tf thing (os.take i.toNat)) (go_ os i).obj) != 0) == true)) 66 (.int .i64 ((go_ os i).obj)) :: .gv ((((gi (tf thing (os.take i.toNat)) (go_ os i).obj) != 0) == true)) 67 (.pointer (some ⟨g15, 0, none⟩)) :: .gv ((((gi (tf thing (os.take i.toNat)) (go_ os i).obj) != 0) == true)) 68 (.pointer (some ⟨g15, 16, none⟩)) :: .gv ((((gi (tf thing (os.take i.toNat)) (go_ os i).obj) != 0) == true)) 69 (.pointer (some ⟨g15, 16 + ((go_ os i).obj).toNat, none⟩)) :: .gv ((((gi (tf thing (os.take i.toNat)) (go_ os i).obj) != 0) == true)) 70 (.int .i64 (gi (tf thing (os.take i.toNat)) (go_ os i).obj)) :: .gv ((((gi (tf thing (os.take i.toNat)) (go_ os i).obj) != 0) == true)) 71 (.agg (opc (go_ os i) (D i.toNat) (C i.toNat)).toArray) :: .gv ((((gi (tf thing (os.take i.toNat)) (go_ os i).obj) != 0) == true)) 72 (.int .i64 (thing (go_ os i))) :: .gv ((((gi (tf thing (os.take i.toNat)) (go_ os i).obj) != 0) == true)) 73 (.bool ((gi (tf thing (os.take i.toNat)) (go_ os i).obj) != (thing (go_ os i)))) :: .eq 74 (.bool (((gi (tf thing (os.take i.toNat)) (go_ os i).obj) != 0) && ((gi (tf thing (os.take i.toNat)) (go_ os i).obj) != (thing (go_ os i))))) :: .eq 0 (.slice A os.length c) :: .eq 4 (.pointer (some ⟨g15, 0, none⟩)) :: .eq 6 (.pointer (some ⟨g6, 0, none⟩)) :: .eq 16 (.slice A os.length c) :: .eq 17 (.int .i64 (os.length : Int)) :: .eq 18 (.int .i64 i) :: .w (Below w11.heap.size w11) :: []) 127 ([21] :: [22] :: [1, 26] :: [0] :: [3] :: [4, 2] :: [5, 26] :: [6] :: [7] :: [8, 21] :: [8, 22] :: [8, 10, 26] :: [8, 9] :: [8, 12] :: [8, 13, 11] :: [8, 14, 26] :: [8, 22, 26] :: [8, 16] :: [8, 15, 17] :: [8, 18] :: []) [] [19, 20, 21, 22, 23, 24, 25, 26] hM hN hD (by kernel_rfl) ⟨s0, s4, s6, s16, s17, s18, ⟨Below.refl _ _, below_drew (Below.refl _ _)⟩, trivial⟩ ⟨fun _ _ hb h => below_step h hb, trivial⟩ (fun hgrow => ⟨fun _ _ h => rv rfl (x_move rfl h.1) rfl,
          fun _ _ h => rv rfl (x_field rfl h.1 Try.underlying67 rfl sz3 (by decide) rfl) rfl,
          fun _ _ h => rv rfl (x_load1 rfl h.1 Try.underlying3 rfl (blk_one (L := opc (go_ os i) (D i.toNat) (C i.toNat)) (blk_below HBX6 h.2.1) 5 rfl)) rfl,
          fun _ _ h => rv rfl (x_nil rfl h.1) rfl,
          fun _ _ h => rv rfl (x_field rfl h.1 Try.underlying75 rfl sz73 (by decide) rfl) rfl,
          fun _ _ h => rv rfl (x_index_array rfl h.1 h.2.1 Try.underlying73 sz3 (by omega) (by omega) (by rw [add_mk]; first | rfl | simp)) rfl,
          fun _ _ h => rv rfl (x_load1 rfl h.1 Try.underlying3 rfl ((HBK.stepW h.2.1).ckindT htn (by omega) (by omega))) rfl,
          fun _ _ h => rv rfl (x_neq rfl h.1 rfl) rfl,
          fun _ _ h => rv rfl (x_move rfl h.1) rfl,
          fun _ _ h => rb rfl rfl h.1 (fun hgt => x_move rfl h.2.1) (fun _ z => z),
          fun _ _ h => rb rfl rfl h.1 (fun hgt => x_field rfl h.2.1 Try.underlying67 rfl sz3 (by decide) rfl) (fun _ z => z),
          fun _ _ h => rb rfl rfl h.1 (fun hgt => x_load1 rfl (h.2.1.1 hgt) Try.underlying3 rfl (blk_one (L := opc (go_ os i) (D i.toNat) (C i.toNat)) (blk_below HBX6 h.2.2.1) 5 rfl)) (fun _ z => z),
          fun _ _ h => rb rfl rfl h.1 (fun hgt => x_nil rfl (h.2.1.1 hgt)) (fun _ z => z),
          fun _ _ h => rb rfl rfl h.1 (fun hgt => x_field rfl (h.2.1.1 hgt) Try.underlying75 rfl sz73 (by decide) rfl) (fun _ z => z),
          fun _ _ h => rb rfl rfl h.1 (fun hgt => x_index_array rfl (h.2.1.1 hgt) (h.2.2.1.1 hgt) Try.underlying73 sz3 (by omega) (by omega) (by rw [add_mk]; first | rfl | simp)) (fun _ z => z),
          fun _ _ h => rb rfl rfl h.1 (fun hgt => x_load1 rfl (h.2.1.1 hgt) Try.underlying3 rfl ((HBK.stepW h.2.2.1).ckindT htn (by omega) (by omega))) (fun _ z => z),
          fun _ _ h => rb rfl rfl h.1 (fun hgt => x_loadS rfl h.2.1 Try.underlying67 (opc (go_ os i) (D i.toNat) (C i.toNat)) sz67 (blk_list (L := opc (go_ os i) (D i.toNat) (C i.toNat)) (blk_below HBX6 h.2.2.1) 0 rfl)) (fun _ z => z),
          fun _ _ h => rcb hgrow rfl rfl h.1 Try.func93 (by kernel_rfl) rfl rfl (fun hgt => args1 (h.2.1.1 hgt)) (fun hgt => thing_calls (go_ os i) (D i.toNat) (C i.toNat) _) (fun _ _ _ h => h) (fun _ _ z => z),
          fun _ _ h => rb rfl rfl h.1 (fun hgt => x_neq rfl (h.2.1.1 hgt) (h.2.2.1.1 hgt)) (fun _ z => z),
          fun _ _ h => rv rfl (x_and rfl rfl h.1 (fun hc => h.2.1.1 (beq_iff_eq.2 hc))) rfl, trivial⟩) ?_
        clear s0 s4 s5 s6 s16 s17 s18 s54
        clear hN hD
        rintro a14 w14 hN hD ⟨s74, s0, s4, s6, s16, s17, s18, hGR, -⟩
        replace HB := below_step HB hGR
        replace HBK := HBK.stepW hGR
        replace HBX6 := blk_below HBX6 hGR
        clear hGR
        show Code.wp _ _ _ _ _
        refine wp_cond (t := ((gi (tf thing (os.take i.toNat)) (go_ os i).obj) != 0) && ((gi (tf thing (os.take i.toNat)) (go_ os i).obj) != (thing (go_ os i)))) s74 ?_
        rcases Bool.eq_false_or_eq_true (((gi (tf thing (os.take i.toNat)) (go_ os i).obj) != 0) && ((gi (tf thing (os.take i.toNat)) (go_ os i).obj) != (thing (go_ os i)))) with cd15 | cd15
        · rw [cd15]
          show Code.wp _ _ _ _ _
          have hs2 : iKindBad os i = true := cd15
          refine wp_seq ?_
          refine deedL [.eq 2 (.pointer none), .eq 3 (.bool false), .w (Below w14.heap.size w14)] 127 [[], []] [] [0, 1, 2] hM hN hD (by kernel_rfl) ⟨⟨Below.refl _ _, below_drew (Below.refl _ _)⟩, trivial⟩ ⟨fun _ _ hb h => below_step h hb, trivial⟩ (fun hgrow => ⟨fun _ _ _ => rv rfl (x_assign rfl rfl) rfl,
            fun _ _ _ => rv rfl (x_assign rfl rfl) rfl, trivial⟩) ?_
          clear s0 s4 s6 s16 s17 s18 s74
          clear hN hD
          rintro a16 w16 hN hD ⟨s2, s3, hGR, -⟩
          replace HB := below_step HB hGR
          replace HBK := HBK.stepW hGR
          replace HBX6 := blk_below HBX6 hGR
          clear hGR
          show Code.wp _ _ _ _ _
          refine wp_ret (then_ret (blk_ret (then_ret (then_ret (blk_ret (then_ret ?_))))))
          refine bodyPost_ret (fn := Try.f50) (results_list (rs := [.tmp 2, .tmp 3]) (vs := [.pointer none, .bool false]) rfl (by simp) (vtmp s2 (vtmp s3 .nil))) hD ?_
          rw [iLogOK_false (fun h => by have := (h.2.1 i hi0 hi2).2; rw [hs2] at this; cases this)]
          exact ⟨_, rfl, fun h => (by cases h), HB⟩
        · rw [cd15]
          show Code.wp _ _ _ _ _
          have hs2 : iKindBad os i = false := cd15
          refine wp_skip ?_
          show Code.wp _ _ _ _ _
          refine deedL [.eq 75 (.pointer (some ⟨g15, 0, none⟩)), .eq 76 (.agg (opc (go_ os i) (D i.toNat) (C i.toNat)).toArray), .w fun W => (∃ vs', BookAt w (okW w W) W g15 vs' ((bk (los os D C i.toNat)).put ⟨go_ os i, D i.toNat, C i.toNat⟩)) ∧ Kx (okW w w14) w14 W, .eq 0 (.slice A os.length c), .eq 4 (.pointer (some ⟨g15, 0, none⟩)), .eq 6 (.pointer (some ⟨g6, 0, none⟩)), .eq 16 (.slice A os.length c), .eq 17 (.int .i64 (os.length : Int)), .eq 18 (.int .i64 i), .w (Below w14.heap.size w14)] 127 [[4], [5, 9], [0, 1, 9]] [[], [], [9]] [2, 3, 4, 5, 6, 7, 8] hM hN hD (by kernel_rfl) ⟨s0, s4, s6, s16, s17, s18, ⟨Below.refl _ _, below_drew (Below.refl _ _)⟩, trivial⟩ ⟨fun _ _ hb h => ⟨⟨_, h.1.choose_spec.stepW hb⟩, h.2.step hb⟩, fun _ _ hb h => below_step h hb, trivial⟩ (fun hgrow => ⟨fun _ _ h => rv rfl (x_move rfl h.1) rfl,
            fun _ _ h => rv rfl (x_loadS rfl h.1 Try.underlying67 (opc (go_ os i) (D i.toNat) (C i.toNat)) sz67 (blk_list (L := opc (go_ os i) (D i.toNat) (C i.toNat)) (blk_below HBX6 h.2.1) 0 rfl)) rfl,
            ?_, trivial⟩) ?_
          · rintro a_ W ⟨h0, h1, h9, -⟩
            refine runs_call Try.func90 (by kernel_rfl) rfl #[.pointer (some ⟨g15, 0, none⟩), .agg (opc (go_ os i) (D i.toNat) (C i.toNat)).toArray] (wanted_none rfl) rfl (args2 h0 h1) ?_
            refine (put_calls w W (okW w W) g15 vs (bk (los os D C i.toNat)) ⟨go_ os i, D i.toNat, C i.toNat⟩ ⟨rfl, RO.deps HR hi0 hi2, RO.cap HR hi0 hi2⟩ (HBK.stepW h9) (fun k hk => hk.2) hf.a0 hf.a1 (by show 0 ≤ (go_ os i).obj; omega) (by show (go_ os i).obj < 101; omega) (fun j => by have := bk_of_le (los os D C i.toNat) j; rw [los_length] at this; omega) (by rw [bk_size]; omega) (by rw [bk_size, los_length]; omega)).mono ?_
            rintro e w3 ⟨rfl, ⟨vs1, hbk⟩, hkx⟩
            refine ⟨_, rfl, owe_keep trivial ⟨⟨vs1, hbk.lift (fun k hk => ?_)⟩, ?_⟩⟩
            · rcases hk with hk | hk
              · exact hk.1
              · exact Nat.le_trans (Nat.le_trans HB.size h9.size) hk
            · exact ⟨hkx.os.trans h9.os, hkx.tape.trans h9.tape, hkx.output.trans h9.output, Nat.le_trans h9.size hkx.size, fun k hk hn => (hkx.block k (Nat.lt_of_lt_of_le hk h9.size) (fun hk2 => hn ⟨hk2.1, hk⟩)).trans (h9.block k hk)⟩
          clear s0 s4 s6 s16 s17 s18 s74
          clear hN hD
          clear HBK
          clear HBX6
          rintro a17 w17 hN hD ⟨⟨⟨vs1, HBK⟩, hkx⟩, s0, s4, s6, s16, s17, s18, -⟩
          replace HB := Kx.below HB hkx HB.size (fun k hk => hk.1)
          show Code.wp _ _ _ _ _
          refine deedL [.eq 78 (.int .i64 (i + 1)), .eq 18 (.int .i64 (i + 1)), .eq 0 (.slice A os.length c), .eq 4 (.pointer (some ⟨g15, 0, none⟩)), .eq 16 (.slice A os.length c), .eq 17 (.int .i64 (os.length : Int)), .eq 18 (.int .i64 i), .w (Below w17.heap.size w17)] 127 [[6], [0]] [[], [6]] [1, 2, 3, 4, 5, 7] hM hN hD (by kernel_rfl) ⟨s0, s4, s16, s17, s18, ⟨Below.refl _ _, below_drew (Below.refl _ _)⟩, trivial⟩ ⟨fun _ _ hb h => below_step h hb, trivial⟩ (fun hgrow => ⟨fun _ _ h => rv rfl (x_add' rfl h.1 rfl (by omega)) rfl,
            fun _ _ h => rv rfl (x_move rfl h.1) rfl, trivial⟩) ?_
          clear s0 s4 s6 s16 s17 s18
          clear hN hD
          rintro a18 w18 hN hD ⟨s18, s0, s4, s16, s17, hGR, -⟩
          replace HB := below_step HB hGR
          replace HBK := HBK.stepW hGR
          clear hGR
          show ∃ m, m < n_7 ∧ _
          exact ⟨_, (by omega), ⟨(i + 1), vs1, hN, hD, s0, s4, s16, s17, s18, HB, (by rw [los_snoc hi0, bk_snoc]; exact HBK), (by omega), (by omega), (by intro j u v; by_cases e : j = i; (subst e; exact ⟨hs1, hs2⟩); exact hi j u (by omega)), rfl⟩⟩
    · rw [cd9]
      show Code.wp _ _ _ _ _
      have pd9 := of_decide_eq_false cd9
      refine wp_exit (then_exit (then_exit (at_exit ?_)))
      show Code.wp _ _ _ _ _
      refine wp_seq ?_
      refine wp_seq ?_
      have hin : i.toNat = os.length := by omega
      have hst : ∀ j : Int, 0 ≤ j → j < os.length → iBad os j = false ∧ iKindBad os j = false := fun j u v => hi j u (by omega)
      rw [hin] at HBK hac
      clear hnl htl htn
      refine deedL [.eq 79 (.slice A os.length c), .eq 80 (.int .i64 (os.length : Int)), .eq 81 (.int .i64 0), .eq 0 (.slice A os.length c), .eq 4 (.pointer (some ⟨g15, 0, none⟩)), .w (Below w8.heap.size w8)] 127 [[3], [0], []] [] [0, 1, 2, 3, 4, 5] hM hN hD (by kernel_rfl) ⟨s0, s4, ⟨Below.refl _ _, below_drew (Below.refl _ _)⟩, trivial⟩ ⟨fun _ _ hb h => below_step h hb, trivial⟩ (fun hgrow => ⟨fun _ _ h => rv rfl (x_move rfl h.1) rfl,
        fun _ _ h => rv rfl (x_len_slice rfl Try.underlying27 h.1) rfl,
        fun _ _ _ => rv rfl (x_move rfl rfl) rfl, trivial⟩) ?_
      clear s0 s4 s16 s17 s18 s19
      clear hN hD
      rintro a19 w19 hN hD ⟨s79, s80, s81, s0, s4, hGR, -⟩
      replace HB := below_step HB hGR
      replace HBK := HBK.stepW hGR
      clear hGR
      show Code.wp _ _ _ _ _
      refine wp_block ?_
      refine wp_loopN (fun n_ q_ w_ => ∃ (k : Int), (q_.tmps.size = 127) ∧ (q_.defers = []) ∧ (sl q_ 4 = .pointer (some ⟨g15, 0, none⟩)) ∧ (sl q_ 79 = .slice A os.length c) ∧ (sl q_ 80 = .int .i64 (os.length : Int)) ∧ (sl q_ 81 = .int .i64 k) ∧ (Below w.heap.size w w_) ∧ (BookAt w (okW w w_) w_ g15 vs (bk (los os D C os.length))) ∧ (0 ≤ k) ∧ (k ≤ os.length) ∧ (∀ j b : Int, 0 ≤ j → j < k → 0 ≤ b → b < 16 → depBad os j b = false) ∧ (n_ = (os.length - k).toNat)) ((fun (k : Int) => (os.length - k).toNat) 0) ?_ ?_
      · exact ⟨0, hN, hD, s4, s79, s80, s81, HB, HBK, (by omega), (by omega), (by intro j b2 u v; omega), rfl⟩
      clear s0 s4 s79 s80 s81 HB HBK hN hD
      rintro n_20 a20 w20 ⟨k, hN, hD, s4, s79, s80, s81, HB, HBK, hk0, hk1, hk, hmeas⟩
      refine wp_seq ?_
      refine deedL [.eq 82 (.bool (decide (k < (os.length : Int)))), .eq 4 (.pointer (some ⟨g15, 0, none⟩)), .eq 79 (.slice A os.length c), .eq 80 (.int .i64 (os.length : Int)), .eq 81 (.int .i64 k), .w (Below w20.heap.size w20)] 127 [[4, 3]] [] [0, 1, 2, 3, 4, 5] hM hN hD (by kernel_rfl) ⟨s4, s79, s80, s81, ⟨Below.refl _ _, below_drew (Below.refl _ _)⟩, trivial⟩ ⟨fun _ _ hb h => below_step h hb, trivial⟩ (fun hgrow => ⟨fun _ _ h => rv rfl (x_lss rfl h.1 h.2.1) rfl, trivial⟩) ?_
      clear s4 s79 s80 s81
      clear hN hD
      rintro a21 w21 hN hD ⟨s82, s4, s79, s80, s81, hGR, -⟩
      replace HB := below_step HB hGR
      replace HBK := HBK.stepW hGR
      clear hGR
      show Code.wp _ _ _ _ _
      refine wp_seq ?_
      refine wp_cond (t := decide (k < (os.length : Int))) s82 ?_
      rcases Bool.eq_false_or_eq_true (decide (k < (os.length : Int))) with cd22 | cd22
      · rw [cd22]
        show Code.wp _ _ _ _ _
        have pd22 := of_decide_eq_true cd22
        have hk2 := pd22
        refine wp_skip ?_
        show Code.wp _ _ _ _ _
        refine wp_seq ?_
        refine wp_block ?_
        refine wp_seq ?_
        refine deedL [.eq 83 (.pointer (some ((adr A).add (k.toNat * 12)))), .eq 84 (.agg (opc (go_ os k) (D k.toNat) (C k.toNat)).toArray), .s1 8 (NewB w21.heap.size [.int .i64 0, .int .i64 0, .int .i64 0, .slice none 0 0, .int .i64 0, .int .i64 0, .int .i64 0, .int .i64 0, .int .i64 0, .int .i64 0, .string ⟨#[]⟩, .string ⟨#[]⟩] 67), .s1 8 (NewB w21.heap.size (opc (go_ os k) (D k.toNat) (C k.toNat)) 67), .eq 4 (.pointer (some ⟨g15, 0, none⟩)), .eq 79 (.slice A os.length c), .eq 80 (.int .i64 (os.length : Int)), .eq 81 (.int .i64 k), .w (Below w21.heap.size w21)] 127 [[5, 7], [0, 8], [8], [2, 1, 8]] [[], [], [], [2]] [3, 4, 5, 6, 7, 8] hM hN hD (by kernel_rfl) ⟨s4, s79, s80, s81, ⟨Below.refl _ _, below_drew (Below.refl _ _)⟩, trivial⟩ ⟨fun _ _ _ hb h => h.grow hb, fun _ _ _ hb h => h.grow hb, fun _ _ hb h => below_step h hb, trivial⟩ (fun hgrow => ⟨fun _ _ h => rv rfl (x_index_at rfl h.1 h.2.1 Try.underlying27 sz67 (by omega) (by omega) (RO.ad HR k (by omega) (by omega))) rfl,
          fun _ _ h => rv rfl (x_loadS rfl h.1 Try.underlying67 (opc (go_ os k) (D k.toNat) (C k.toNat)) sz67 (RO.cells HR (below_step HB h.2.1) (by omega) (by omega))) rfl,
          fun _ _ h => rbox hgrow rfl (x_alloc rfl zr67) h.1.size (fun _ _ z => z),
          ?_, trivial⟩) ?_
        · rintro a_ W ⟨h2, h1, h8, -⟩
          obtain ⟨g8, e3, l3, hb3⟩ := h2
          exact rstoreS rfl rfl e3 h1 (by simp [Value.oneCell']) sz67 hb3 rfl ⟨_, e3, l3, blk_stored (cs := (opc (go_ os k) (D k.toNat) (C k.toNat))) 0 _ [.int .i64 0, .int .i64 0, .int .i64 0, .slice none 0 0, .int .i64 0, .int .i64 0, .int .i64 0, .int .i64 0, .int .i64 0, .int .i64 0, .string ⟨#[]⟩, .string ⟨#[]⟩] hb3 (of_decide_eq_true rfl)⟩ ⟨fun h => below_cells h l3, trivial⟩
        clear s4 s79 s80 s81 s82
        clear hN hD
        rintro a23 w23 hN hD ⟨⟨g8, s8, lg8, HBX8⟩, s4, s79, s80, s81, hGR, -⟩
        replace lg8 := Nat.le_trans HB.size lg8
        replace HB := below_step HB hGR
        replace HBK := HBK.stepW hGR
        clear hGR
        show Code.wp _ _ _ _ _
        refine wp_seq ?_
        have hf := iOp_fine (iBad_ok (hst k hk0 hk2).1)
        have hdl := hf.vec.1
        refine deedL [.eq 85 (.pointer (some ⟨g8, 3, none⟩)), .eq 86 (.pointer (some ⟨g8, 3, none⟩)), .eq 87 (.slice (D k.toNat) ((go_ os k).deps.length) (C k.toNat)), .eq 88 (.int .i64 ((go_ os k).deps.length)), .eq 89 (.int .i64 0), .eq 4 (.pointer (some ⟨g15, 0, none⟩)), .eq 8 (.pointer (some ⟨g8, 0, none⟩)), .eq 79 (.slice A os.length c), .eq 80 (.int .i64 (os.length : Int)), .eq 81 (.int .i64 k), .w (Below w23.heap.size w23)] 127 [[6], [0], [1, 10], [2], []] [] [2, 3, 4, 5, 6, 7, 8, 9, 10] hM hN hD (by kernel_rfl) ⟨s4, s8, s79, s80, s81, ⟨Below.refl _ _, below_drew (Below.refl _ _)⟩, trivial⟩ ⟨fun _ _ hb h => below_step h hb, trivial⟩ (fun hgrow => ⟨fun _ _ h => rv rfl (x_field rfl h.1 Try.underlying67 rfl sz41 (by decide) rfl) rfl,
          fun _ _ h => rv rfl (x_field rfl h.1 Try.underlying41 rfl sz24 (by decide) rfl) rfl,
          fun _ _ h => rv rfl (x_load1 rfl h.1 Try.underlying24 rfl (blk_one (L := opc (go_ os k) (D k.toNat) (C k.toNat)) (blk_below HBX8 h.2.1) 3 rfl)) rfl,
          fun _ _ h => rv rfl (x_len_slice rfl Try.underlying24 h.1) rfl,
          fun _ _ _ => rv rfl (x_move rfl rfl) rfl, trivial⟩) ?_
        clear s4 s79 s80 s81 s8
        clear hN hD
        rintro a24 w24 hN hD ⟨s87, s88, s89, s4, s8, s79, s80, s81, hGR, -⟩
        replace HB := below_step HB hGR
        replace HBK := HBK.stepW hGR
        replace HBX8 := blk_below HBX8 hGR
        clear hGR
        show Code.wp _ _ _ _ _
        refine wp_block ?_
        refine wp_loopN (fun n_ q_ w_ => ∃ (b : Int), (q_.tmps.size = 127) ∧ (q_.defers = []) ∧ (sl q_ 4 = .pointer (some ⟨g15, 0, none⟩)) ∧ (sl q_ 8 = .pointer (some ⟨g8, 0, none⟩)) ∧ (sl q_ 79 = .slice A os.length c) ∧ (sl q_ 80 = .int .i64 (os.length : Int)) ∧ (sl q_ 81 = .int .i64 k) ∧ (sl q_ 87 = .slice (D k.toNat) ((go_ os k).deps.length) (C k.toNat)) ∧ (sl q_ 88 = .int .i64 ((go_ os k).deps.length)) ∧ (sl q_ 89 = .int .i64 b) ∧ (Below w.heap.size w w_) ∧ (BookAt w (okW w w_) w_ g15 vs (bk (los os D C os.length))) ∧ (w_.heap[g8]? = some (.cells (opc (go_ os k) (D k.toNat) (C k.toNat)).toArray 67 (0, 0))) ∧ (0 ≤ b) ∧ (b ≤ 16) ∧ (∀ j : Int, 0 ≤ j → j < b → depBad os k j = false) ∧ (n_ = (16 - b).toNat)) ((fun (b : Int) => (16 - b).toNat) 0) ?_ ?_
        · exact ⟨0, hN, hD, s4, s8, s79, s80, s81, s87, s88, s89, HB, HBK, HBX8, (by omega), (by omega), (by intro j u v; omega), rfl⟩
        clear s4 s8 s79 s80 s81 s87 s88 s89 HB HBK HBX8 hN hD
        rintro n_25 a25 w25 ⟨b, hN, hD, s4, s8, s79, s80, s81, s87, s88, s89, HB, HBK, HBX8, hb0, hb1, hb, hmeas⟩
        refine wp_seq ?_
        refine deedL [.eq 90 (.bool (decide (b < (go_ os k).deps.length))), .eq 4 (.pointer (some ⟨g15, 0, none⟩)), .eq 8 (.pointer (some ⟨g8, 0, none⟩)), .eq 79 (.slice A os.length c), .eq 80 (.int .i64 (os.length : Int)), .eq 81 (.int .i64 k), .eq 87 (.slice (D k.toNat) ((go_ os k).deps.length) (C k.toNat)), .eq 88 (.int .i64 ((go_ os k).deps.length)), .eq 89 (.int .i64 b), .w (Below w25.heap.size w25)] 127 [[8, 7]] [] [0, 1, 2, 3, 4, 5, 6, 7, 8, 9] hM hN hD (by kernel_rfl) ⟨s4, s8, s79, s80, s81, s87, s88, s89, ⟨Below.refl _ _, below_drew (Below.refl _ _)⟩, trivial⟩ ⟨fun _ _ hb h => below_step h hb, trivial⟩ (fun hgrow => ⟨fun _ _ h => rv rfl (x_lss rfl h.1 h.2.1) rfl, trivial⟩) ?_
        clear s4 s8 s79 s80 s81 s87 s88 s89
        clear hN hD
        rintro a26 w26 hN hD ⟨s90, s4, s8, s79, s80, s81, s87, s88, s89, hGR, -⟩
        replace HB := below_step HB hGR
        replace HBK := HBK.stepW hGR
        replace HBX8 := blk_below HBX8 hGR
        clear hGR
        show Code.wp _ _ _ _ _
        refine wp_seq ?_
        refine wp_cond (t := decide (b < (go_ os k).deps.length)) s90 ?_
        rcases Bool.eq_false_or_eq_true (decide (b < (go_ os k).deps.length)) with cd27 | cd27
        · rw [cd27]
          show Code.wp _ _ _ _ _
          have pd27 := of_decide_eq_true cd27
          refine wp_skip ?_
          show Code.wp _ _ _ _ _
          refine wp_seq ?_
          refine wp_block ?_
          refine wp_seq ?_
          refine deedL [.eq 91 (.int .i64 b), .eq 92 (.pointer (some ((adr (D k.toNat)).add (b.toNat * 1)))), .eq 93 (.int .i64 (gi ((go_ os k).deps) b)), .eq 9 (.int .i64 b), .eq 10 (.int .i64 (gi ((go_ os k).deps) b)), .eq 4 (.pointer (some ⟨g15, 0, none⟩)), .eq 8 (.pointer (some ⟨g8, 0, none⟩)), .eq 79 (.slice A os.length c), .eq 80 (.int .i64 (os.length : Int)), .eq 81 (.int .i64 k), .eq 87 (.slice (D k.toNat) ((go_ os k).deps.length) (C k.toNat)), .eq 88 (.int .i64 ((go_ os k).deps.length)), .eq 89 (.int .i64 b), .w (Below w26.heap.size w26)] 127 [[12], [10, 12], [1, 13], [0], [2]] [] [3, 4, 5, 6, 7, 8, 9, 10, 11, 12, 13] hM hN hD (by kernel_rfl) ⟨s4, s8, s79, s80, s81, s87, s88, s89, ⟨Below.refl _ _, below_drew (Below.refl _ _)⟩, trivial⟩ ⟨fun _ _ hb h => below_step h hb, trivial⟩ (fun hgrow => ⟨fun _ _ h => rv rfl (x_move rfl h.1) rfl,
            fun _ _ h => rv rfl (x_index_at rfl h.1 h.2.1 Try.underlying24 sz3 (by omega) (by omega) (RI.ad (RO.deps HR (by omega) (by omega)) b (by omega) (by omega))) rfl,
            fun _ _ h => rv rfl (x_load1 rfl h.1 Try.underlying3 rfl (RI.at_ (RO.deps HR (by omega) (by omega)) (below_step HB h.2.1) (by omega) (by omega))) rfl,
            fun _ _ h => rv rfl (x_assign rfl h.1) rfl,
            fun _ _ h => rv rfl (x_assign rfl h.1) rfl, trivial⟩) ?_
          clear s4 s8 s79 s80 s81 s87 s88 s89 s90
          clear hN hD
          rintro a28 w28 hN hD ⟨s9, s10, s4, s8, s79, s80, s81, s87, s88, s89, hGR, -⟩
          replace HB := below_step HB hGR
          replace HBK := HBK.stepW hGR
          replace HBX8 := blk_below HBX8 hGR
          clear hGR
          show Code.wp _ _ _ _ _
          refine wp_seq ?_
          have hnl := num_le os b
          have hnum : num (os.take os.length) b = num os b := by rw [List.take_length]
          refine deedL (.eq 94 (.int .i64 (gi ((go_ os k).deps) b)) :: .eq 95 (.pointer (some ⟨g15, 0, none⟩)) :: .eq 96 (.int .i64 b) :: .eq 97 (.pointer (some ⟨g15, 0, none⟩)) :: .eq 98 (.pointer (some ⟨g15, 0, none⟩)) :: .eq 99 (.pointer (some ⟨g15, b.toNat, none⟩)) :: .eq 100 (vs.getD b.toNat undef) :: .eq 101 (.int .i64 (num os b)) :: .eq 102 (.bool (decide (num os b < gi ((go_ os k).deps) b))) :: .eq 103 (.bool (decide (num os b < gi ((go_ os k).deps) b))) :: .gv (((decide (num os b < gi ((go_ os k).deps) b)) == false)) 104 (.int .i64 (gi ((go_ os k).deps) b)) :: .gv (((decide (num os b < gi ((go_ os k).deps) b)) == false)) 105 (.bool (decide (0 < gi ((go_ os k).deps) b))) :: .gv (((decide (num os b < gi ((go_ os k).deps) b)) == false)) 106 (.bool (decide (0 < gi ((go_ os k).deps) b))) :: .gv (((decide (num os b < gi ((go_ os k).deps) b)) == false) && ((decide (0 < gi ((go_ os k).deps) b)) == true)) 107 (.pointer (some ⟨g15, 0, none⟩)) :: .gv (((decide (num os b < gi ((go_ os k).deps) b)) == false) && ((decide (0 < gi ((go_ os k).deps) b)) == true)) 108 (.int .i64 b) :: .gv (((decide (num os b < gi ((go_ os k).deps) b)) == false) && ((decide (0 < gi ((go_ os k).deps) b)) == true)) 109 (.pointer (some ⟨g15, 0, none⟩)) :: .gv (((decide (num os b < gi ((go_ os k).deps) b)) == false) && ((decide (0 < gi ((go_ os k).deps) b)) == true)) 110 (.pointer (some ⟨g15, 0, none⟩)) :: .gv (((decide (num os b < gi ((go_ os k).deps) b)) == false) && ((decide (0 < gi ((go_ os k).deps) b)) == true)) 111 (.pointer (some ⟨g15, b.toNat, none⟩)) :: .gv (((decide (num os b < gi ((go_ os k).deps) b)) == false) && ((decide (0 < gi ((go_ os k).deps) b)) == true)) 112 (vs.getD b.toNat undef) :: .gv (((decide (num os b < gi ((go_ os k).deps) b)) == false) && ((decide (0 < gi ((go_ os k).deps) b)) == true)) 113 (.int .i64 (gi ((go_ os k).deps) b)) :: .gv (((decide (num os b < gi ((go_ os k).deps) b)) == false) && ((decide (0 < gi ((go_ os k).deps) b)) == true)) 114 (.int .i64 ((gi ((go_ os k).deps) b) - 1)) :: .gv (((decide (num os b < gi ((go_ os k).deps) b)) == false) && ((decide (0 < gi ((go_ os k).deps) b)) == true)) 115 (.pointer (some ((vadr (vs.getD b.toNat undef)).add ((gi (go_ os k).deps b - 1).toNat * 12)))) :: .gv (((decide (num os b < gi ((go_ os k).deps) b)) == false) && ((decide (0 < gi ((go_ os k).deps) b)) == true)) 116 (.agg (opc ((lnth os D C b (gi (go_ os k).deps b)).o) ((lnth os D C b (gi (go_ os k).deps b)).A) ((lnth os D C b (gi (go_ os k).deps b)).c)).toArray) :: .gv (((decide (num os b < gi ((go_ os k).deps) b)) == false) && ((decide (0 < gi ((go_ os k).deps) b)) == true)) 117 (.agg #[Value.int .i64 (((lnth os D C b (gi (go_ os k).deps b)).o).time), Value.int .i64 (((lnth os D C b (gi (go_ os k).deps b)).o).actor)]) :: .gv (((decide (num os b < gi ((go_ os k).deps) b)) == false) && ((decide (0 < gi ((go_ os k).deps) b)) == true)) 118 (.agg (opc (go_ os k) (D k.toNat) (C k.toNat)).toArray) :: .gv (((decide (num os b < gi ((go_ os k).deps) b)) == false) && ((decide (0 < gi ((go_ os k).deps) b)) == true)) 119 (.agg #[Value.int .i64 ((go_ os k).time), Value.int .i64 ((go_ os k).actor)]) :: .gv (((decide (num os b < gi ((go_ os k).deps) b)) == false) && ((decide (0 < gi ((go_ os k).deps) b)) == true)) 120 (.bool (less (((lnth os D C b (gi (go_ os k).deps b)).o).time, ((lnth os D C b (gi (go_ os k).deps b)).o).actor) ((go_ os k).time, (go_ os k).actor))) :: .gv (((decide (num os b < gi ((go_ os k).deps) b)) == false) && ((decide (0 < gi ((go_ os k).deps) b)) == true)) 121 (.bool (!(less (((lnth os D C b (gi (go_ os k).deps b)).o).time, ((lnth os D C b (gi (go_ os k).deps b)).o).actor) ((go_ os k).time, (go_ os k).actor)))) :: .gv (((decide (num os b < gi ((go_ os k).deps) b)) == false)) 122 (.bool ((decide (0 < gi ((go_ os k).deps) b)) && (!(less (((lnth os D C b (gi (go_ os k).deps b)).o).time, ((lnth os D C b (gi (go_ os k).deps b)).o).actor) ((go_ os k).time, (go_ os k).actor))))) :: .eq 123 (.bool ((decide (num os b < gi ((go_ os k).deps) b)) || ((decide (0 < gi ((go_ os k).deps) b)) && (!(less (((lnth os D C b (gi (go_ os k).deps b)).o).time, ((lnth os D C b (gi (go_ os k).deps b)).o).actor) ((go_ os k).time, (go_ os k).actor)))))) :: .eq 4 (.pointer (some ⟨g15, 0, none⟩)) :: .eq 8 (.pointer (some ⟨g8, 0, none⟩)) :: .eq 9 (.int .i64 b) :: .eq 10 (.int .i64 (gi ((go_ os k).deps) b)) :: .eq 79 (.slice A os.length c) :: .eq 80 (.int .i64 (os.length : Int)) :: .eq 81 (.int .i64 k) :: .eq 87 (.slice (D k.toNat) ((go_ os k).deps.length) (C k.toNat)) :: .eq 88 (.int .i64 ((go_ os k).deps.length)) :: .eq 89 (.int .i64 b) :: .w (Below w28.heap.size w28) :: []) 127 ([33] :: [30] :: [32] :: [1] :: [3] :: [4, 2] :: [5, 40] :: [6, 40] :: [0, 7] :: [8] :: [9, 33] :: [9, 10] :: [9, 11] :: [12, 30] :: [12, 32] :: [12, 13] :: [12, 15] :: [12, 16, 14] :: [12, 17, 40] :: [12, 33] :: [12, 19] :: [12, 18, 20, 40] :: [12, 21, 40] :: [12, 22] :: [12, 31, 40] :: [12, 24] :: [12, 23, 25] :: [12, 26] :: [9, 12, 27] :: [9, 28] :: []) [] [29, 30, 31, 32, 33, 34, 35, 36, 37, 38, 39, 40] hM hN hD (by kernel_rfl) ⟨s4, s8, s9, s10, s79, s80, s81, s87, s88, s89, ⟨Below.refl _ _, below_drew (Below.refl _ _)⟩, trivial⟩ ⟨fun _ _ hb h => below_step h hb, trivial⟩ (fun hgrow => ⟨fun _ _ h => rv rfl (x_move rfl h.1) rfl,
            fun _ _ h => rv rfl (x_move rfl h.1) rfl,
            fun _ _ h => rv rfl (x_move rfl h.1) rfl,
            fun _ _ h => rv rfl (x_nil rfl h.1) rfl,
            fun _ _ h => rv rfl (x_field rfl h.1 Try.underlying75 rfl sz72 (by decide) rfl) rfl,
            fun _ _ h => rv rfl (x_index_array rfl h.1 h.2.1 Try.underlying72 sz27 (by omega) (by omega) (by rw [add_mk]; first | rfl | simp)) rfl,
            fun _ _ h => rv rfl (x_load1 rfl h.1 Try.underlying27 rfl ((HBK.stepW h.2.1).cof (by omega))) rfl,
            fun _ _ h => rv rfl (x_len_own rfl Try.underlying27 h.1 ((HBK.stepW h.2.1).ownA (Nat.le_refl _) hac hb0 (by omega)) ((filt_num (Nat.le_refl _) _).trans hnum)) rfl,
            fun _ _ h => rv rfl (x_gtr rfl h.1 h.2.1) rfl,
            fun _ _ h => rv rfl (x_move rfl h.1) rfl,
            fun _ _ h => rb rfl rfl h.1 (fun hgt => x_move rfl h.2.1) (fun _ z => z),
            fun _ _ h => rb rfl rfl h.1 (fun hgt => x_gtr rfl (h.2.1.1 hgt) rfl) (fun _ z => z),
            fun _ _ h => rb rfl rfl h.1 (fun hgt => x_move rfl (h.2.1.1 hgt)) (fun _ z => z),
            fun _ _ h => rg rfl rfl h.1 (fun hgt => x_move rfl h.2.1) (fun _ z => z),
            fun _ _ h => rg rfl rfl h.1 (fun hgt => x_move rfl h.2.1) (fun _ z => z),
            fun _ _ h => rg rfl rfl h.1 (fun hgt => x_nil rfl (h.2.1.1 hgt)) (fun _ z => z),
            fun _ _ h => rg rfl rfl h.1 (fun hgt => x_field rfl (h.2.1.1 hgt) Try.underlying75 rfl sz72 (by decide) rfl) (fun _ z => z),
            fun _ _ h => rg rfl rfl h.1 (fun hgt => x_index_array rfl (h.2.1.1 hgt) (h.2.2.1.1 hgt) Try.underlying72 sz27 (by omega) (by omega) (by rw [add_mk]; first | rfl | simp)) (fun _ z => z),
            fun _ _ h => rg rfl rfl h.1 (fun hgt => x_load1 rfl (h.2.1.1 hgt) Try.underlying27 rfl ((HBK.stepW h.2.2.1).cof (by omega))) (fun _ z => z),
            fun _ _ h => rg rfl rfl h.1 (fun hgt => x_move rfl h.2.1) (fun _ z => z),
            fun _ _ h => rg rfl rfl h.1 (fun hgt => x_sub' rfl (h.2.1.1 hgt) rfl (by simp at hgt; omega)) (fun _ z => z),
            fun _ _ h => rg rfl rfl h.1 (fun hgt => x_index_own rfl (h.2.1.1 hgt) (h.2.2.1.1 hgt) Try.underlying27 sz67 ((HBK.stepW h.2.2.2.1).ownA (Nat.le_refl _) hac hb0 (by omega)) (by simp at hgt; omega) (by simp at hgt; have hq := (filt_num (os := os) (D := D) (C := C) (Nat.le_refl _) b).trans hnum; omega)) (fun _ z => z),
            fun _ _ h => rg rfl rfl h.1 (fun hgt => x_loadS rfl (h.2.1.1 hgt) Try.underlying67 (opc ((lnth os D C b (gi (go_ os k).deps b)).o) ((lnth os D C b (gi (go_ os k).deps b)).A) ((lnth os D C b (gi (go_ os k).deps b)).c)) sz67 (lo_cells ((HBK.stepW h.2.2.1).ownA (Nat.le_refl _) hac hb0 (by omega)) (by simp at hgt; omega) (by simp at hgt; have hq := (filt_num (os := os) (D := D) (C := C) (Nat.le_refl _) b).trans hnum; omega) rfl)) (fun _ z => z),
            fun _ _ h => rcg hgrow rfl rfl h.1 Try.func95 (by kernel_rfl) rfl rfl (fun hgt => args1 (h.2.1.1 hgt)) (fun hgt => stamp_calls ((lnth os D C b (gi (go_ os k).deps b)).o) ((lnth os D C b (gi (go_ os k).deps b)).A) ((lnth os D C b (gi (go_ os k).deps b)).c) _) (fun _ _ _ h => h) (fun _ _ z => z),
            fun _ _ h => rg rfl rfl h.1 (fun hgt => x_loadS rfl h.2.1 Try.underlying67 (opc (go_ os k) (D k.toNat) (C k.toNat)) sz67 (blk_list (L := opc (go_ os k) (D k.toNat) (C k.toNat)) (blk_below HBX8 h.2.2.1) 0 rfl)) (fun _ z => z),
            fun _ _ h => rcg hgrow rfl rfl h.1 Try.func95 (by kernel_rfl) rfl rfl (fun hgt => args1 (h.2.1.1 hgt)) (fun hgt => stamp_calls (go_ os k) (D k.toNat) (C k.toNat) _) (fun _ _ _ h => h) (fun _ _ z => z),
            fun _ _ h => rcg hgrow rfl rfl h.1 Try.func94 (by kernel_rfl) rfl rfl (fun hgt => args2 (h.2.1.1 hgt) (h.2.2.1.1 hgt)) (fun hgt => less_calls (((lnth os D C b (gi (go_ os k).deps b)).o).time, ((lnth os D C b (gi (go_ os k).deps b)).o).actor) ((go_ os k).time, (go_ os k).actor) _) (fun _ _ _ h => h) (fun _ _ z => z),
            fun _ _ h => rg rfl rfl h.1 (fun hgt => x_not rfl (h.2.1.1 hgt)) (fun _ z => z),
            fun _ _ h => rb rfl rfl h.1 (fun hgt => x_and rfl rfl (h.2.1.1 hgt) (fun hc => h.2.2.1.1 (Bool.and_eq_true _ _ ▸ ⟨hgt, beq_iff_eq.2 hc⟩))) (fun _ z => z),
            fun _ _ h => rv rfl (x_or rfl rfl h.1 (fun hc => h.2.1.1 (beq_iff_eq.2 hc))) rfl, trivial⟩) ?_
          clear s4 s8 s79 s80 s81 s87 s88 s89 s9 s10
          clear hN hD
          rintro a29 w29 hN hD ⟨s123, s4, s8, s9, s10, s79, s80, s81, s87, s88, s89, hGR, -⟩
          replace HB := below_step HB hGR
          replace HBK := HBK.stepW hGR
          replace HBX8 := blk_below HBX8 hGR
          clear hGR
          show Code.wp _ _ _ _ _
          refine wp_cond (t := (decide (num os b < gi ((go_ os k).deps) b)) || ((decide (0 < gi ((go_ os k).deps) b)) && (!(less (((lnth os D C b (gi (go_ os k).deps b)).o).time, ((lnth os D C b (gi (go_ os k).deps b)).o).actor) ((go_ os k).time, (go_ os k).actor))))) s123 ?_
          rcases Bool.eq_false_or_eq_true ((decide (num os b < gi ((go_ os k).deps) b)) || ((decide (0 < gi ((go_ os k).deps) b)) && (!(less (((lnth os D C b (gi (go_ os k).deps b)).o).time, ((lnth os D C b (gi (go_ os k).deps b)).o).actor) ((go_ os k).time, (go_ os k).actor))))) with cd30 | cd30
          · rw [cd30]
            show Code.wp _ _ _ _ _
            have hs : depBad os k b = true := by unfold depBad; rw [← lnth_o os D C]; exact cd30
            refine wp_seq ?_
            refine deedL [.eq 2 (.pointer none), .eq 3 (.bool false), .w (Below w29.heap.size w29)] 127 [[], []] [] [0, 1, 2] hM hN hD (by kernel_rfl) ⟨⟨Below.refl _ _, below_drew (Below.refl _ _)⟩, trivial⟩ ⟨fun _ _ hb h => below_step h hb, trivial⟩ (fun hgrow => ⟨fun _ _ _ => rv rfl (x_assign rfl rfl) rfl,
              fun _ _ _ => rv rfl (x_assign rfl rfl) rfl, trivial⟩) ?_
            clear s4 s8 s9 s10 s79 s80 s81 s87 s88 s89 s123
            clear hN hD
            rintro a31 w31 hN hD ⟨s2, s3, hGR, -⟩
            replace HB := below_step HB hGR
            replace HBK := HBK.stepW hGR
            replace HBX8 := blk_below HBX8 hGR
            clear hGR
            show Code.wp _ _ _ _ _
            refine wp_ret (blk_ret (then_ret (then_ret (blk_ret (blk_ret (then_ret (then_ret (blk_ret (then_ret ?_)))))))))
            refine bodyPost_ret (fn := Try.f50) (results_list (rs := [.tmp 2, .tmp 3]) (vs := [.pointer none, .bool false]) rfl (by simp) (vtmp s2 (vtmp s3 .nil))) hD ?_
            rw [iLogOK_false (fun h => by have := h.2.2 k b hk0 hk2 hb0 (by omega); rw [hs] at this; cases this)]
            exact ⟨_, rfl, fun h => (by cases h), HB⟩
          · rw [cd30]
            show Code.wp _ _ _ _ _
            have hs : depBad os k b = false := by unfold depBad; rw [← lnth_o os D C]; exact cd30
            refine wp_skip ?_
            show Code.wp _ _ _ _ _
            refine deedL [.eq 124 (.int .i64 (b + 1)), .eq 89 (.int .i64 (b + 1)), .eq 4 (.pointer (some ⟨g15, 0, none⟩)), .eq 8 (.pointer (some ⟨g8, 0, none⟩)), .eq 79 (.slice A os.length c), .eq 80 (.int .i64 (os.length : Int)), .eq 81 (.int .i64 k), .eq 87 (.slice (D k.toNat) ((go_ os k).deps.length) (C k.toNat)), .eq 88 (.int .i64 ((go_ os k).deps.length)), .eq 89 (.int .i64 b), .w (Below w29.heap.size w29)] 127 [[9], [0]] [[], [9]] [1, 2, 3, 4, 5, 6, 7, 8, 10] hM hN hD (by kernel_rfl) ⟨s4, s8, s79, s80, s81, s87, s88, s89, ⟨Below.refl _ _, below_drew (Below.refl _ _)⟩, trivial⟩ ⟨fun _ _ hb h => below_step h hb, trivial⟩ (fun hgrow => ⟨fun _ _ h => rv rfl (x_add' rfl h.1 rfl (by omega)) rfl,
              fun _ _ h => rv rfl (x_move rfl h.1) rfl, trivial⟩) ?_
            clear s4 s8 s9 s10 s79 s80 s81 s87 s88 s89 s123
            clear hN hD
            rintro a32 w32 hN hD ⟨s89, s4, s8, s79, s80, s81, s87, s88, hGR, -⟩
            replace HB := below_step HB hGR
            replace HBK := HBK.stepW hGR
            replace HBX8 := blk_below HBX8 hGR
            clear hGR
            show ∃ m, m < n_25 ∧ _
            exact ⟨_, (by omega), ⟨(b + 1), hN, hD, s4, s8, s79, s80, s81, s87, s88, s89, HB, HBK, HBX8, (by omega), (by omega), (by intro j u v; by_cases e : j = b; (subst e; exact hs); exact hb j u (by omega)), rfl⟩⟩
        · rw [cd27]
          show Code.wp _ _ _ _ _
          have pd27 := of_decide_eq_false cd27
          refine wp_exit (then_exit (then_exit (at_exit ?_)))
          show Code.wp _ _ _ _ _
          refine deedL [.eq 125 (.int .i64 (k + 1)), .eq 81 (.int .i64 (k + 1)), .eq 4 (.pointer (some ⟨g15, 0, none⟩)), .eq 79 (.slice A os.length c), .eq 80 (.int .i64 (os.length : Int)), .eq 81 (.int .i64 k), .w (Below w26.heap.size w26)] 127 [[5], [0]] [[], [5]] [1, 2, 3, 4, 6] hM hN hD (by kernel_rfl) ⟨s4, s79, s80, s81, ⟨Below.refl _ _, below_drew (Below.refl _ _)⟩, trivial⟩ ⟨fun _ _ hb h => below_step h hb, trivial⟩ (fun hgrow => ⟨fun _ _ h => rv rfl (x_add' rfl h.1 rfl (by omega)) rfl,
            fun _ _ h => rv rfl (x_move rfl h.1) rfl, trivial⟩) ?_
          clear s4 s8 s79 s80 s81 s87 s88 s89 s90
          clear hN hD
          rintro a33 w33 hN hD ⟨s81, s4, s79, s80, hGR, -⟩
          replace HB := below_step HB hGR
          replace HBK := HBK.stepW hGR
          replace HBX8 := blk_below HBX8 hGR
          clear hGR
          show ∃ m, m < n_20 ∧ _
          exact ⟨_, (by omega), ⟨(k + 1), hN, hD, s4, s79, s80, s81, HB, HBK, (by omega), (by omega), (by intro j b2 u v u2 v2; by_cases e : j = k; (subst e; exact hb b2 u2 (by omega)); exact hk j b2 u (by omega) u2 v2), rfl⟩⟩
      · rw [cd22]
        show Code.wp _ _ _ _ _
        have pd22 := of_decide_eq_false cd22
        refine wp_exit (then_exit (then_exit (at_exit ?_)))
        show Code.wp _ _ _ _ _
        refine wp_seq ?_
        refine deedL [.eq 126 (.pointer (some ⟨g15, 0, none⟩)), .eq 2 (.pointer (some ⟨g15, 0, none⟩)), .eq 3 (.bool true), .eq 4 (.pointer (some ⟨g15, 0, none⟩)), .w (Below w21.heap.size w21)] 127 [[3], [0], []] [] [1, 2, 3, 4] hM hN hD (by kernel_rfl) ⟨s4, ⟨Below.refl _ _, below_drew (Below.refl _ _)⟩, trivial⟩ ⟨fun _ _ hb h => below_step h hb, trivial⟩ (fun hgrow => ⟨fun _ _ h => rv rfl (x_move rfl h.1) rfl,
          fun _ _ h => rv rfl (x_assign rfl h.1) rfl,
          fun _ _ _ => rv rfl (x_assign rfl rfl) rfl, trivial⟩) ?_
        clear s4 s79 s80 s81 s82
        clear hN hD
        rintro a34 w34 hN hD ⟨s2, s3, s4, hGR, -⟩
        replace HB := below_step HB hGR
        replace HBK := HBK.stepW hGR
        clear hGR
        show Code.wp _ _ _ _ _
        refine wp_ret ?_
        refine bodyPost_ret (fn := Try.f50) (results_list (rs := [.tmp 2, .tmp 3]) (vs := [.pointer (some ⟨g15, 0, none⟩), .bool true]) rfl (by simp) (vtmp s2 (vtmp s3 .nil))) hD ?_
        rw [iLogOK_true ⟨by omega, hst, fun j b u v => hk j b u (by omega)⟩]
        exact ⟨_, rfl, fun _ => ⟨g15, vs, rfl, HBK⟩, HB⟩
end Go.Proofs.Ytideafkiaipnoaa.Q

/- Functions walked. -/
namespace Go.Proofs.Ytideafkiaipnoaa.Q
open Go Go.RowKit Go.Proofs.YtideafkiaipnoaaW.PrintWords Go.Proofs.YtideafkiaipnoaaW.PrintLast Go.Proofs.Ytideafkiaipnoaa.Deed
set_option maxRecDepth 100000
set_option linter.unusedVariables false
set_option linter.unusedSimpArgs false
/-- The place of the n-th of actor a. -/
def find (os : List Op) (a n : Int) : Int := match os.findIdx? (fun o => o.actor == a) with
  | none => -1
  | some i => if n < 1 ∨ (os.length : Int) - i < n ∨ (go_ os (i + n - 1)).actor ≠ a then -1 else i + n - 1
theorem find_none {os : List Op} {a n : Int} (h : ∀ j : Int, 0 ≤ j → j < os.length → (go_ os j).actor ≠ a) : find os a n = -1 := by
  have : os.findIdx? (fun o => o.actor == a) = none := by
    rw [List.findIdx?_eq_none_iff]
    intro o ho
    obtain ⟨k, hk, e⟩ := List.getElem_of_mem ho
    have := h k (by omega) (by omega)
    have e2 : go_ os (k : Int) = o := by simp [go_, List.getD_eq_getElem?_getD, hk, e]
    rw [e2] at this
    simpa using this
  simp [find, this]
theorem find_some {os : List Op} {a n i : Int} (h0 : 0 ≤ i) (h1 : i < os.length) (h : ∀ j : Int, 0 ≤ j → j < i → (go_ os j).actor ≠ a) (ha : (go_ os i).actor = a) : find os a n = if n < 1 ∨ (os.length : Int) - i < n ∨ (go_ os (i + n - 1)).actor ≠ a then -1 else i + n - 1 := by
  have : os.findIdx? (fun o => o.actor == a) = some i.toNat := by
    rw [List.findIdx?_eq_some_iff_getElem]
    have hl : i.toNat < os.length := by omega
    have e2 : os[i.toNat] = go_ os i := by simp [go_, List.getD_eq_getElem?_getD, hl]
    refine ⟨hl, by rw [e2]; simpa using ha, fun j hj => ?_⟩
    have hl2 : j < os.length := by omega
    have := h j (by omega) (by omega)
    have e3 : go_ os (j : Int) = os[j] := by simp [go_, List.getD_eq_getElem?_getD, hl2]
    rw [e3] at this
    simpa using this
  unfold find
  rw [this]
  simp only [Int.toNat_of_nonneg h0]
set_option maxHeartbeats 2000000 in
theorem sFind_calls (A : Option Addr) (os : List Op) (D : Nat → Option Addr) (C : Nat → Nat) (c : Nat) (a n : Int) (w : World) (HR : RO w A os D C) (HL : os.length ≤ 4096) : Calls Try.prog 83 #[.slice A os.length c, .int .i64 a, .int .i64 n] w fun e w' => e = .returned (.int .i64 (find os a n)) ∧ Below w.heap.size w w' := by
  refine calls_of_wp Try.func83 rfl ?_
  refine enter_ (N := 47) rfl ?_
  rintro a0 hN hD ⟨s0, s1, s2, -⟩
  have HB : Below w.heap.size w w := Below.refl _ _
  refine wp_seq ?_
  refine deedL [.eq 6 (.int .i64 0), .eq 0 (.slice A os.length c), .eq 1 (.int .i64 a), .eq 2 (.int .i64 n), .w (Below w.heap.size w)] 47 [[]] [] [1, 2, 3, 4] hM hN hD (by kernel_rfl) ⟨s0, s1, s2, ⟨Below.refl _ _, below_drew (Below.refl _ _)⟩, trivial⟩ ⟨fun _ _ hb h => below_step h hb, trivial⟩ (fun hgrow => ⟨fun _ _ _ => rv rfl (x_assign rfl rfl) rfl, trivial⟩) ?_
  clear s0 s1 s2
  clear hN hD
  rintro a1 w1 hN hD ⟨s0, s1, s2, hGR, -⟩
  replace HB := below_step HB hGR
  clear hGR
  show Code.wp _ _ _ _ _
  refine wp_seq ?_
  refine wp_seq ?_
  refine deedL [.eq 7 (.int .i64 0), .eq 0 (.slice A os.length c), .eq 1 (.int .i64 a), .eq 2 (.int .i64 n), .w (Below w1.heap.size w1)] 47 [[]] [] [0, 1, 2, 3, 4] hM hN hD (by kernel_rfl) ⟨s0, s1, s2, ⟨Below.refl _ _, below_drew (Below.refl _ _)⟩, trivial⟩ ⟨fun _ _ hb h => below_step h hb, trivial⟩ (fun hgrow => ⟨fun _ _ _ => rv rfl (x_assign rfl rfl) rfl, trivial⟩) ?_
  clear s0 s1 s2
  clear hN hD
  rintro a2 w2 hN hD ⟨s7, s0, s1, s2, hGR, -⟩
  replace HB := below_step HB hGR
  clear hGR
  show Code.wp _ _ _ _ _
  refine wp_block ?_
  refine wp_loopN (fun n_ q_ w_ => ∃ (i : Int), (q_.tmps.size = 47) ∧ (q_.defers = []) ∧ (sl q_ 0 = .slice A os.length c) ∧ (sl q_ 1 = .int .i64 a) ∧ (sl q_ 2 = .int .i64 n) ∧ (sl q_ 7 = .int .i64 i) ∧ (Below w.heap.size w w_) ∧ (0 ≤ i) ∧ (i ≤ os.length) ∧ (∀ j : Int, 0 ≤ j → j < i → (go_ os j).actor ≠ a) ∧ (n_ = (os.length - i).toNat)) ((fun (i : Int) => (os.length - i).toNat) 0) ?_ ?_
  · exact ⟨0, hN, hD, s0, s1, s2, s7, HB, (by omega), (by omega), (by intro j h0 h1; omega), rfl⟩
  clear s0 s1 s2 s7 HB hN hD
  rintro n_3 a3 w3 ⟨i, hN, hD, s0, s1, s2, s7, HB, hi0, hi1, hi, hmeas⟩
  refine wp_seq ?_
  refine wp_seq ?_
  refine deedL [.eq 8 (.int .i64 i), .eq 9 (.slice A os.length c), .eq 10 (.int .i64 (os.length : Int)), .eq 11 (.bool (decide (i < (os.length : Int)))), .eq 0 (.slice A os.length c), .eq 1 (.int .i64 a), .eq 2 (.int .i64 n), .eq 7 (.int .i64 i), .w (Below w3.heap.size w3)] 47 [[7], [4], [1], [0, 2]] [] [3, 4, 5, 6, 7, 8] hM hN hD (by kernel_rfl) ⟨s0, s1, s2, s7, ⟨Below.refl _ _, below_drew (Below.refl _ _)⟩, trivial⟩ ⟨fun _ _ hb h => below_step h hb, trivial⟩ (fun hgrow => ⟨fun _ _ h => rv rfl (x_move rfl h.1) rfl,
    fun _ _ h => rv rfl (x_move rfl h.1) rfl,
    fun _ _ h => rv rfl (x_len_slice rfl Try.underlying27 h.1) rfl,
    fun _ _ h => rv rfl (x_lss rfl h.1 h.2.1) rfl, trivial⟩) ?_
  clear s0 s1 s2 s7
  clear hN hD
  rintro a4 w4 hN hD ⟨s11, s0, s1, s2, s7, hGR, -⟩
  replace HB := below_step HB hGR
  clear hGR
  show Code.wp _ _ _ _ _
  refine wp_cond (t := decide (i < (os.length : Int))) s11 ?_
  rcases Bool.eq_false_or_eq_true (decide (i < (os.length : Int))) with cd5 | cd5
  · rw [cd5]
    show Code.wp _ _ _ _ _
    have pd5 := of_decide_eq_true cd5
    refine wp_skip ?_
    show Code.wp _ _ _ _ _
    refine wp_seq ?_
    refine wp_block ?_
    refine wp_seq ?_
    refine deedL [.eq 14 (.slice A os.length c), .eq 15 (.int .i64 i), .eq 16 (.pointer (some ((adr A).add (i.toNat * 12)))), .eq 17 (.pointer (some ((adr A).add (i.toNat * 12)))), .eq 18 (.int .i64 ((go_ os i).actor)), .eq 19 (.int .i64 a), .eq 20 (.bool (((go_ os i).actor) == a)), .eq 0 (.slice A os.length c), .eq 1 (.int .i64 a), .eq 2 (.int .i64 n), .eq 7 (.int .i64 i), .w (Below w4.heap.size w4)] 47 [[7], [10], [0, 1], [2], [3, 11], [8], [4, 5]] [] [6, 7, 8, 9, 10, 11] hM hN hD (by kernel_rfl) ⟨s0, s1, s2, s7, ⟨Below.refl _ _, below_drew (Below.refl _ _)⟩, trivial⟩ ⟨fun _ _ hb h => below_step h hb, trivial⟩ (fun hgrow => ⟨fun _ _ h => rv rfl (x_move rfl h.1) rfl,
      fun _ _ h => rv rfl (x_move rfl h.1) rfl,
      fun _ _ h => rv rfl (x_index_at rfl h.1 h.2.1 Try.underlying27 sz67 (by omega) (by omega) (RO.ad HR i (by omega) (by omega))) rfl,
      fun _ _ h => rv rfl (x_field rfl h.1 Try.underlying67 rfl sz3 (by decide) rfl) rfl,
      fun _ _ h => rv rfl (x_load1 rfl h.1 Try.underlying3 rfl (RO.cell0 HR (below_step HB h.2.1) (by omega) (by omega))) rfl,
      fun _ _ h => rv rfl (x_move rfl h.1) rfl,
      fun _ _ h => rv rfl (x_eql rfl h.1 h.2.1) rfl, trivial⟩) ?_
    clear s0 s1 s2 s7 s11
    clear hN hD
    rintro a6 w6 hN hD ⟨s20, s0, s1, s2, s7, hGR, -⟩
    replace HB := below_step HB hGR
    clear hGR
    show Code.wp _ _ _ _ _
    refine wp_cond (t := ((go_ os i).actor) == a) s20 ?_
    rcases Bool.eq_false_or_eq_true (((go_ os i).actor) == a) with cd7 | cd7
    · rw [cd7]
      show Code.wp _ _ _ _ _
      have pd7 := eq_of_beq cd7
      have pda := eq_of_beq cd7
      refine wp_seq ?_
      refine wp_seq ?_
      refine deedL (.eq 21 (.int .i64 n) :: .eq 22 (.bool (decide (n < 1))) :: .eq 23 (.bool (decide (n < 1))) :: .gv (((decide (n < 1)) == false)) 24 (.int .i64 n) :: .gv (((decide (n < 1)) == false)) 25 (.slice A os.length c) :: .gv (((decide (n < 1)) == false)) 26 (.int .i64 (os.length : Int)) :: .gv (((decide (n < 1)) == false)) 27 (.int .i64 i) :: .gv (((decide (n < 1)) == false)) 28 (.int .i64 ((os.length : Int) - i)) :: .gv (((decide (n < 1)) == false)) 29 (.bool (decide ((os.length : Int) - i < n))) :: .eq 30 (.bool ((decide (n < 1)) || (decide ((os.length : Int) - i < n)))) :: .eq 31 (.bool ((decide (n < 1)) || (decide ((os.length : Int) - i < n)))) :: .gv ((((decide (n < 1)) || (decide ((os.length : Int) - i < n))) == false)) 32 (.slice A os.length c) :: .gv ((((decide (n < 1)) || (decide ((os.length : Int) - i < n))) == false)) 33 (.int .i64 i) :: .gv ((((decide (n < 1)) || (decide ((os.length : Int) - i < n))) == false)) 34 (.int .i64 n) :: .gv ((((decide (n < 1)) || (decide ((os.length : Int) - i < n))) == false)) 35 (.int .i64 (i + n)) :: .gv ((((decide (n < 1)) || (decide ((os.length : Int) - i < n))) == false)) 36 (.int .i64 ((i + n) - 1)) :: .gv ((((decide (n < 1)) || (decide ((os.length : Int) - i < n))) == false)) 37 (.pointer (some ((adr A).add (((i + n) - 1).toNat * 12)))) :: .gv ((((decide (n < 1)) || (decide ((os.length : Int) - i < n))) == false)) 38 (.pointer (some ((adr A).add (((i + n) - 1).toNat * 12)))) :: .gv ((((decide (n < 1)) || (decide ((os.length : Int) - i < n))) == false)) 39 (.int .i64 ((go_ os ((i + n) - 1)).actor)) :: .gv ((((decide (n < 1)) || (decide ((os.length : Int) - i < n))) == false)) 40 (.int .i64 a) :: .gv ((((decide (n < 1)) || (decide ((os.length : Int) - i < n))) == false)) 41 (.bool (((go_ os ((i + n) - 1)).actor) != a)) :: .eq 42 (.bool (((decide (n < 1)) || (decide ((os.length : Int) - i < n))) || (((go_ os ((i + n) - 1)).actor) != a))) :: .eq 0 (.slice A os.length c) :: .eq 1 (.int .i64 a) :: .eq 2 (.int .i64 n) :: .eq 7 (.int .i64 i) :: .w (Below w6.heap.size w6) :: []) 47 ([24] :: [0] :: [1] :: [2, 24] :: [2, 22] :: [2, 4] :: [2, 25] :: [2, 5, 6] :: [2, 3, 7] :: [2, 8] :: [9] :: [10, 22] :: [10, 25] :: [10, 24] :: [10, 12, 13] :: [10, 14] :: [10, 11, 15] :: [10, 16] :: [10, 17, 26] :: [10, 23] :: [10, 18, 19] :: [10, 20] :: []) [] [21, 22, 23, 24, 25, 26] hM hN hD (by kernel_rfl) ⟨s0, s1, s2, s7, ⟨Below.refl _ _, below_drew (Below.refl _ _)⟩, trivial⟩ ⟨fun _ _ hb h => below_step h hb, trivial⟩ (fun hgrow => ⟨fun _ _ h => rv rfl (x_move rfl h.1) rfl,
        fun _ _ h => rv rfl (x_lss rfl h.1 rfl) rfl,
        fun _ _ h => rv rfl (x_move rfl h.1) rfl,
        fun _ _ h => rb rfl rfl h.1 (fun hgt => x_move rfl h.2.1) (fun _ z => z),
        fun _ _ h => rb rfl rfl h.1 (fun hgt => x_move rfl h.2.1) (fun _ z => z),
        fun _ _ h => rb rfl rfl h.1 (fun hgt => x_len_slice rfl Try.underlying27 (h.2.1.1 hgt)) (fun _ z => z),
        fun _ _ h => rb rfl rfl h.1 (fun hgt => x_move rfl h.2.1) (fun _ z => z),
        fun _ _ h => rb rfl rfl h.1 (fun hgt => x_sub' rfl (h.2.1.1 hgt) (h.2.2.1.1 hgt) (by simp at hgt; omega)) (fun _ z => z),
        fun _ _ h => rb rfl rfl h.1 (fun hgt => x_gtr rfl (h.2.1.1 hgt) (h.2.2.1.1 hgt)) (fun _ z => z),
        fun _ _ h => rv rfl (x_or rfl rfl h.1 (fun hc => h.2.1.1 (beq_iff_eq.2 hc))) rfl,
        fun _ _ h => rv rfl (x_move rfl h.1) rfl,
        fun _ _ h => rb rfl rfl h.1 (fun hgt => x_move rfl h.2.1) (fun _ z => z),
        fun _ _ h => rb rfl rfl h.1 (fun hgt => x_move rfl h.2.1) (fun _ z => z),
        fun _ _ h => rb rfl rfl h.1 (fun hgt => x_move rfl h.2.1) (fun _ z => z),
        fun _ _ h => rb rfl rfl h.1 (fun hgt => x_add' rfl (h.2.1.1 hgt) (h.2.2.1.1 hgt) (by simp at hgt; omega)) (fun _ z => z),
        fun _ _ h => rb rfl rfl h.1 (fun hgt => x_sub' rfl (h.2.1.1 hgt) rfl (by simp at hgt; omega)) (fun _ z => z),
        fun _ _ h => rb rfl rfl h.1 (fun hgt => x_index_at rfl (h.2.1.1 hgt) (h.2.2.1.1 hgt) Try.underlying27 sz67 (by simp at hgt; omega) (by simp at hgt; omega) (RO.ad HR ((i + n) - 1) (by simp at hgt; omega) (by simp at hgt; omega))) (fun _ z => z),
        fun _ _ h => rb rfl rfl h.1 (fun hgt => x_field rfl (h.2.1.1 hgt) Try.underlying67 rfl sz3 (by decide) rfl) (fun _ z => z),
        fun _ _ h => rb rfl rfl h.1 (fun hgt => x_load1 rfl (h.2.1.1 hgt) Try.underlying3 rfl (RO.cell0 HR (below_step HB h.2.2.1) (by simp at hgt; omega) (by simp at hgt; omega))) (fun _ z => z),
        fun _ _ h => rb rfl rfl h.1 (fun hgt => x_move rfl h.2.1) (fun _ z => z),
        fun _ _ h => rb rfl rfl h.1 (fun hgt => x_neq rfl (h.2.1.1 hgt) (h.2.2.1.1 hgt)) (fun _ z => z),
        fun _ _ h => rv rfl (x_or rfl rfl h.1 (fun hc => h.2.1.1 (beq_iff_eq.2 hc))) rfl, trivial⟩) ?_
      clear s0 s1 s2 s7 s20
      clear hN hD
      rintro a8 w8 hN hD ⟨s42, s0, s1, s2, s7, hGR, -⟩
      replace HB := below_step HB hGR
      clear hGR
      show Code.wp _ _ _ _ _
      refine wp_cond (t := ((decide (n < 1)) || (decide ((os.length : Int) - i < n))) || (((go_ os ((i + n) - 1)).actor) != a)) s42 ?_
      rcases Bool.eq_false_or_eq_true (((decide (n < 1)) || (decide ((os.length : Int) - i < n))) || (((go_ os ((i + n) - 1)).actor) != a)) with cd9 | cd9
      · rw [cd9]
        show Code.wp _ _ _ _ _
        have hq := cd9
        simp at hq
        refine wp_seq ?_
        refine deedL [.eq 6 (.int .i64 (-1)), .w (Below w8.heap.size w8)] 47 [[]] [] [0, 1] hM hN hD (by kernel_rfl) ⟨⟨Below.refl _ _, below_drew (Below.refl _ _)⟩, trivial⟩ ⟨fun _ _ hb h => below_step h hb, trivial⟩ (fun hgrow => ⟨fun _ _ _ => rv rfl (x_assign rfl rfl) rfl, trivial⟩) ?_
        clear s0 s1 s2 s7 s42
        clear hN hD
        rintro a10 w10 hN hD ⟨s6, hGR, -⟩
        replace HB := below_step HB hGR
        clear hGR
        show Code.wp _ _ _ _ _
        refine wp_ret (then_ret (blk_ret (then_ret (then_ret (blk_ret (then_ret ?_))))))
        refine bodyPost_ret (results_single rfl (vtmp s6 .nil)) hD ?_
        exact ⟨by rw [find_some hi0 (by omega) hi pda, if_pos (by simp at cd9; omega)], HB⟩
      · rw [cd9]
        show Code.wp _ _ _ _ _
        have hq := cd9
        simp at hq
        refine wp_skip ?_
        show Code.wp _ _ _ _ _
        refine wp_seq ?_
        refine deedL [.eq 43 (.int .i64 i), .eq 44 (.int .i64 n), .eq 45 (.int .i64 (i + n)), .eq 46 (.int .i64 ((i + n) - 1)), .eq 6 (.int .i64 ((i + n) - 1)), .eq 2 (.int .i64 n), .eq 7 (.int .i64 i), .w (Below w8.heap.size w8)] 47 [[6], [5], [0, 1], [2], [3]] [] [4, 5, 6, 7] hM hN hD (by kernel_rfl) ⟨s2, s7, ⟨Below.refl _ _, below_drew (Below.refl _ _)⟩, trivial⟩ ⟨fun _ _ hb h => below_step h hb, trivial⟩ (fun hgrow => ⟨fun _ _ h => rv rfl (x_move rfl h.1) rfl,
          fun _ _ h => rv rfl (x_move rfl h.1) rfl,
          fun _ _ h => rv rfl (x_add' rfl h.1 h.2.1 (by omega)) rfl,
          fun _ _ h => rv rfl (x_sub' rfl h.1 rfl (by omega)) rfl,
          fun _ _ h => rv rfl (x_assign rfl h.1) rfl, trivial⟩) ?_
        clear s0 s1 s2 s7 s42
        clear hN hD
        rintro a11 w11 hN hD ⟨s6, s2, s7, hGR, -⟩
        replace HB := below_step HB hGR
        clear hGR
        show Code.wp _ _ _ _ _
        refine wp_ret (blk_ret (then_ret (then_ret (blk_ret (then_ret ?_)))))
        refine bodyPost_ret (results_single rfl (vtmp s6 .nil)) hD ?_
        exact ⟨by rw [find_some hi0 (by omega) hi pda, if_neg (by omega)], HB⟩
    · rw [cd7]
      show Code.wp _ _ _ _ _
      have pd7 := ne_of_beq_false cd7
      refine wp_skip ?_
      show Code.wp _ _ _ _ _
      refine deedL [.eq 12 (.int .i64 i), .eq 13 (.int .i64 (i + 1)), .eq 7 (.int .i64 (i + 1)), .eq 0 (.slice A os.length c), .eq 1 (.int .i64 a), .eq 2 (.int .i64 n), .eq 7 (.int .i64 i), .w (Below w6.heap.size w6)] 47 [[6], [0], [1]] [[], [], [6]] [2, 3, 4, 5, 7] hM hN hD (by kernel_rfl) ⟨s0, s1, s2, s7, ⟨Below.refl _ _, below_drew (Below.refl _ _)⟩, trivial⟩ ⟨fun _ _ hb h => below_step h hb, trivial⟩ (fun hgrow => ⟨fun _ _ h => rv rfl (x_move rfl h.1) rfl,
        fun _ _ h => rv rfl (x_add' rfl h.1 rfl (by omega)) rfl,
        fun _ _ h => rv rfl (x_assign rfl h.1) rfl, trivial⟩) ?_
      clear s0 s1 s2 s7 s20
      clear hN hD
      rintro a12 w12 hN hD ⟨s7, s0, s1, s2, hGR, -⟩
      replace HB := below_step HB hGR
      clear hGR
      show ∃ m, m < n_3 ∧ _
      exact ⟨_, (by omega), ⟨(i + 1), hN, hD, s0, s1, s2, s7, HB, (by omega), (by omega), (by intro j h0 h1; by_cases e : j = i; (subst e; exact ne_of_beq_false cd7); exact hi j h0 (by omega)), rfl⟩⟩
  · rw [cd5]
    show Code.wp _ _ _ _ _
    have pd5 := of_decide_eq_false cd5
    refine wp_exit (then_exit (then_exit (at_exit ?_)))
    show Code.wp _ _ _ _ _
    refine wp_seq ?_
    refine deedL [.eq 6 (.int .i64 (-1)), .w (Below w4.heap.size w4)] 47 [[]] [] [0, 1] hM hN hD (by kernel_rfl) ⟨⟨Below.refl _ _, below_drew (Below.refl _ _)⟩, trivial⟩ ⟨fun _ _ hb h => below_step h hb, trivial⟩ (fun hgrow => ⟨fun _ _ _ => rv rfl (x_assign rfl rfl) rfl, trivial⟩) ?_
    clear s0 s1 s2 s7 s11
    clear hN hD
    rintro a13 w13 hN hD ⟨s6, hGR, -⟩
    replace HB := below_step HB hGR
    clear hGR
    show Code.wp _ _ _ _ _
    refine wp_ret ?_
    refine bodyPost_ret (results_single rfl (vtmp s6 .nil)) hD ?_
    exact ⟨by rw [find_none (fun j h0 h1 => hi j h0 (by omega))], HB⟩
noncomputable def sthing (k : Int) : Int :=
 if (k == 1) = true then 1 else (if (k == 2) = true then 2 else (if (k == 3) = true then 2 else 3))
set_option maxHeartbeats 2000000 in
theorem sThing_calls (k : Int) (w : World) : Calls Try.prog 91 #[.int .i64 k] w fun e w' => e = .returned (.int .i64 (sthing k)) ∧ Below w.heap.size w w' := by
  refine calls_of_wp Try.func91 rfl ?_
  refine enter_ (N := 9) rfl ?_
  rintro a0 hN hD ⟨s0, -⟩
  have HB : Below w.heap.size w w := Below.refl _ _
  refine wp_seq ?_
  refine deedL [.eq 2 (.int .i64 0), .eq 0 (.int .i64 k), .w (Below w.heap.size w)] 9 [[]] [] [1, 2] hM hN hD (by kernel_rfl) ⟨s0, ⟨Below.refl _ _, below_drew (Below.refl _ _)⟩, trivial⟩ ⟨fun _ _ hb h => below_step h hb, trivial⟩ (fun hgrow => ⟨fun _ _ _ => rv rfl (x_assign rfl rfl) rfl, trivial⟩) ?_
  clear s0
  clear hN hD
  rintro a1 w1 hN hD ⟨s0, hGR, -⟩
  replace HB := below_step HB hGR
  clear hGR
  show Code.wp _ _ _ _ _
  refine wp_seq ?_
  refine wp_seq ?_
  refine deedL [.eq 3 (.int .i64 k), .eq 0 (.int .i64 k), .w (Below w1.heap.size w1)] 9 [[1]] [] [0, 1, 2] hM hN hD (by kernel_rfl) ⟨s0, ⟨Below.refl _ _, below_drew (Below.refl _ _)⟩, trivial⟩ ⟨fun _ _ hb h => below_step h hb, trivial⟩ (fun hgrow => ⟨fun _ _ h => rv rfl (x_move rfl h.1) rfl, trivial⟩) ?_
  clear s0
  clear hN hD
  rintro a2 w2 hN hD ⟨s3, s0, hGR, -⟩
  replace HB := below_step HB hGR
  clear hGR
  show Code.wp _ _ _ _ _
  refine wp_block ?_
  refine wp_seq ?_
  refine deedL [.eq 5 (.bool (k == 1)), .eq 4 (.bool (k == 1)), .eq 3 (.int .i64 k), .w (Below w2.heap.size w2)] 9 [[2], [0]] [] [1, 2, 3] hM hN hD (by kernel_rfl) ⟨s3, ⟨Below.refl _ _, below_drew (Below.refl _ _)⟩, trivial⟩ ⟨fun _ _ hb h => below_step h hb, trivial⟩ (fun hgrow => ⟨fun _ _ h => rv rfl (x_eql rfl h.1 rfl) rfl,
    fun _ _ h => rv rfl (x_assign rfl h.1) rfl, trivial⟩) ?_
  clear s0 s3
  clear hN hD
  rintro a3 w3 hN hD ⟨s4, s3, hGR, -⟩
  replace HB := below_step HB hGR
  clear hGR
  show Code.wp _ _ _ _ _
  refine wp_cond (t := k == 1) s4 ?_
  rcases Bool.eq_false_or_eq_true (k == 1) with cd4 | cd4
  · rw [cd4]
    show Code.wp _ _ _ _ _
    have pd4 := eq_of_beq cd4
    refine wp_seq ?_
    refine deedL [.eq 2 (.int .i64 1), .w (Below w3.heap.size w3)] 9 [[]] [] [0, 1] hM hN hD (by kernel_rfl) ⟨⟨Below.refl _ _, below_drew (Below.refl _ _)⟩, trivial⟩ ⟨fun _ _ hb h => below_step h hb, trivial⟩ (fun hgrow => ⟨fun _ _ _ => rv rfl (x_assign rfl rfl) rfl, trivial⟩) ?_
    clear s3 s4
    clear hN hD
    rintro a5 w5 hN hD ⟨s2, hGR, -⟩
    replace HB := below_step HB hGR
    clear hGR
    show Code.wp _ _ _ _ _
    refine wp_ret (blk_ret (then_ret ?_))
    refine bodyPost_ret (results_single rfl (vtmp s2 .nil)) hD ?_
    exact ⟨by simp only [sthing, cd4, if_true, if_false, Bool.false_eq_true], HB⟩
  · rw [cd4]
    show Code.wp _ _ _ _ _
    have pd4 := ne_of_beq_false cd4
    refine wp_seq ?_
    refine wp_seq ?_
    refine deedL [.eq 7 (.bool (k == 2)), .eq 6 (.bool (k == 2)), .eq 3 (.int .i64 k), .w (Below w3.heap.size w3)] 9 [[2], [0]] [] [1, 2, 3] hM hN hD (by kernel_rfl) ⟨s3, ⟨Below.refl _ _, below_drew (Below.refl _ _)⟩, trivial⟩ ⟨fun _ _ hb h => below_step h hb, trivial⟩ (fun hgrow => ⟨fun _ _ h => rv rfl (x_eql rfl h.1 rfl) rfl,
      fun _ _ h => rv rfl (x_assign rfl h.1) rfl, trivial⟩) ?_
    clear s3 s4
    clear hN hD
    rintro a6 w6 hN hD ⟨s6, s3, hGR, -⟩
    replace HB := below_step HB hGR
    clear hGR
    show Code.wp _ _ _ _ _
    refine wp_cond (t := k == 2) s6 ?_
    rcases Bool.eq_false_or_eq_true (k == 2) with cd7 | cd7
    · rw [cd7]
      show Code.wp _ _ _ _ _
      have pd7 := eq_of_beq cd7
      refine wp_skip ?_
      show Code.wp _ _ _ _ _
      refine wp_cond (t := k == 2) s6 ?_
      rw [cd7]
      show Code.wp _ _ _ _ _
      refine wp_seq ?_
      refine deedL [.eq 2 (.int .i64 2), .w (Below w6.heap.size w6)] 9 [[]] [] [0, 1] hM hN hD (by kernel_rfl) ⟨⟨Below.refl _ _, below_drew (Below.refl _ _)⟩, trivial⟩ ⟨fun _ _ hb h => below_step h hb, trivial⟩ (fun hgrow => ⟨fun _ _ _ => rv rfl (x_assign rfl rfl) rfl, trivial⟩) ?_
      clear s3 s6
      clear hN hD
      rintro a9 w9 hN hD ⟨s2, hGR, -⟩
      replace HB := below_step HB hGR
      clear hGR
      show Code.wp _ _ _ _ _
      refine wp_ret (blk_ret (then_ret ?_))
      refine bodyPost_ret (results_single rfl (vtmp s2 .nil)) hD ?_
      exact ⟨by simp only [sthing, cd4, cd7, if_true, if_false, Bool.false_eq_true], HB⟩
    · rw [cd7]
      show Code.wp _ _ _ _ _
      have pd7 := ne_of_beq_false cd7
      refine deedL [.eq 8 (.bool (k == 3)), .eq 6 (.bool (k == 3)), .eq 3 (.int .i64 k), .w (Below w6.heap.size w6)] 9 [[2], [0]] [] [1, 2, 3] hM hN hD (by kernel_rfl) ⟨s3, ⟨Below.refl _ _, below_drew (Below.refl _ _)⟩, trivial⟩ ⟨fun _ _ hb h => below_step h hb, trivial⟩ (fun hgrow => ⟨fun _ _ h => rv rfl (x_eql rfl h.1 rfl) rfl,
        fun _ _ h => rv rfl (x_assign rfl h.1) rfl, trivial⟩) ?_
      clear s3 s6
      clear hN hD
      rintro a10 w10 hN hD ⟨s6, s3, hGR, -⟩
      replace HB := below_step HB hGR
      clear hGR
      show Code.wp _ _ _ _ _
      refine wp_cond (t := k == 3) s6 ?_
      rcases Bool.eq_false_or_eq_true (k == 3) with cd11 | cd11
      · rw [cd11]
        show Code.wp _ _ _ _ _
        have pd11 := eq_of_beq cd11
        refine wp_seq ?_
        refine deedL [.eq 2 (.int .i64 2), .w (Below w10.heap.size w10)] 9 [[]] [] [0, 1] hM hN hD (by kernel_rfl) ⟨⟨Below.refl _ _, below_drew (Below.refl _ _)⟩, trivial⟩ ⟨fun _ _ hb h => below_step h hb, trivial⟩ (fun hgrow => ⟨fun _ _ _ => rv rfl (x_assign rfl rfl) rfl, trivial⟩) ?_
        clear s3 s6
        clear hN hD
        rintro a12 w12 hN hD ⟨s2, hGR, -⟩
        replace HB := below_step HB hGR
        clear hGR
        show Code.wp _ _ _ _ _
        refine wp_ret (blk_ret (then_ret ?_))
        refine bodyPost_ret (results_single rfl (vtmp s2 .nil)) hD ?_
        exact ⟨by simp only [sthing, cd4, cd7, cd11, if_true, if_false, Bool.false_eq_true], HB⟩
      · rw [cd11]
        show Code.wp _ _ _ _ _
        have pd11 := ne_of_beq_false cd11
        refine wp_skip ?_
        show Code.wp _ _ _ _ _
        refine wp_seq ?_
        refine deedL [.eq 2 (.int .i64 3), .w (Below w10.heap.size w10)] 9 [[]] [] [0, 1] hM hN hD (by kernel_rfl) ⟨⟨Below.refl _ _, below_drew (Below.refl _ _)⟩, trivial⟩ ⟨fun _ _ hb h => below_step h hb, trivial⟩ (fun hgrow => ⟨fun _ _ _ => rv rfl (x_assign rfl rfl) rfl, trivial⟩) ?_
        clear s3 s6
        clear hN hD
        rintro a13 w13 hN hD ⟨s2, hGR, -⟩
        replace HB := below_step HB hGR
        clear hGR
        show Code.wp _ _ _ _ _
        refine wp_ret ?_
        refine bodyPost_ret (results_single rfl (vtmp s2 .nil)) hD ?_
        exact ⟨by simp only [sthing, cd4, cd7, cd11, if_true, if_false, Bool.false_eq_true], HB⟩
/-- All that an operation names stands in the log, its stamp below the operation's. -/
def Causes (os : List Op) (vs : List Int) (o : Op) : Prop := ∀ a : Int, 0 ≤ a → a < 16 → gi o.deps a ≤ gi vs a ∧ (0 < gi o.deps a → lessT (go_ os (find os a (gi o.deps a))).time (go_ os (find os a (gi o.deps a))).actor o.time o.actor = true)
noncomputable def causes (os : List Op) (vs : List Int) (o : Op) : Bool := by classical exact decide (Causes os vs o)
theorem causes_true {os : List Op} {vs : List Int} {o : Op} (h : Causes os vs o) : causes os vs o = true := by simp [causes, h]
theorem causes_false {os : List Op} {vs : List Int} {o : Op} (h : ¬ Causes os vs o) : causes os vs o = false := by simp [causes, h]
theorem causes_iff {os : List Op} {vs : List Int} {o : Op} : causes os vs o = true ↔ Causes os vs o := by simp [causes]
set_option maxHeartbeats 2000000 in
theorem sCauses_calls (A : Option Addr) (os : List Op) (D : Nat → Option Addr) (C : Nat → Nat) (c : Nat) (AV : Option Addr) (vs : List Int) (cv : Nat) (o : Op) (Ao : Option Addr) (co : Nat) (w : World) (HR : RO w A os D C) (HV : RI w AV vs) (HO : RI w Ao o.deps) (HL : os.length ≤ 4096) (hvl : vs.length = 16) (hdl : o.deps.length = 16) (HF : ∀ a n : Int, 0 ≤ a → a < 16 → 0 < n → n ≤ gi vs a → 0 ≤ find os a n ∧ find os a n < os.length) : Calls Try.prog 85 #[.slice A os.length c, .agg #[Value.slice AV 16 cv], .agg (opc o Ao co).toArray] w fun e w' => e = .returned (.bool (causes os vs o)) ∧ Below w.heap.size w w' := by
  refine calls_of_wp Try.func85 rfl ?_
  refine enter_ (N := 42) rfl ?_
  rintro a0 hN hD ⟨s0, s1, s2, -⟩
  have HB : Below w.heap.size w w := Below.refl _ _
  refine wp_seq ?_
  refine deedL [.s1 4 (NewB w.heap.size [.slice AV 16 cv] 41), .s1 5 (NewB w.heap.size (opc o Ao co) 67), .eq 6 (.bool false), .eq 0 (.slice A os.length c), .eq 1 (.agg #[Value.slice AV 16 cv]), .eq 2 (.agg (opc o Ao co).toArray), .w (Below w.heap.size w)] 42 [[6, 4], [6, 5], []] [] [0, 1, 3, 4, 5, 6] hM hN hD (by kernel_rfl) ⟨s0, s1, s2, ⟨Below.refl _ _, below_drew (Below.refl _ _)⟩, trivial⟩ ⟨fun _ _ _ hb h => h.grow hb, fun _ _ _ hb h => h.grow hb, fun _ _ hb h => below_step h hb, trivial⟩ (fun hgrow => ⟨fun _ _ h => rbox hgrow rfl (x_box rfl h.2.1) h.1.size (fun _ _ z => z),
    fun _ _ h => rbox hgrow rfl (x_box rfl h.2.1) h.1.size (fun _ _ z => z),
    fun _ _ _ => rv rfl (x_assign rfl rfl) rfl, trivial⟩) ?_
  clear s0 s1 s2
  clear hN hD
  rintro a1 w1 hN hD ⟨⟨g4, s4, lg4, HBX4⟩, ⟨g5, s5, lg5, HBX5⟩, s0, s1, s2, hGR, -⟩
  replace HB := below_step HB hGR
  clear hGR
  show Code.wp _ _ _ _ _
  refine wp_seq ?_
  refine wp_seq ?_
  refine deedL [.eq 7 (.int .i64 0), .eq 0 (.slice A os.length c), .eq 4 (.pointer (some ⟨g4, 0, none⟩)), .eq 5 (.pointer (some ⟨g5, 0, none⟩)), .w (Below w1.heap.size w1)] 42 [[]] [] [0, 1, 2, 3, 4] hM hN hD (by kernel_rfl) ⟨s0, s4, s5, ⟨Below.refl _ _, below_drew (Below.refl _ _)⟩, trivial⟩ ⟨fun _ _ hb h => below_step h hb, trivial⟩ (fun hgrow => ⟨fun _ _ _ => rv rfl (x_assign rfl rfl) rfl, trivial⟩) ?_
  clear s0 s1 s2 s4 s5
  clear hN hD
  rintro a2 w2 hN hD ⟨s7, s0, s4, s5, hGR, -⟩
  replace HB := below_step HB hGR
  replace HBX4 := blk_below HBX4 hGR
  replace HBX5 := blk_below HBX5 hGR
  clear hGR
  show Code.wp _ _ _ _ _
  refine wp_block ?_
  refine wp_loopN (fun n_ q_ w_ => ∃ (i : Int), (q_.tmps.size = 42) ∧ (q_.defers = []) ∧ (sl q_ 0 = .slice A os.length c) ∧ (sl q_ 4 = .pointer (some ⟨g4, 0, none⟩)) ∧ (sl q_ 5 = .pointer (some ⟨g5, 0, none⟩)) ∧ (sl q_ 7 = .int .i64 i) ∧ (Below w.heap.size w w_) ∧ (w_.heap[g4]? = some (.cells ([.slice AV 16 cv]).toArray 41 (0, 0))) ∧ (w_.heap[g5]? = some (.cells (opc o Ao co).toArray 67 (0, 0))) ∧ (0 ≤ i) ∧ (i ≤ 16) ∧ (∀ a : Int, 0 ≤ a → a < i → gi o.deps a ≤ gi vs a ∧ (0 < gi o.deps a → lessT (go_ os (find os a (gi o.deps a))).time (go_ os (find os a (gi o.deps a))).actor o.time o.actor = true)) ∧ (n_ = (16 - i).toNat)) ((fun (i : Int) => (16 - i).toNat) 0) ?_ ?_
  · exact ⟨0, hN, hD, s0, s4, s5, s7, HB, HBX4, HBX5, (by omega), (by omega), (by intro j h0 h1; omega), rfl⟩
  clear s0 s4 s5 s7 HB HBX4 HBX5 hN hD
  rintro n_3 a3 w3 ⟨i, hN, hD, s0, s4, s5, s7, HB, HBX4, HBX5, hi0, hi1, hi, hmeas⟩
  refine wp_seq ?_
  refine wp_seq ?_
  refine deedL [.eq 9 (.int .i64 i), .eq 10 (.bool (decide (i < 16))), .eq 0 (.slice A os.length c), .eq 4 (.pointer (some ⟨g4, 0, none⟩)), .eq 5 (.pointer (some ⟨g5, 0, none⟩)), .eq 7 (.int .i64 i), .w (Below w3.heap.size w3)] 42 [[5], [0]] [] [1, 2, 3, 4, 5, 6] hM hN hD (by kernel_rfl) ⟨s0, s4, s5, s7, ⟨Below.refl _ _, below_drew (Below.refl _ _)⟩, trivial⟩ ⟨fun _ _ hb h => below_step h hb, trivial⟩ (fun hgrow => ⟨fun _ _ h => rv rfl (x_move rfl h.1) rfl,
    fun _ _ h => rv rfl (x_lss rfl h.1 rfl) rfl, trivial⟩) ?_
  clear s0 s4 s5 s7
  clear hN hD
  rintro a4 w4 hN hD ⟨s10, s0, s4, s5, s7, hGR, -⟩
  replace HB := below_step HB hGR
  replace HBX4 := blk_below HBX4 hGR
  replace HBX5 := blk_below HBX5 hGR
  clear hGR
  show Code.wp _ _ _ _ _
  refine wp_cond (t := decide (i < 16)) s10 ?_
  rcases Bool.eq_false_or_eq_true (decide (i < 16)) with cd5 | cd5
  · rw [cd5]
    show Code.wp _ _ _ _ _
    have pd5 := of_decide_eq_true cd5
    refine wp_skip ?_
    show Code.wp _ _ _ _ _
    refine wp_seq ?_
    refine wp_block ?_
    refine wp_seq ?_
    refine deedL [.eq 13 (.pointer (some ⟨g5, 3, none⟩)), .eq 14 (.pointer (some ⟨g5, 3, none⟩)), .eq 15 (.slice Ao o.deps.length co), .eq 16 (.int .i64 i), .eq 17 (.pointer (some ((adr Ao).add (i.toNat * 1)))), .eq 18 (.int .i64 (gi o.deps i)), .eq 8 (.int .i64 (gi o.deps i)), .eq 0 (.slice A os.length c), .eq 4 (.pointer (some ⟨g4, 0, none⟩)), .eq 5 (.pointer (some ⟨g5, 0, none⟩)), .eq 7 (.int .i64 i), .w (Below w4.heap.size w4)] 42 [[9], [0], [1, 11], [10], [2, 3], [4, 11], [5]] [] [6, 7, 8, 9, 10, 11] hM hN hD (by kernel_rfl) ⟨s0, s4, s5, s7, ⟨Below.refl _ _, below_drew (Below.refl _ _)⟩, trivial⟩ ⟨fun _ _ hb h => below_step h hb, trivial⟩ (fun hgrow => ⟨fun _ _ h => rv rfl (x_field rfl h.1 Try.underlying67 rfl sz41 (by decide) rfl) rfl,
      fun _ _ h => rv rfl (x_field rfl h.1 Try.underlying41 rfl sz24 (by decide) rfl) rfl,
      fun _ _ h => rv rfl (x_load1 rfl h.1 Try.underlying24 rfl (blk_one (L := opc o Ao co) (blk_below HBX5 h.2.1) 3 rfl)) rfl,
      fun _ _ h => rv rfl (x_move rfl h.1) rfl,
      fun _ _ h => rv rfl (x_index_at rfl h.1 h.2.1 Try.underlying24 sz3 (by omega) (by omega) (RI.ad HO i (by omega) (by omega))) rfl,
      fun _ _ h => rv rfl (x_load1 rfl h.1 Try.underlying3 rfl (RI.at_ HO (below_step HB h.2.1) (by omega) (by omega))) rfl,
      fun _ _ h => rv rfl (x_assign rfl h.1) rfl, trivial⟩) ?_
    clear s0 s4 s5 s7 s10
    clear hN hD
    rintro a6 w6 hN hD ⟨s8, s0, s4, s5, s7, hGR, -⟩
    replace HB := below_step HB hGR
    replace HBX4 := blk_below HBX4 hGR
    replace HBX5 := blk_below HBX5 hGR
    clear hGR
    show Code.wp _ _ _ _ _
    refine wp_seq ?_
    refine wp_seq ?_
    refine deedL [.eq 19 (.int .i64 (gi o.deps i)), .eq 20 (.pointer (some ⟨g4, 0, none⟩)), .eq 21 (.slice AV 16 cv), .eq 22 (.int .i64 i), .eq 23 (.pointer (some ((adr AV).add (i.toNat * 1)))), .eq 24 (.int .i64 (gi vs i)), .eq 25 (.bool (decide (gi vs i < gi o.deps i))), .eq 0 (.slice A os.length c), .eq 4 (.pointer (some ⟨g4, 0, none⟩)), .eq 5 (.pointer (some ⟨g5, 0, none⟩)), .eq 7 (.int .i64 i), .eq 8 (.int .i64 (gi o.deps i)), .w (Below w6.heap.size w6)] 42 [[11], [8], [1, 12], [10], [2, 3], [4, 12], [0, 5]] [] [6, 7, 8, 9, 10, 11, 12] hM hN hD (by kernel_rfl) ⟨s0, s4, s5, s7, s8, ⟨Below.refl _ _, below_drew (Below.refl _ _)⟩, trivial⟩ ⟨fun _ _ hb h => below_step h hb, trivial⟩ (fun hgrow => ⟨fun _ _ h => rv rfl (x_move rfl h.1) rfl,
      fun _ _ h => rv rfl (x_field rfl h.1 Try.underlying41 rfl sz24 (by decide) rfl) rfl,
      fun _ _ h => rv rfl (x_load1 rfl h.1 Try.underlying24 rfl (blk_one (L := [.slice AV 16 cv]) (blk_below HBX4 h.2.1) 0 rfl)) rfl,
      fun _ _ h => rv rfl (x_move rfl h.1) rfl,
      fun _ _ h => rv rfl (x_index_at rfl h.1 h.2.1 Try.underlying24 sz3 (by omega) (by omega) (RI.ad HV i (by omega) (by omega))) rfl,
      fun _ _ h => rv rfl (x_load1 rfl h.1 Try.underlying3 rfl (RI.at_ HV (below_step HB h.2.1) (by omega) (by omega))) rfl,
      fun _ _ h => rv rfl (x_gtr rfl h.1 h.2.1) rfl, trivial⟩) ?_
    clear s0 s4 s5 s7 s8
    clear hN hD
    rintro a7 w7 hN hD ⟨s25, s0, s4, s5, s7, s8, hGR, -⟩
    replace HB := below_step HB hGR
    replace HBX4 := blk_below HBX4 hGR
    replace HBX5 := blk_below HBX5 hGR
    clear hGR
    show Code.wp _ _ _ _ _
    refine wp_cond (t := decide (gi vs i < gi o.deps i)) s25 ?_
    rcases Bool.eq_false_or_eq_true (decide (gi vs i < gi o.deps i)) with cd8 | cd8
    · rw [cd8]
      show Code.wp _ _ _ _ _
      have pd8 := of_decide_eq_true cd8
      refine wp_seq ?_
      refine deedL [.eq 6 (.bool false), .w (Below w7.heap.size w7)] 42 [[]] [] [0, 1] hM hN hD (by kernel_rfl) ⟨⟨Below.refl _ _, below_drew (Below.refl _ _)⟩, trivial⟩ ⟨fun _ _ hb h => below_step h hb, trivial⟩ (fun hgrow => ⟨fun _ _ _ => rv rfl (x_assign rfl rfl) rfl, trivial⟩) ?_
      clear s0 s4 s5 s7 s8 s25
      clear hN hD
      rintro a9 w9 hN hD ⟨s6, hGR, -⟩
      replace HB := below_step HB hGR
      replace HBX4 := blk_below HBX4 hGR
      replace HBX5 := blk_below HBX5 hGR
      clear hGR
      show Code.wp _ _ _ _ _
      refine wp_ret (then_ret (blk_ret (then_ret (then_ret (blk_ret (then_ret ?_))))))
      refine bodyPost_ret (results_single rfl (vtmp s6 .nil)) hD ?_
      exact ⟨by rw [causes_false (fun h => by have := (h i hi0 (by omega)).1; omega)], HB⟩
    · rw [cd8]
      show Code.wp _ _ _ _ _
      have pd8 := of_decide_eq_false cd8
      refine wp_skip ?_
      show Code.wp _ _ _ _ _
      refine wp_seq ?_
      refine deedL (.eq 26 (.int .i64 (gi o.deps i)) :: .eq 27 (.bool (decide (0 < gi o.deps i))) :: .eq 28 (.bool (decide (0 < gi o.deps i))) :: .gv (((decide (0 < gi o.deps i)) == true)) 29 (.slice A os.length c) :: .gv (((decide (0 < gi o.deps i)) == true)) 30 (.slice A os.length c) :: .gv (((decide (0 < gi o.deps i)) == true)) 31 (.int .i64 i) :: .gv (((decide (0 < gi o.deps i)) == true)) 32 (.int .i64 (gi o.deps i)) :: .gv (((decide (0 < gi o.deps i)) == true)) 33 (.int .i64 (find os i (gi o.deps i))) :: .gv (((decide (0 < gi o.deps i)) == true)) 34 (.pointer (some ((adr A).add ((find os i (gi o.deps i)).toNat * 12)))) :: .gv (((decide (0 < gi o.deps i)) == true)) 35 (.agg (opc (go_ os (find os i (gi o.deps i))) (D (find os i (gi o.deps i)).toNat) (C (find os i (gi o.deps i)).toNat)).toArray) :: .gv (((decide (0 < gi o.deps i)) == true)) 36 (.agg #[Value.int .i64 ((go_ os (find os i (gi o.deps i))).time), Value.int .i64 ((go_ os (find os i (gi o.deps i))).actor)]) :: .gv (((decide (0 < gi o.deps i)) == true)) 37 (.agg (opc o Ao co).toArray) :: .gv (((decide (0 < gi o.deps i)) == true)) 38 (.agg #[Value.int .i64 o.time, Value.int .i64 o.actor]) :: .gv (((decide (0 < gi o.deps i)) == true)) 39 (.bool (lessT ((go_ os (find os i (gi o.deps i))).time) ((go_ os (find os i (gi o.deps i))).actor) o.time o.actor)) :: .gv (((decide (0 < gi o.deps i)) == true)) 40 (.bool (!(lessT ((go_ os (find os i (gi o.deps i))).time) ((go_ os (find os i (gi o.deps i))).actor) o.time o.actor))) :: .eq 41 (.bool ((decide (0 < gi o.deps i)) && (!(lessT ((go_ os (find os i (gi o.deps i))).time) ((go_ os (find os i (gi o.deps i))).actor) o.time o.actor)))) :: .eq 0 (.slice A os.length c) :: .eq 4 (.pointer (some ⟨g4, 0, none⟩)) :: .eq 5 (.pointer (some ⟨g5, 0, none⟩)) :: .eq 7 (.int .i64 i) :: .eq 8 (.int .i64 (gi o.deps i)) :: .w (Below w7.heap.size w7) :: []) 42 ([20] :: [0] :: [1] :: [2, 16] :: [2, 16] :: [2, 19] :: [2, 20] :: [2, 4, 5, 6, 21] :: [2, 3, 7] :: [2, 8, 21] :: [2, 9] :: [2, 18, 21] :: [2, 11] :: [2, 10, 12] :: [2, 13] :: [2, 14] :: []) [] [15, 16, 17, 18, 19, 20, 21] hM hN hD (by kernel_rfl) ⟨s0, s4, s5, s7, s8, ⟨Below.refl _ _, below_drew (Below.refl _ _)⟩, trivial⟩ ⟨fun _ _ hb h => below_step h hb, trivial⟩ (fun hgrow => ⟨fun _ _ h => rv rfl (x_move rfl h.1) rfl,
        fun _ _ h => rv rfl (x_gtr rfl h.1 rfl) rfl,
        fun _ _ h => rv rfl (x_move rfl h.1) rfl,
        fun _ _ h => rb rfl rfl h.1 (fun hgt => x_move rfl h.2.1) (fun _ z => z),
        fun _ _ h => rb rfl rfl h.1 (fun hgt => x_move rfl h.2.1) (fun _ z => z),
        fun _ _ h => rb rfl rfl h.1 (fun hgt => x_move rfl h.2.1) (fun _ z => z),
        fun _ _ h => rb rfl rfl h.1 (fun hgt => x_move rfl h.2.1) (fun _ z => z),
        fun _ _ h => rcb hgrow rfl rfl h.1 Try.func83 (by kernel_rfl) rfl rfl (fun hgt => args3 (h.2.1.1 hgt) (h.2.2.1.1 hgt) (h.2.2.2.1.1 hgt)) (fun hgt => sFind_calls A os D C c i (gi o.deps i) _ (RO.below HR (below_step HB h.2.2.2.2.1)) HL) (fun _ _ _ h => h) (fun _ _ z => z),
        fun _ _ h => rb rfl rfl h.1 (fun hgt => x_index_at rfl (h.2.1.1 hgt) (h.2.2.1.1 hgt) Try.underlying27 sz67 (HF i (gi o.deps i) hi0 (by omega) (by simp at hgt; omega) (by omega)).1 (HF i (gi o.deps i) hi0 (by omega) (by simp at hgt; omega) (by omega)).2 (RO.ad HR (find os i (gi o.deps i)) (HF i (gi o.deps i) hi0 (by omega) (by simp at hgt; omega) (by omega)).1 (HF i (gi o.deps i) hi0 (by omega) (by simp at hgt; omega) (by omega)).2)) (fun _ z => z),
        fun _ _ h => rb rfl rfl h.1 (fun hgt => x_loadS rfl (h.2.1.1 hgt) Try.underlying67 (opc (go_ os (find os i (gi o.deps i))) (D (find os i (gi o.deps i)).toNat) (C (find os i (gi o.deps i)).toNat)) sz67 (RO.cells HR (below_step HB h.2.2.1) (HF i (gi o.deps i) hi0 (by omega) (by simp at hgt; omega) (by omega)).1 (HF i (gi o.deps i) hi0 (by omega) (by simp at hgt; omega) (by omega)).2)) (fun _ z => z),
        fun _ _ h => rcb hgrow rfl rfl h.1 Try.func105 (by kernel_rfl) rfl rfl (fun hgt => args1 (h.2.1.1 hgt)) (fun hgt => sStamp_calls (go_ os (find os i (gi o.deps i))) (D (find os i (gi o.deps i)).toNat) (C (find os i (gi o.deps i)).toNat) _) (fun _ _ _ h => h) (fun _ _ z => z),
        fun _ _ h => rb rfl rfl h.1 (fun hgt => x_loadS rfl h.2.1 Try.underlying67 (opc o Ao co) sz67 (blk_list (L := opc o Ao co) (blk_below HBX5 h.2.2.1) 0 rfl)) (fun _ z => z),
        fun _ _ h => rcb hgrow rfl rfl h.1 Try.func105 (by kernel_rfl) rfl rfl (fun hgt => args1 (h.2.1.1 hgt)) (fun hgt => sStamp_calls o Ao co _) (fun _ _ _ h => h) (fun _ _ z => z),
        fun _ _ h => rcb hgrow rfl rfl h.1 Try.func108 (by kernel_rfl) rfl rfl (fun hgt => args2 (h.2.1.1 hgt) (h.2.2.1.1 hgt)) (fun hgt => sLess_calls ((go_ os (find os i (gi o.deps i))).time) ((go_ os (find os i (gi o.deps i))).actor) o.time o.actor _) (fun _ _ _ h => h) (fun _ _ z => z),
        fun _ _ h => rb rfl rfl h.1 (fun hgt => x_not rfl (h.2.1.1 hgt)) (fun _ z => z),
        fun _ _ h => rv rfl (x_and rfl rfl h.1 (fun hc => h.2.1.1 (beq_iff_eq.2 hc))) rfl, trivial⟩) ?_
      clear s0 s4 s5 s7 s8 s25
      clear hN hD
      rintro a10 w10 hN hD ⟨s41, s0, s4, s5, s7, s8, hGR, -⟩
      replace HB := below_step HB hGR
      replace HBX4 := blk_below HBX4 hGR
      replace HBX5 := blk_below HBX5 hGR
      clear hGR
      show Code.wp _ _ _ _ _
      refine wp_cond (t := (decide (0 < gi o.deps i)) && (!(lessT ((go_ os (find os i (gi o.deps i))).time) ((go_ os (find os i (gi o.deps i))).actor) o.time o.actor))) s41 ?_
      rcases Bool.eq_false_or_eq_true ((decide (0 < gi o.deps i)) && (!(lessT ((go_ os (find os i (gi o.deps i))).time) ((go_ os (find os i (gi o.deps i))).actor) o.time o.actor))) with cd11 | cd11
      · rw [cd11]
        show Code.wp _ _ _ _ _
        have hs := cd11
        refine wp_seq ?_
        refine deedL [.eq 6 (.bool false), .w (Below w10.heap.size w10)] 42 [[]] [] [0, 1] hM hN hD (by kernel_rfl) ⟨⟨Below.refl _ _, below_drew (Below.refl _ _)⟩, trivial⟩ ⟨fun _ _ hb h => below_step h hb, trivial⟩ (fun hgrow => ⟨fun _ _ _ => rv rfl (x_assign rfl rfl) rfl, trivial⟩) ?_
        clear s0 s4 s5 s7 s8 s41
        clear hN hD
        rintro a12 w12 hN hD ⟨s6, hGR, -⟩
        replace HB := below_step HB hGR
        replace HBX4 := blk_below HBX4 hGR
        replace HBX5 := blk_below HBX5 hGR
        clear hGR
        show Code.wp _ _ _ _ _
        refine wp_ret (blk_ret (then_ret (then_ret (blk_ret (then_ret ?_)))))
        refine bodyPost_ret (results_single rfl (vtmp s6 .nil)) hD ?_
        exact ⟨by rw [causes_false (fun h => by have := (h i hi0 (by omega)).2; simp at hs; simp [hs.2] at this; omega)], HB⟩
      · rw [cd11]
        show Code.wp _ _ _ _ _
        have hs : 0 < gi o.deps i → lessT (go_ os (find os i (gi o.deps i))).time (go_ os (find os i (gi o.deps i))).actor o.time o.actor = true := by have := cd11; simp at this; exact this
        refine wp_skip ?_
        show Code.wp _ _ _ _ _
        refine deedL [.eq 11 (.int .i64 i), .eq 12 (.int .i64 (i + 1)), .eq 7 (.int .i64 (i + 1)), .eq 0 (.slice A os.length c), .eq 4 (.pointer (some ⟨g4, 0, none⟩)), .eq 5 (.pointer (some ⟨g5, 0, none⟩)), .eq 7 (.int .i64 i), .w (Below w10.heap.size w10)] 42 [[6], [0], [1]] [[], [], [6]] [2, 3, 4, 5, 7] hM hN hD (by kernel_rfl) ⟨s0, s4, s5, s7, ⟨Below.refl _ _, below_drew (Below.refl _ _)⟩, trivial⟩ ⟨fun _ _ hb h => below_step h hb, trivial⟩ (fun hgrow => ⟨fun _ _ h => rv rfl (x_move rfl h.1) rfl,
          fun _ _ h => rv rfl (x_add' rfl h.1 rfl (by omega)) rfl,
          fun _ _ h => rv rfl (x_assign rfl h.1) rfl, trivial⟩) ?_
        clear s0 s4 s5 s7 s8 s41
        clear hN hD
        rintro a13 w13 hN hD ⟨s7, s0, s4, s5, hGR, -⟩
        replace HB := below_step HB hGR
        replace HBX4 := blk_below HBX4 hGR
        replace HBX5 := blk_below HBX5 hGR
        clear hGR
        show ∃ m, m < n_3 ∧ _
        exact ⟨_, (by omega), ⟨(i + 1), hN, hD, s0, s4, s5, s7, HB, HBX4, HBX5, (by omega), (by omega), (by intro j h0 h1; by_cases e : j = i; (subst e; exact ⟨by omega, hs⟩); exact hi j h0 (by omega)), rfl⟩⟩
  · rw [cd5]
    show Code.wp _ _ _ _ _
    have pd5 := of_decide_eq_false cd5
    refine wp_exit (then_exit (then_exit (at_exit ?_)))
    show Code.wp _ _ _ _ _
    refine wp_seq ?_
    refine deedL [.eq 6 (.bool true), .w (Below w4.heap.size w4)] 42 [[]] [] [0, 1] hM hN hD (by kernel_rfl) ⟨⟨Below.refl _ _, below_drew (Below.refl _ _)⟩, trivial⟩ ⟨fun _ _ hb h => below_step h hb, trivial⟩ (fun hgrow => ⟨fun _ _ _ => rv rfl (x_assign rfl rfl) rfl, trivial⟩) ?_
    clear s0 s4 s5 s7 s10
    clear hN hD
    rintro a14 w14 hN hD ⟨s6, hGR, -⟩
    replace HB := below_step HB hGR
    replace HBX4 := blk_below HBX4 hGR
    replace HBX5 := blk_below HBX5 hGR
    clear hGR
    show Code.wp _ _ _ _ _
    refine wp_ret ?_
    refine bodyPost_ret (results_single rfl (vtmp s6 .nil)) hD ?_
    exact ⟨by rw [causes_true (fun a h0 h1 => hi a h0 (by omega))], HB⟩
end Go.Proofs.Ytideafkiaipnoaa.Q

/- A log in order: sorted by actor, each actor's operations counted; the n-th of an actor. -/
namespace Go.Proofs.Ytideafkiaipnoaa.Q
set_option linter.unusedVariables false
set_option linter.unusedSimpArgs false
open Go
def Sorted (os : List Op) : Prop := ∀ i : Int, 0 < i → i < os.length → (go_ os (i - 1)).actor ≤ (go_ os i).actor
theorem Sorted.pair {os : List Op} (h : Sorted os) : os.Pairwise fun x y => x.actor ≤ y.actor := by
  have mono : ∀ (d : Nat) (i : Int), 0 ≤ i → i + d < os.length → (go_ os i).actor ≤ (go_ os (i + d)).actor := by
    intro d
    induction d with
    | zero => intro i _ _; simp
    | succ d ih =>
      intro i h0 h1
      have h2 := ih i h0 (by omega)
      have h3 := h (i + (d + 1 : Nat)) (by omega) (by omega)
      rw [show i + ((d + 1 : Nat) : Int) - 1 = i + d by omega] at h3
      omega
  rw [List.pairwise_iff_getElem]
  intro i j hi hj hij
  have h2 := mono (j - i) i (by omega) (by omega)
  rw [show (i : Int) + ((j - i : Nat) : Int) = j by omega] at h2
  simpa [go_, List.getD_eq_getElem?_getD, hi, hj] using h2
theorem split_at {os : List Op} (h : os.Pairwise fun x y => x.actor ≤ y.actor) (a : Int) : os = os.filter (fun o => decide (o.actor < a)) ++ (os.filter (fun o => o.actor == a) ++ os.filter (fun o => decide (a < o.actor))) := by
  induction os with
  | nil => rfl
  | cons x r ih =>
    rw [List.pairwise_cons] at h
    have ih' := ih h.2
    rcases Int.lt_trichotomy x.actor a with e | e | e
    · simp only [List.filter_cons, e, decide_true, if_true, List.cons_append]
      rw [if_neg (by simp; omega), if_neg (by simp; omega)]
      congr 1
    · have h1 : r.filter (fun o => decide (o.actor < a)) = [] := by
        rw [List.filter_eq_nil_iff]
        intro o ho
        have := h.1 o ho
        simp; omega
      rw [h1] at ih'
      simp only [List.filter_cons, h1]
      rw [if_neg (by simp; omega), if_pos (by simpa using e), if_neg (by simp; omega)]
      simpa using ih'
    · have h1 : r.filter (fun o => decide (o.actor < a)) = [] := by
        rw [List.filter_eq_nil_iff]
        intro o ho
        have := h.1 o ho
        simp; omega
      have h2 : r.filter (fun o => o.actor == a) = [] := by
        rw [List.filter_eq_nil_iff]
        intro o ho
        have := h.1 o ho
        simp; omega
      rw [h1, h2] at ih'
      simp only [List.filter_cons, h1, h2]
      rw [if_neg (by simp; omega), if_neg (by simp; omega), if_pos (by simpa using e)]
      simpa using ih'
theorem go_nat {os : List Op} {k : Nat} (h : k < os.length) : go_ os (k : Int) = os[k] := by simp [go_, List.getD_eq_getElem?_getD, h]
/-- Where the n-th of actor a stands. -/
theorem find_onth {os : List Op} (h : Sorted os) {a n : Int} (hn : 0 < n) (hv : n ≤ num os a) : 0 ≤ find os a n ∧ find os a n < os.length ∧ go_ os (find os a n) = onth os a n := by
  have hs := split_at h.pair a
  generalize hP : os.filter (fun o => decide (o.actor < a)) = P at hs
  generalize hQ : os.filter (fun o => decide (a < o.actor)) = Q at hs
  have hF : (os.filter fun o => o.actor == a).length = num os a := rfl
  have hFd : onth os a n = (os.filter fun o => o.actor == a).getD (n - 1).toNat default := rfl
  generalize hFF : os.filter (fun o => o.actor == a) = F at hs hF hFd
  have hl : os.length = P.length + (F.length + Q.length) := by conv => lhs; rw [hs]; simp
  have hin : ∀ m : Nat, m < F.length → ∀ hk : P.length + m < os.length, os[P.length + m]'hk = F.getD m default ∧ (F.getD m default).actor = a := by
    intro m hm hk
    have e1 : os[P.length + m]'hk = F[m] := by
      have : os[P.length + m]? = F[m]? := by
        conv => lhs; rw [hs]
        rw [List.getElem?_append_right (by omega), show P.length + m - P.length = m by omega, List.getElem?_append_left hm]
      rw [List.getElem?_eq_getElem hk, List.getElem?_eq_getElem hm] at this
      exact Option.some.inj this
    have e2 : F.getD m default = F[m] := by simp [List.getD_eq_getElem?_getD, hm]
    refine ⟨e1.trans e2.symm, ?_⟩
    rw [e2]
    have hmem : F[m] ∈ os.filter (fun o => o.actor == a) := by rw [hFF]; exact List.getElem_mem hm
    simpa using (List.mem_filter.1 hmem).2
  have h0 : (F.length : Int) = num os a := hF
  have hfirst : (go_ os (P.length : Int)).actor = a := by
    have hk : P.length < os.length := by omega
    rw [go_nat hk]
    have := hin 0 (by omega) (by omega)
    simp only [Nat.add_zero] at this
    rw [this.1]
    exact this.2
  have hbefore : ∀ j : Int, 0 ≤ j → j < P.length → (go_ os j).actor ≠ a := by
    intro j u v
    have hk : j.toNat < os.length := by omega
    have e : go_ os j = os[j.toNat] := by rw [← go_nat hk]; congr 1; omega
    have hp : os[j.toNat] = P[j.toNat]'(by omega) := by
      have : os[j.toNat]? = P[j.toNat]? := by
        conv => lhs; rw [hs]
        rw [List.getElem?_append_left (by omega)]
      rw [List.getElem?_eq_getElem hk, List.getElem?_eq_getElem (by omega)] at this
      exact Option.some.inj this
    have hmem : P[j.toNat]'(by omega) ∈ os.filter (fun o => decide (o.actor < a)) := by rw [hP]; exact List.getElem_mem _
    have := (List.mem_filter.1 hmem).2
    rw [e, hp]
    simp at this
    omega
  have hlast : go_ os ((P.length : Int) + n - 1) = F.getD (n - 1).toNat default ∧ (F.getD (n - 1).toNat default).actor = a := by
    have hk : P.length + (n - 1).toNat < os.length := by omega
    have := hin (n - 1).toNat (by omega) hk
    rw [← go_nat hk] at this
    rw [show ((P.length + (n - 1).toNat : Nat) : Int) = P.length + n - 1 by omega] at this
    exact this
  rw [find_some (by omega) (by omega) hbefore hfirst, if_neg (by
    rintro (u | u | u)
    · omega
    · omega
    · exact u (by rw [hlast.1]; exact hlast.2))]
  refine ⟨by omega, by omega, ?_⟩
  rw [hlast.1, hFd]
theorem num_zero {os : List Op} {a : Int} (h : ∀ o ∈ os, o.actor ≠ a) : num os a = 0 := by
  unfold num
  rw [List.filter_eq_nil_iff.2 (fun o ho => by simpa using h o ho)]
  rfl
theorem take_mem {os : List Op} {n : Nat} {o : Op} (h : o ∈ os.take n) : ∃ j : Int, 0 ≤ j ∧ j < n ∧ j < os.length ∧ go_ os j = o := by
  obtain ⟨k, hk, e⟩ := List.getElem_of_mem h
  rw [List.length_take] at hk
  refine ⟨k, by omega, by omega, by omega, ?_⟩
  rw [go_nat (by omega), ← e, List.getElem_take]
theorem Sorted.before {os : List Op} (h : Sorted os) {i j : Int} (h0 : 0 ≤ i) (h1 : i ≤ j) (h2 : j < os.length) : (go_ os i).actor ≤ (go_ os j).actor := by
  rcases Int.lt_or_eq_of_le h1 with e | e
  · have := List.pairwise_iff_getElem.1 h.pair i.toNat j.toNat (by omega) (by omega) (by omega)
    rw [← go_nat, ← go_nat] at this
    rwa [Int.toNat_of_nonneg h0, Int.toNat_of_nonneg (by omega)] at this
  · subst e; omega
/-- Each operation's number is one more than its actor had before. -/
def Counted (os : List Op) : Prop := ∀ i : Int, 0 ≤ i → i < os.length → (go_ os i).seq = num (os.take i.toNat) (go_ os i).actor + 1
theorem num_first {os : List Op} (h : Sorted os) {i : Int} (h0 : 0 ≤ i) (h1 : i < os.length) (hf : i = 0 ∨ (go_ os (i - 1)).actor ≠ (go_ os i).actor) : num (os.take i.toNat) (go_ os i).actor = 0 := by
  refine num_zero fun o ho => ?_
  obtain ⟨j, u, v, w, e⟩ := take_mem ho
  subst e
  rcases hf with hf | hf
  · omega
  · have h2 := h.before u (show j ≤ i - 1 by omega) (by omega)
    have h3 := h i (by omega) h1
    omega
theorem num_next {os : List Op} {i : Int} (h0 : 0 < i) (h1 : i < os.length) (he : (go_ os (i - 1)).actor = (go_ os i).actor) : num (os.take i.toNat) (go_ os i).actor = num (os.take (i - 1).toNat) (go_ os (i - 1)).actor + 1 := by
  have := take_snoc (os := os) (i := i - 1) (by omega) (by omega)
  rw [show i - 1 + 1 = i by omega] at this
  rw [this, num_snoc, if_pos he, he]
end Go.Proofs.Ytideafkiaipnoaa.Q

/- Functions walked. -/
namespace Go.Proofs.Ytideafkiaipnoaa.Q
open Go Go.RowKit Go.Proofs.YtideafkiaipnoaaW.PrintWords Go.Proofs.YtideafkiaipnoaaW.PrintLast Go.Proofs.Ytideafkiaipnoaa.Deed
set_option maxRecDepth 100000
set_option linter.unusedVariables false
set_option linter.unusedSimpArgs false
/-- Operation i does not stand where it must. -/
def sBad (os : List Op) (i : Int) : Bool := ((((i == 0) || ((go_ os i).actor != (go_ os (i - 1)).actor))) && (((go_ os i).seq != 1) || ((decide (0 < i)) && (decide ((go_ os i).actor < (go_ os (i - 1)).actor))))) || ((!((i == 0) || ((go_ os i).actor != (go_ os (i - 1)).actor))) && ((go_ os i).seq != ((go_ os (i - 1)).seq + 1)))
def Steps (os : List Op) : Prop := ∀ i : Int, 0 ≤ i → i < os.length → iOp (go_ os i) = true ∧ sBad os i = false
theorem Steps.actors {os : List Op} (h : ∀ i : Int, 0 ≤ i → i < os.length → iOp (go_ os i) = true) : Actors os := by
  intro o ho
  obtain ⟨k, hk, e⟩ := List.getElem_of_mem ho
  have e2 : go_ os (k : Int) = o := by simp [go_, List.getD_eq_getElem?_getD, hk, e]
  have := iOp_fine (e2 ▸ h k (by omega) (by omega))
  exact ⟨this.a0, this.a1⟩
theorem Steps.sorted {os : List Op} (h : Steps os) : Sorted os := by
  intro i h0 h1
  rcases Int.lt_or_le (go_ os i).actor (go_ os (i - 1)).actor with e | e
  · exfalso
    have hb := (h i (by omega) h1).2
    have : sBad os i = true := by
      unfold sBad
      simp
      exact .inl ⟨.inr (by omega), .inr ⟨h0, e⟩⟩
    rw [this] at hb
    cases hb
  · exact e
/-- In a log in order the n-th of an actor is there. -/
theorem find_ok {os : List Op} (h : Steps os) {a n : Int} (hn : 0 < n) (hv : n ≤ num os a) : 0 ≤ find os a n ∧ find os a n < os.length := ⟨(find_onth h.sorted hn hv).1, (find_onth h.sorted hn hv).2.1⟩
def SKind (os : List Op) (i : Int) : Prop := ¬ (gi (tf (fun o => sthing o.kind) (os.take i.toNat)) (go_ os i).obj ≠ 0 ∧ gi (tf (fun o => sthing o.kind) (os.take i.toNat)) (go_ os i).obj ≠ sthing (go_ os i).kind)
def SLog (os : List Op) : Prop := os.length ≤ 1024 ∧ Steps os ∧ ∀ i : Int, 0 ≤ i → i < os.length → causes os (cnt os) (go_ os i) = true ∧ SKind os i
noncomputable def sLogOK (os : List Op) : Bool := by classical exact decide (SLog os)
theorem sLogOK_true {os : List Op} (h : SLog os) : sLogOK os = true := by simp [sLogOK, h]
theorem sLogOK_false {os : List Op} (h : ¬ SLog os) : sLogOK os = false := by simp [sLogOK, h]
theorem sLogOK_iff {os : List Op} : sLogOK os = true ↔ SLog os := by simp [sLogOK]
set_option maxHeartbeats 2000000 in
theorem sLog_calls (A : Option Addr) (os : List Op) (D : Nat → Option Addr) (C : Nat → Nat) (c : Nat) (w : World) (HR : RO w A os D C) : Calls Try.prog 47 #[.slice A os.length c] w fun e w' => e = .returned (.bool (sLogOK os)) ∧ Below w.heap.size w w' := by
  refine calls_of_wp Try.func47 rfl ?_
  refine enter_ (N := 138) rfl ?_
  rintro a0 hN hD ⟨s0, -⟩
  have HB : Below w.heap.size w w := Below.refl _ _
  refine wp_seq ?_
  refine deedL [.eq 2 (.bool false), .eq 0 (.slice A os.length c), .w (Below w.heap.size w)] 138 [[]] [] [1, 2] hM hN hD (by kernel_rfl) ⟨s0, ⟨Below.refl _ _, below_drew (Below.refl _ _)⟩, trivial⟩ ⟨fun _ _ hb h => below_step h hb, trivial⟩ (fun hgrow => ⟨fun _ _ _ => rv rfl (x_assign rfl rfl) rfl, trivial⟩) ?_
  clear s0
  clear hN hD
  rintro a1 w1 hN hD ⟨s0, hGR, -⟩
  replace HB := below_step HB hGR
  clear hGR
  show Code.wp _ _ _ _ _
  refine wp_seq ?_
  refine wp_seq ?_
  refine deedL [.eq 9 (.slice A os.length c), .eq 10 (.int .i64 (os.length : Int)), .eq 11 (.bool (decide (1024 < (os.length : Int)))), .eq 0 (.slice A os.length c), .w (Below w1.heap.size w1)] 138 [[3], [0], [1]] [] [2, 3, 4] hM hN hD (by kernel_rfl) ⟨s0, ⟨Below.refl _ _, below_drew (Below.refl _ _)⟩, trivial⟩ ⟨fun _ _ hb h => below_step h hb, trivial⟩ (fun hgrow => ⟨fun _ _ h => rv rfl (x_move rfl h.1) rfl,
    fun _ _ h => rv rfl (x_len_slice rfl Try.underlying27 h.1) rfl,
    fun _ _ h => rv rfl (x_gtr rfl h.1 rfl) rfl, trivial⟩) ?_
  clear s0
  clear hN hD
  rintro a2 w2 hN hD ⟨s11, s0, hGR, -⟩
  replace HB := below_step HB hGR
  clear hGR
  show Code.wp _ _ _ _ _
  refine wp_cond (t := decide (1024 < (os.length : Int))) s11 ?_
  rcases Bool.eq_false_or_eq_true (decide (1024 < (os.length : Int))) with cd3 | cd3
  · rw [cd3]
    show Code.wp _ _ _ _ _
    have pd3 := of_decide_eq_true cd3
    refine wp_seq ?_
    refine deedL [.eq 2 (.bool false), .w (Below w2.heap.size w2)] 138 [[]] [] [0, 1] hM hN hD (by kernel_rfl) ⟨⟨Below.refl _ _, below_drew (Below.refl _ _)⟩, trivial⟩ ⟨fun _ _ hb h => below_step h hb, trivial⟩ (fun hgrow => ⟨fun _ _ _ => rv rfl (x_assign rfl rfl) rfl, trivial⟩) ?_
    clear s0 s11
    clear hN hD
    rintro a4 w4 hN hD ⟨s2, hGR, -⟩
    replace HB := below_step HB hGR
    clear hGR
    show Code.wp _ _ _ _ _
    refine wp_ret (then_ret ?_)
    refine bodyPost_ret (results_single rfl (vtmp s2 .nil)) hD ?_
    exact ⟨by rw [sLogOK_false (fun h => by have := h.1; omega)], HB⟩
  · rw [cd3]
    show Code.wp _ _ _ _ _
    have pd3 := of_decide_eq_false cd3
    refine wp_skip ?_
    show Code.wp _ _ _ _ _
    refine wp_seq ?_
    refine wp_seq ?_
    refine deedL [.eq 3 (.int .i64 0), .eq 0 (.slice A os.length c), .w (Below w2.heap.size w2)] 138 [[]] [] [0, 1, 2] hM hN hD (by kernel_rfl) ⟨s0, ⟨Below.refl _ _, below_drew (Below.refl _ _)⟩, trivial⟩ ⟨fun _ _ hb h => below_step h hb, trivial⟩ (fun hgrow => ⟨fun _ _ _ => rv rfl (x_assign rfl rfl) rfl, trivial⟩) ?_
    clear s0 s11
    clear hN hD
    rintro a5 w5 hN hD ⟨s3, s0, hGR, -⟩
    replace HB := below_step HB hGR
    clear hGR
    show Code.wp _ _ _ _ _
    refine wp_block ?_
    refine wp_loopN (fun n_ q_ w_ => ∃ (i : Int), (q_.tmps.size = 138) ∧ (q_.defers = []) ∧ (sl q_ 0 = .slice A os.length c) ∧ (sl q_ 3 = .int .i64 i) ∧ (Below w.heap.size w w_) ∧ (0 ≤ i) ∧ (i ≤ os.length) ∧ (∀ j : Int, 0 ≤ j → j < i → iOp (go_ os j) = true ∧ sBad os j = false) ∧ (n_ = (os.length - i).toNat)) ((fun (i : Int) => (os.length - i).toNat) 0) ?_ ?_
    · exact ⟨0, hN, hD, s0, s3, HB, (by omega), (by omega), (by intro j h0 h1; omega), rfl⟩
    clear s0 s3 HB hN hD
    rintro n_6 a6 w6 ⟨i, hN, hD, s0, s3, HB, hi0, hi1, hi, hmeas⟩
    refine wp_seq ?_
    refine wp_seq ?_
    refine deedL [.eq 12 (.int .i64 i), .eq 13 (.slice A os.length c), .eq 14 (.int .i64 (os.length : Int)), .eq 15 (.bool (decide (i < (os.length : Int)))), .eq 0 (.slice A os.length c), .eq 3 (.int .i64 i), .w (Below w6.heap.size w6)] 138 [[5], [4], [1], [0, 2]] [] [3, 4, 5, 6] hM hN hD (by kernel_rfl) ⟨s0, s3, ⟨Below.refl _ _, below_drew (Below.refl _ _)⟩, trivial⟩ ⟨fun _ _ hb h => below_step h hb, trivial⟩ (fun hgrow => ⟨fun _ _ h => rv rfl (x_move rfl h.1) rfl,
      fun _ _ h => rv rfl (x_move rfl h.1) rfl,
      fun _ _ h => rv rfl (x_len_slice rfl Try.underlying27 h.1) rfl,
      fun _ _ h => rv rfl (x_lss rfl h.1 h.2.1) rfl, trivial⟩) ?_
    clear s0 s3
    clear hN hD
    rintro a7 w7 hN hD ⟨s15, s0, s3, hGR, -⟩
    replace HB := below_step HB hGR
    clear hGR
    show Code.wp _ _ _ _ _
    refine wp_cond (t := decide (i < (os.length : Int))) s15 ?_
    rcases Bool.eq_false_or_eq_true (decide (i < (os.length : Int))) with cd8 | cd8
    · rw [cd8]
      show Code.wp _ _ _ _ _
      have pd8 := of_decide_eq_true cd8
      have hi2 := pd8
      refine wp_skip ?_
      show Code.wp _ _ _ _ _
      refine wp_seq ?_
      refine wp_block ?_
      refine wp_seq ?_
      refine wp_seq ?_
      refine deedL [.eq 18 (.slice A os.length c), .eq 19 (.int .i64 i), .eq 20 (.pointer (some ((adr A).add (i.toNat * 12)))), .eq 21 (.agg (opc (go_ os i) (D i.toNat) (C i.toNat)).toArray), .eq 22 (.bool (sOp (go_ os i))), .eq 23 (.bool (!(sOp (go_ os i)))), .eq 0 (.slice A os.length c), .eq 3 (.int .i64 i), .w (Below w7.heap.size w7)] 138 [[6], [7], [0, 1], [2, 8], [3, 8], [4]] [] [5, 6, 7, 8] hM hN hD (by kernel_rfl) ⟨s0, s3, ⟨Below.refl _ _, below_drew (Below.refl _ _)⟩, trivial⟩ ⟨fun _ _ hb h => below_step h hb, trivial⟩ (fun hgrow => ⟨fun _ _ h => rv rfl (x_move rfl h.1) rfl,
        fun _ _ h => rv rfl (x_move rfl h.1) rfl,
        fun _ _ h => rv rfl (x_index_at rfl h.1 h.2.1 Try.underlying27 sz67 (by omega) (by omega) (RO.ad HR i (by omega) (by omega))) rfl,
        fun _ _ h => rv rfl (x_loadS rfl h.1 Try.underlying67 (opc (go_ os i) (D i.toNat) (C i.toNat)) sz67 (RO.cells HR (below_step HB h.2.1) (by omega) (by omega))) rfl,
        fun _ _ h => rc hgrow rfl Try.func82 (by kernel_rfl) rfl rfl (args1 h.1) (sOp_calls (go_ os i) _ (D i.toNat) (C i.toNat) (RI.below (RO.deps HR (by omega) (by omega)) (below_step HB h.2.1))) (fun _ _ h => ⟨_, h.1, h.2, rfl⟩),
        fun _ _ h => rv rfl (x_not rfl h.1) rfl, trivial⟩) ?_
      clear s0 s3 s15
      clear hN hD
      rintro a9 w9 hN hD ⟨s23, s0, s3, hGR, -⟩
      replace HB := below_step HB hGR
      clear hGR
      show Code.wp _ _ _ _ _
      refine wp_cond (t := !(sOp (go_ os i))) s23 ?_
      rcases Bool.eq_false_or_eq_true (!(sOp (go_ os i))) with cd10 | cd10
      · rw [cd10]
        show Code.wp _ _ _ _ _
        have pd10 := cd10
        simp at pd10
        have ho := cd10
        refine wp_seq ?_
        refine deedL [.eq 2 (.bool false), .w (Below w9.heap.size w9)] 138 [[]] [] [0, 1] hM hN hD (by kernel_rfl) ⟨⟨Below.refl _ _, below_drew (Below.refl _ _)⟩, trivial⟩ ⟨fun _ _ hb h => below_step h hb, trivial⟩ (fun hgrow => ⟨fun _ _ _ => rv rfl (x_assign rfl rfl) rfl, trivial⟩) ?_
        clear s0 s3 s23
        clear hN hD
        rintro a11 w11 hN hD ⟨s2, hGR, -⟩
        replace HB := below_step HB hGR
        clear hGR
        show Code.wp _ _ _ _ _
        refine wp_ret (then_ret (blk_ret (then_ret (then_ret (blk_ret (then_ret ?_))))))
        refine bodyPost_ret (results_single rfl (vtmp s2 .nil)) hD ?_
        exact ⟨by rw [sLogOK_false (fun h => by have := (h.2.1 i hi0 hi2).1; rw [← sOp_iOp] at this; simp [this] at ho)], HB⟩
      · rw [cd10]
        show Code.wp _ _ _ _ _
        have pd10 := cd10
        simp at pd10
        have ho : iOp (go_ os i) = true := by have := cd10; rw [← sOp_iOp]; simpa using this
        refine wp_skip ?_
        show Code.wp _ _ _ _ _
        refine wp_seq ?_
        refine deedL (.eq 24 (.int .i64 i) :: .eq 25 (.bool (i == 0)) :: .eq 26 (.bool (i == 0)) :: .gv (((i == 0) == false)) 27 (.slice A os.length c) :: .gv (((i == 0) == false)) 28 (.int .i64 i) :: .gv (((i == 0) == false)) 29 (.pointer (some ((adr A).add (i.toNat * 12)))) :: .gv (((i == 0) == false)) 30 (.pointer (some ((adr A).add (i.toNat * 12)))) :: .gv (((i == 0) == false)) 31 (.int .i64 ((go_ os i).actor)) :: .gv (((i == 0) == false)) 32 (.slice A os.length c) :: .gv (((i == 0) == false)) 33 (.int .i64 i) :: .gv (((i == 0) == false)) 34 (.int .i64 (i - 1)) :: .gv (((i == 0) == false)) 35 (.pointer (some ((adr A).add ((i - 1).toNat * 12)))) :: .gv (((i == 0) == false)) 36 (.pointer (some ((adr A).add ((i - 1).toNat * 12)))) :: .gv (((i == 0) == false)) 37 (.int .i64 ((go_ os (i - 1)).actor)) :: .gv (((i == 0) == false)) 38 (.bool (((go_ os i).actor) != ((go_ os (i - 1)).actor))) :: .eq 39 (.bool ((i == 0) || (((go_ os i).actor) != ((go_ os (i - 1)).actor)))) :: .eq 4 (.bool ((i == 0) || (((go_ os i).actor) != ((go_ os (i - 1)).actor)))) :: .eq 0 (.slice A os.length c) :: .eq 3 (.int .i64 i) :: .w (Below w9.heap.size w9) :: []) 138 ([18] :: [0] :: [1] :: [2, 17] :: [2, 18] :: [2, 3, 4] :: [2, 5] :: [2, 6, 19] :: [2, 17] :: [2, 18] :: [2, 9] :: [2, 8, 10] :: [2, 11] :: [2, 12, 19] :: [2, 7, 13] :: [2, 14] :: [15] :: []) [] [16, 17, 18, 19] hM hN hD (by kernel_rfl) ⟨s0, s3, ⟨Below.refl _ _, below_drew (Below.refl _ _)⟩, trivial⟩ ⟨fun _ _ hb h => below_step h hb, trivial⟩ (fun hgrow => ⟨fun _ _ h => rv rfl (x_move rfl h.1) rfl,
          fun _ _ h => rv rfl (x_eql rfl h.1 rfl) rfl,
          fun _ _ h => rv rfl (x_move rfl h.1) rfl,
          fun _ _ h => rb rfl rfl h.1 (fun hgt => x_move rfl h.2.1) (fun _ z => z),
          fun _ _ h => rb rfl rfl h.1 (fun hgt => x_move rfl h.2.1) (fun _ z => z),
          fun _ _ h => rb rfl rfl h.1 (fun hgt => x_index_at rfl (h.2.1.1 hgt) (h.2.2.1.1 hgt) Try.underlying27 sz67 (by simp at hgt; omega) (by simp at hgt; omega) (RO.ad HR i (by simp at hgt; omega) (by simp at hgt; omega))) (fun _ z => z),
          fun _ _ h => rb rfl rfl h.1 (fun hgt => x_field rfl (h.2.1.1 hgt) Try.underlying67 rfl sz3 (by decide) rfl) (fun _ z => z),
          fun _ _ h => rb rfl rfl h.1 (fun hgt => x_load1 rfl (h.2.1.1 hgt) Try.underlying3 rfl (RO.cell0 HR (below_step HB h.2.2.1) (by simp at hgt; omega) (by simp at hgt; omega))) (fun _ z => z),
          fun _ _ h => rb rfl rfl h.1 (fun hgt => x_move rfl h.2.1) (fun _ z => z),
          fun _ _ h => rb rfl rfl h.1 (fun hgt => x_move rfl h.2.1) (fun _ z => z),
          fun _ _ h => rb rfl rfl h.1 (fun hgt => x_sub' rfl (h.2.1.1 hgt) rfl (by simp at hgt; omega)) (fun _ z => z),
          fun _ _ h => rb rfl rfl h.1 (fun hgt => x_index_at rfl (h.2.1.1 hgt) (h.2.2.1.1 hgt) Try.underlying27 sz67 (by simp at hgt; omega) (by simp at hgt; omega) (RO.ad HR (i - 1) (by simp at hgt; omega) (by simp at hgt; omega))) (fun _ z => z),
          fun _ _ h => rb rfl rfl h.1 (fun hgt => x_field rfl (h.2.1.1 hgt) Try.underlying67 rfl sz3 (by decide) rfl) (fun _ z => z),
          fun _ _ h => rb rfl rfl h.1 (fun hgt => x_load1 rfl (h.2.1.1 hgt) Try.underlying3 rfl (RO.cell0 HR (below_step HB h.2.2.1) (by simp at hgt; omega) (by simp at hgt; omega))) (fun _ z => z),
          fun _ _ h => rb rfl rfl h.1 (fun hgt => x_neq rfl (h.2.1.1 hgt) (h.2.2.1.1 hgt)) (fun _ z => z),
          fun _ _ h => rv rfl (x_or rfl rfl h.1 (fun hc => h.2.1.1 (beq_iff_eq.2 hc))) rfl,
          fun _ _ h => rv rfl (x_assign rfl h.1) rfl, trivial⟩) ?_
        clear s0 s3 s23
        clear hN hD
        rintro a12 w12 hN hD ⟨s4, s0, s3, hGR, -⟩
        replace HB := below_step HB hGR
        clear hGR
        show Code.wp _ _ _ _ _
        refine wp_seq ?_
        refine deedL (.eq 40 (.bool ((i == 0) || (((go_ os i).actor) != ((go_ os (i - 1)).actor)))) :: .eq 41 (.bool ((i == 0) || (((go_ os i).actor) != ((go_ os (i - 1)).actor)))) :: .gv ((((i == 0) || (((go_ os i).actor) != ((go_ os (i - 1)).actor))) == true)) 42 (.slice A os.length c) :: .gv ((((i == 0) || (((go_ os i).actor) != ((go_ os (i - 1)).actor))) == true)) 43 (.int .i64 i) :: .gv ((((i == 0) || (((go_ os i).actor) != ((go_ os (i - 1)).actor))) == true)) 44 (.pointer (some ((adr A).add (i.toNat * 12)))) :: .gv ((((i == 0) || (((go_ os i).actor) != ((go_ os (i - 1)).actor))) == true)) 45 (.pointer (some (((adr A).add (i.toNat * 12)).add 1))) :: .gv ((((i == 0) || (((go_ os i).actor) != ((go_ os (i - 1)).actor))) == true)) 46 (.int .i64 ((go_ os i).seq)) :: .gv ((((i == 0) || (((go_ os i).actor) != ((go_ os (i - 1)).actor))) == true)) 47 (.bool (((go_ os i).seq) != 1)) :: .gv ((((i == 0) || (((go_ os i).actor) != ((go_ os (i - 1)).actor))) == true)) 48 (.bool (((go_ os i).seq) != 1)) :: .gv ((((i == 0) || (((go_ os i).actor) != ((go_ os (i - 1)).actor))) == true) && ((((go_ os i).seq) != 1) == false)) 49 (.int .i64 i) :: .gv ((((i == 0) || (((go_ os i).actor) != ((go_ os (i - 1)).actor))) == true) && ((((go_ os i).seq) != 1) == false)) 50 (.bool (decide (0 < i))) :: .gv ((((i == 0) || (((go_ os i).actor) != ((go_ os (i - 1)).actor))) == true) && ((((go_ os i).seq) != 1) == false)) 51 (.bool (decide (0 < i))) :: .gv (((((i == 0) || (((go_ os i).actor) != ((go_ os (i - 1)).actor))) == true) && ((((go_ os i).seq) != 1) == false)) && ((decide (0 < i)) == true)) 52 (.slice A os.length c) :: .gv (((((i == 0) || (((go_ os i).actor) != ((go_ os (i - 1)).actor))) == true) && ((((go_ os i).seq) != 1) == false)) && ((decide (0 < i)) == true)) 53 (.int .i64 i) :: .gv (((((i == 0) || (((go_ os i).actor) != ((go_ os (i - 1)).actor))) == true) && ((((go_ os i).seq) != 1) == false)) && ((decide (0 < i)) == true)) 54 (.pointer (some ((adr A).add (i.toNat * 12)))) :: .gv (((((i == 0) || (((go_ os i).actor) != ((go_ os (i - 1)).actor))) == true) && ((((go_ os i).seq) != 1) == false)) && ((decide (0 < i)) == true)) 55 (.pointer (some ((adr A).add (i.toNat * 12)))) :: .gv (((((i == 0) || (((go_ os i).actor) != ((go_ os (i - 1)).actor))) == true) && ((((go_ os i).seq) != 1) == false)) && ((decide (0 < i)) == true)) 56 (.int .i64 ((go_ os i).actor)) :: .gv (((((i == 0) || (((go_ os i).actor) != ((go_ os (i - 1)).actor))) == true) && ((((go_ os i).seq) != 1) == false)) && ((decide (0 < i)) == true)) 57 (.slice A os.length c) :: .gv (((((i == 0) || (((go_ os i).actor) != ((go_ os (i - 1)).actor))) == true) && ((((go_ os i).seq) != 1) == false)) && ((decide (0 < i)) == true)) 58 (.int .i64 i) :: .gv (((((i == 0) || (((go_ os i).actor) != ((go_ os (i - 1)).actor))) == true) && ((((go_ os i).seq) != 1) == false)) && ((decide (0 < i)) == true)) 59 (.int .i64 (i - 1)) :: .gv (((((i == 0) || (((go_ os i).actor) != ((go_ os (i - 1)).actor))) == true) && ((((go_ os i).seq) != 1) == false)) && ((decide (0 < i)) == true)) 60 (.pointer (some ((adr A).add ((i - 1).toNat * 12)))) :: .gv (((((i == 0) || (((go_ os i).actor) != ((go_ os (i - 1)).actor))) == true) && ((((go_ os i).seq) != 1) == false)) && ((decide (0 < i)) == true)) 61 (.pointer (some ((adr A).add ((i - 1).toNat * 12)))) :: .gv (((((i == 0) || (((go_ os i).actor) != ((go_ os (i - 1)).actor))) == true) && ((((go_ os i).seq) != 1) == false)) && ((decide (0 < i)) == true)) 62 (.int .i64 ((go_ os (i - 1)).actor)) :: .gv (((((i == 0) || (((go_ os i).actor) != ((go_ os (i - 1)).actor))) == true) && ((((go_ os i).seq) != 1) == false)) && ((decide (0 < i)) == true)) 63 (.bool (decide ((go_ os i).actor < (go_ os (i - 1)).actor))) :: .gv ((((i == 0) || (((go_ os i).actor) != ((go_ os (i - 1)).actor))) == true) && ((((go_ os i).seq) != 1) == false)) 64 (.bool ((decide (0 < i)) && (decide ((go_ os i).actor < (go_ os (i - 1)).actor)))) :: .gv ((((i == 0) || (((go_ os i).actor) != ((go_ os (i - 1)).actor))) == true)) 65 (.bool ((((go_ os i).seq) != 1) || ((decide (0 < i)) && (decide ((go_ os i).actor < (go_ os (i - 1)).actor))))) :: .eq 66 (.bool (((i == 0) || (((go_ os i).actor) != ((go_ os (i - 1)).actor))) && ((((go_ os i).seq) != 1) || ((decide (0 < i)) && (decide ((go_ os i).actor < (go_ os (i - 1)).actor)))))) :: .eq 67 (.bool (((i == 0) || (((go_ os i).actor) != ((go_ os (i - 1)).actor))) && ((((go_ os i).seq) != 1) || ((decide (0 < i)) && (decide ((go_ os i).actor < (go_ os (i - 1)).actor)))))) :: .gv (((((i == 0) || (((go_ os i).actor) != ((go_ os (i - 1)).actor))) && ((((go_ os i).seq) != 1) || ((decide (0 < i)) && (decide ((go_ os i).actor < (go_ os (i - 1)).actor))))) == false)) 68 (.bool ((i == 0) || (((go_ os i).actor) != ((go_ os (i - 1)).actor)))) :: .gv (((((i == 0) || (((go_ os i).actor) != ((go_ os (i - 1)).actor))) && ((((go_ os i).seq) != 1) || ((decide (0 < i)) && (decide ((go_ os i).actor < (go_ os (i - 1)).actor))))) == false)) 69 (.bool (!((i == 0) || (((go_ os i).actor) != ((go_ os (i - 1)).actor))))) :: .gv (((((i == 0) || (((go_ os i).actor) != ((go_ os (i - 1)).actor))) && ((((go_ os i).seq) != 1) || ((decide (0 < i)) && (decide ((go_ os i).actor < (go_ os (i - 1)).actor))))) == false)) 70 (.bool (!((i == 0) || (((go_ os i).actor) != ((go_ os (i - 1)).actor))))) :: .gv (((((i == 0) || (((go_ os i).actor) != ((go_ os (i - 1)).actor))) && ((((go_ os i).seq) != 1) || ((decide (0 < i)) && (decide ((go_ os i).actor < (go_ os (i - 1)).actor))))) == false) && ((!((i == 0) || (((go_ os i).actor) != ((go_ os (i - 1)).actor)))) == true)) 71 (.slice A os.length c) :: .gv (((((i == 0) || (((go_ os i).actor) != ((go_ os (i - 1)).actor))) && ((((go_ os i).seq) != 1) || ((decide (0 < i)) && (decide ((go_ os i).actor < (go_ os (i - 1)).actor))))) == false) && ((!((i == 0) || (((go_ os i).actor) != ((go_ os (i - 1)).actor)))) == true)) 72 (.int .i64 i) :: .gv (((((i == 0) || (((go_ os i).actor) != ((go_ os (i - 1)).actor))) && ((((go_ os i).seq) != 1) || ((decide (0 < i)) && (decide ((go_ os i).actor < (go_ os (i - 1)).actor))))) == false) && ((!((i == 0) || (((go_ os i).actor) != ((go_ os (i - 1)).actor)))) == true)) 73 (.pointer (some ((adr A).add (i.toNat * 12)))) :: .gv (((((i == 0) || (((go_ os i).actor) != ((go_ os (i - 1)).actor))) && ((((go_ os i).seq) != 1) || ((decide (0 < i)) && (decide ((go_ os i).actor < (go_ os (i - 1)).actor))))) == false) && ((!((i == 0) || (((go_ os i).actor) != ((go_ os (i - 1)).actor)))) == true)) 74 (.pointer (some (((adr A).add (i.toNat * 12)).add 1))) :: .gv (((((i == 0) || (((go_ os i).actor) != ((go_ os (i - 1)).actor))) && ((((go_ os i).seq) != 1) || ((decide (0 < i)) && (decide ((go_ os i).actor < (go_ os (i - 1)).actor))))) == false) && ((!((i == 0) || (((go_ os i).actor) != ((go_ os (i - 1)).actor)))) == true)) 75 (.int .i64 ((go_ os i).seq)) :: .gv (((((i == 0) || (((go_ os i).actor) != ((go_ os (i - 1)).actor))) && ((((go_ os i).seq) != 1) || ((decide (0 < i)) && (decide ((go_ os i).actor < (go_ os (i - 1)).actor))))) == false) && ((!((i == 0) || (((go_ os i).actor) != ((go_ os (i - 1)).actor)))) == true)) 76 (.slice A os.length c) :: .gv (((((i == 0) || (((go_ os i).actor) != ((go_ os (i - 1)).actor))) && ((((go_ os i).seq) != 1) || ((decide (0 < i)) && (decide ((go_ os i).actor < (go_ os (i - 1)).actor))))) == false) && ((!((i == 0) || (((go_ os i).actor) != ((go_ os (i - 1)).actor)))) == true)) 77 (.int .i64 i) :: .gv (((((i == 0) || (((go_ os i).actor) != ((go_ os (i - 1)).actor))) && ((((go_ os i).seq) != 1) || ((decide (0 < i)) && (decide ((go_ os i).actor < (go_ os (i - 1)).actor))))) == false) && ((!((i == 0) || (((go_ os i).actor) != ((go_ os (i - 1)).actor)))) == true)) 78 (.int .i64 (i - 1)) :: .gv (((((i == 0) || (((go_ os i).actor) != ((go_ os (i - 1)).actor))) && ((((go_ os i).seq) != 1) || ((decide (0 < i)) && (decide ((go_ os i).actor < (go_ os (i - 1)).actor))))) == false) && ((!((i == 0) || (((go_ os i).actor) != ((go_ os (i - 1)).actor)))) == true)) 79 (.pointer (some ((adr A).add ((i - 1).toNat * 12)))) :: .gv (((((i == 0) || (((go_ os i).actor) != ((go_ os (i - 1)).actor))) && ((((go_ os i).seq) != 1) || ((decide (0 < i)) && (decide ((go_ os i).actor < (go_ os (i - 1)).actor))))) == false) && ((!((i == 0) || (((go_ os i).actor) != ((go_ os (i - 1)).actor)))) == true)) 80 (.pointer (some (((adr A).add ((i - 1).toNat * 12)).add 1))) :: .gv (((((i == 0) || (((go_ os i).actor) != ((go_ os (i - 1)).actor))) && ((((go_ os i).seq) != 1) || ((decide (0 < i)) && (decide ((go_ os i).actor < (go_ os (i - 1)).actor))))) == false) && ((!((i == 0) || (((go_ os i).actor) != ((go_ os (i - 1)).actor)))) == true)) 81 (.int .i64 ((go_ os (i - 1)).seq)) :: .gv (((((i == 0) || (((go_ os i).actor) != ((go_ os (i - 1)).actor))) && ((((go_ os i).seq) != 1) || ((decide (0 < i)) && (decide ((go_ os i).actor < (go_ os (i - 1)).actor))))) == false) && ((!((i == 0) || (((go_ os i).actor) != ((go_ os (i - 1)).actor)))) == true)) 82 (.int .i64 ((go_ os (i - 1)).seq + 1)) :: .gv (((((i == 0) || (((go_ os i).actor) != ((go_ os (i - 1)).actor))) && ((((go_ os i).seq) != 1) || ((decide (0 < i)) && (decide ((go_ os i).actor < (go_ os (i - 1)).actor))))) == false) && ((!((i == 0) || (((go_ os i).actor) != ((go_ os (i - 1)).actor)))) == true)) 83 (.bool (((go_ os i).seq) != ((go_ os (i - 1)).seq + 1))) :: .gv (((((i == 0) || (((go_ os i).actor) != ((go_ os (i - 1)).actor))) && ((((go_ os i).seq) != 1) || ((decide (0 < i)) && (decide ((go_ os i).actor < (go_ os (i - 1)).actor))))) == false)) 84 (.bool ((!((i == 0) || (((go_ os i).actor) != ((go_ os (i - 1)).actor)))) && (((go_ os i).seq) != ((go_ os (i - 1)).seq + 1)))) :: .eq 85 (.bool ((((i == 0) || (((go_ os i).actor) != ((go_ os (i - 1)).actor))) && ((((go_ os i).seq) != 1) || ((decide (0 < i)) && (decide ((go_ os i).actor < (go_ os (i - 1)).actor))))) || ((!((i == 0) || (((go_ os i).actor) != ((go_ os (i - 1)).actor)))) && (((go_ os i).seq) != ((go_ os (i - 1)).seq + 1))))) :: .eq 0 (.slice A os.length c) :: .eq 3 (.int .i64 i) :: .eq 4 (.bool ((i == 0) || (((go_ os i).actor) != ((go_ os (i - 1)).actor)))) :: .w (Below w12.heap.size w12) :: []) 138 ([48] :: [0] :: [1, 46] :: [1, 47] :: [1, 2, 3] :: [1, 4] :: [1, 5, 49] :: [1, 6] :: [1, 7] :: [8, 47] :: [8, 9] :: [8, 10] :: [11, 46] :: [11, 47] :: [11, 12, 13] :: [11, 14] :: [11, 15, 49] :: [11, 46] :: [11, 47] :: [11, 18] :: [11, 17, 19] :: [11, 20] :: [11, 21, 49] :: [11, 16, 22] :: [8, 11, 23] :: [1, 8, 24] :: [1, 25] :: [26] :: [27, 48] :: [27, 28] :: [27, 29] :: [30, 46] :: [30, 47] :: [30, 31, 32] :: [30, 33] :: [30, 34, 49] :: [30, 46] :: [30, 47] :: [30, 37] :: [30, 36, 38] :: [30, 39] :: [30, 40, 49] :: [30, 41] :: [30, 35, 42] :: [27, 30, 43] :: [27, 44] :: []) [] [45, 46, 47, 48, 49] hM hN hD (by kernel_rfl) ⟨s0, s3, s4, ⟨Below.refl _ _, below_drew (Below.refl _ _)⟩, trivial⟩ ⟨fun _ _ hb h => below_step h hb, trivial⟩ (fun hgrow => ⟨fun _ _ h => rv rfl (x_move rfl h.1) rfl,
          fun _ _ h => rv rfl (x_move rfl h.1) rfl,
          fun _ _ h => rb rfl rfl h.1 (fun hgt => x_move rfl h.2.1) (fun _ z => z),
          fun _ _ h => rb rfl rfl h.1 (fun hgt => x_move rfl h.2.1) (fun _ z => z),
          fun _ _ h => rb rfl rfl h.1 (fun hgt => x_index_at rfl (h.2.1.1 hgt) (h.2.2.1.1 hgt) Try.underlying27 sz67 (by simp at hgt; omega) (by simp at hgt; omega) (RO.ad HR i (by simp at hgt; omega) (by simp at hgt; omega))) (fun _ z => z),
          fun _ _ h => rb rfl rfl h.1 (fun hgt => x_field rfl (h.2.1.1 hgt) Try.underlying67 rfl sz3 (by decide) rfl) (fun _ z => z),
          fun _ _ h => rb rfl rfl h.1 (fun hgt => x_load1 rfl (h.2.1.1 hgt) Try.underlying3 rfl (RO.cell HR (below_step HB h.2.2.1) (by simp at hgt; omega) (by simp at hgt; omega) (j := 1) rfl)) (fun _ z => z),
          fun _ _ h => rb rfl rfl h.1 (fun hgt => x_neq rfl (h.2.1.1 hgt) rfl) (fun _ z => z),
          fun _ _ h => rb rfl rfl h.1 (fun hgt => x_move rfl (h.2.1.1 hgt)) (fun _ z => z),
          fun _ _ h => rg rfl rfl h.1 (fun hgt => x_move rfl h.2.1) (fun _ z => z),
          fun _ _ h => rg rfl rfl h.1 (fun hgt => x_gtr rfl (h.2.1.1 hgt) rfl) (fun _ z => z),
          fun _ _ h => rg rfl rfl h.1 (fun hgt => x_move rfl (h.2.1.1 hgt)) (fun _ z => z),
          fun _ _ h => rg rfl rfl h.1 (fun hgt => x_move rfl h.2.1) (fun _ z => z),
          fun _ _ h => rg rfl rfl h.1 (fun hgt => x_move rfl h.2.1) (fun _ z => z),
          fun _ _ h => rg rfl rfl h.1 (fun hgt => x_index_at rfl (h.2.1.1 hgt) (h.2.2.1.1 hgt) Try.underlying27 sz67 (by simp at hgt; omega) (by simp at hgt; omega) (RO.ad HR i (by simp at hgt; omega) (by simp at hgt; omega))) (fun _ z => z),
          fun _ _ h => rg rfl rfl h.1 (fun hgt => x_field rfl (h.2.1.1 hgt) Try.underlying67 rfl sz3 (by decide) rfl) (fun _ z => z),
          fun _ _ h => rg rfl rfl h.1 (fun hgt => x_load1 rfl (h.2.1.1 hgt) Try.underlying3 rfl (RO.cell0 HR (below_step HB h.2.2.1) (by simp at hgt; omega) (by simp at hgt; omega))) (fun _ z => z),
          fun _ _ h => rg rfl rfl h.1 (fun hgt => x_move rfl h.2.1) (fun _ z => z),
          fun _ _ h => rg rfl rfl h.1 (fun hgt => x_move rfl h.2.1) (fun _ z => z),
          fun _ _ h => rg rfl rfl h.1 (fun hgt => x_sub' rfl (h.2.1.1 hgt) rfl (by simp at hgt; omega)) (fun _ z => z),
          fun _ _ h => rg rfl rfl h.1 (fun hgt => x_index_at rfl (h.2.1.1 hgt) (h.2.2.1.1 hgt) Try.underlying27 sz67 (by simp at hgt; omega) (by simp at hgt; omega) (RO.ad HR (i - 1) (by simp at hgt; omega) (by simp at hgt; omega))) (fun _ z => z),
          fun _ _ h => rg rfl rfl h.1 (fun hgt => x_field rfl (h.2.1.1 hgt) Try.underlying67 rfl sz3 (by decide) rfl) (fun _ z => z),
          fun _ _ h => rg rfl rfl h.1 (fun hgt => x_load1 rfl (h.2.1.1 hgt) Try.underlying3 rfl (RO.cell0 HR (below_step HB h.2.2.1) (by simp at hgt; omega) (by simp at hgt; omega))) (fun _ z => z),
          fun _ _ h => rg rfl rfl h.1 (fun hgt => x_lss rfl (h.2.1.1 hgt) (h.2.2.1.1 hgt)) (fun _ z => z),
          fun _ _ h => rg rfl rfl h.1 (fun hgt => x_and rfl rfl (h.2.1.1 hgt) (fun hc => h.2.2.1.1 (Bool.and_eq_true _ _ ▸ ⟨hgt, beq_iff_eq.2 hc⟩))) (fun _ z => z),
          fun _ _ h => rb rfl rfl h.1 (fun hgt => x_or rfl rfl (h.2.1.1 hgt) (fun hc => h.2.2.1.1 (Bool.and_eq_true _ _ ▸ ⟨hgt, beq_iff_eq.2 hc⟩))) (fun _ z => z),
          fun _ _ h => rv rfl (x_and rfl rfl h.1 (fun hc => h.2.1.1 (beq_iff_eq.2 hc))) rfl,
          fun _ _ h => rv rfl (x_move rfl h.1) rfl,
          fun _ _ h => rb rfl rfl h.1 (fun hgt => x_move rfl h.2.1) (fun _ z => z),
          fun _ _ h => rb rfl rfl h.1 (fun hgt => x_not rfl (h.2.1.1 hgt)) (fun _ z => z),
          fun _ _ h => rb rfl rfl h.1 (fun hgt => x_move rfl (h.2.1.1 hgt)) (fun _ z => z),
          fun _ _ h => rg rfl rfl h.1 (fun hgt => x_move rfl h.2.1) (fun _ z => z),
          fun _ _ h => rg rfl rfl h.1 (fun hgt => x_move rfl h.2.1) (fun _ z => z),
          fun _ _ h => rg rfl rfl h.1 (fun hgt => x_index_at rfl (h.2.1.1 hgt) (h.2.2.1.1 hgt) Try.underlying27 sz67 (by simp at hgt; omega) (by simp at hgt; omega) (RO.ad HR i (by simp at hgt; omega) (by simp at hgt; omega))) (fun _ z => z),
          fun _ _ h => rg rfl rfl h.1 (fun hgt => x_field rfl (h.2.1.1 hgt) Try.underlying67 rfl sz3 (by decide) rfl) (fun _ z => z),
          fun _ _ h => rg rfl rfl h.1 (fun hgt => x_load1 rfl (h.2.1.1 hgt) Try.underlying3 rfl (RO.cell HR (below_step HB h.2.2.1) (by simp at hgt; omega) (by simp at hgt; omega) (j := 1) rfl)) (fun _ z => z),
          fun _ _ h => rg rfl rfl h.1 (fun hgt => x_move rfl h.2.1) (fun _ z => z),
          fun _ _ h => rg rfl rfl h.1 (fun hgt => x_move rfl h.2.1) (fun _ z => z),
          fun _ _ h => rg rfl rfl h.1 (fun hgt => x_sub' rfl (h.2.1.1 hgt) rfl (by simp at hgt; omega)) (fun _ z => z),
          fun _ _ h => rg rfl rfl h.1 (fun hgt => x_index_at rfl (h.2.1.1 hgt) (h.2.2.1.1 hgt) Try.underlying27 sz67 (by simp at hgt; omega) (by simp at hgt; omega) (RO.ad HR (i - 1) (by simp at hgt; omega) (by simp at hgt; omega))) (fun _ z => z),
          fun _ _ h => rg rfl rfl h.1 (fun hgt => x_field rfl (h.2.1.1 hgt) Try.underlying67 rfl sz3 (by decide) rfl) (fun _ z => z),
          fun _ _ h => rg rfl rfl h.1 (fun hgt => x_load1 rfl (h.2.1.1 hgt) Try.underlying3 rfl (RO.cell HR (below_step HB h.2.2.1) (by simp at hgt; omega) (by simp at hgt; omega) (j := 1) rfl)) (fun _ z => z),
          fun _ _ h => rg rfl rfl h.1 (fun hgt => x_add' rfl (h.2.1.1 hgt) rfl (by have hq := iOp_fine (hi (i - 1) (by simp at hgt; omega) (by omega)).1; have := hq.s0; have := hq.s1; omega)) (fun _ z => z),
          fun _ _ h => rg rfl rfl h.1 (fun hgt => x_neq rfl (h.2.1.1 hgt) (h.2.2.1.1 hgt)) (fun _ z => z),
          fun _ _ h => rb rfl rfl h.1 (fun hgt => x_and rfl rfl (h.2.1.1 hgt) (fun hc => h.2.2.1.1 (Bool.and_eq_true _ _ ▸ ⟨hgt, beq_iff_eq.2 hc⟩))) (fun _ z => z),
          fun _ _ h => rv rfl (x_or rfl rfl h.1 (fun hc => h.2.1.1 (beq_iff_eq.2 hc))) rfl, trivial⟩) ?_
        clear s0 s3 s4
        clear hN hD
        rintro a13 w13 hN hD ⟨s85, s0, s3, s4, hGR, -⟩
        replace HB := below_step HB hGR
        clear hGR
        show Code.wp _ _ _ _ _
        refine wp_cond (t := (((i == 0) || (((go_ os i).actor) != ((go_ os (i - 1)).actor))) && ((((go_ os i).seq) != 1) || ((decide (0 < i)) && (decide ((go_ os i).actor < (go_ os (i - 1)).actor))))) || ((!((i == 0) || (((go_ os i).actor) != ((go_ os (i - 1)).actor)))) && (((go_ os i).seq) != ((go_ os (i - 1)).seq + 1)))) s85 ?_
        rcases Bool.eq_false_or_eq_true ((((i == 0) || (((go_ os i).actor) != ((go_ os (i - 1)).actor))) && ((((go_ os i).seq) != 1) || ((decide (0 < i)) && (decide ((go_ os i).actor < (go_ os (i - 1)).actor))))) || ((!((i == 0) || (((go_ os i).actor) != ((go_ os (i - 1)).actor)))) && (((go_ os i).seq) != ((go_ os (i - 1)).seq + 1)))) with cd14 | cd14
        · rw [cd14]
          show Code.wp _ _ _ _ _
          have hs : sBad os i = true := cd14
          refine wp_seq ?_
          refine deedL [.eq 2 (.bool false), .w (Below w13.heap.size w13)] 138 [[]] [] [0, 1] hM hN hD (by kernel_rfl) ⟨⟨Below.refl _ _, below_drew (Below.refl _ _)⟩, trivial⟩ ⟨fun _ _ hb h => below_step h hb, trivial⟩ (fun hgrow => ⟨fun _ _ _ => rv rfl (x_assign rfl rfl) rfl, trivial⟩) ?_
          clear s0 s3 s4 s85
          clear hN hD
          rintro a15 w15 hN hD ⟨s2, hGR, -⟩
          replace HB := below_step HB hGR
          clear hGR
          show Code.wp _ _ _ _ _
          refine wp_ret (blk_ret (then_ret (then_ret (blk_ret (then_ret ?_)))))
          refine bodyPost_ret (results_single rfl (vtmp s2 .nil)) hD ?_
          exact ⟨by rw [sLogOK_false (fun h => by have := (h.2.1 i hi0 hi2).2; rw [hs] at this; cases this)], HB⟩
        · rw [cd14]
          show Code.wp _ _ _ _ _
          have hs : sBad os i = false := cd14
          refine wp_skip ?_
          show Code.wp _ _ _ _ _
          refine deedL [.eq 16 (.int .i64 i), .eq 17 (.int .i64 (i + 1)), .eq 3 (.int .i64 (i + 1)), .eq 0 (.slice A os.length c), .eq 3 (.int .i64 i), .w (Below w13.heap.size w13)] 138 [[4], [0], [1]] [[], [], [4]] [2, 3, 5] hM hN hD (by kernel_rfl) ⟨s0, s3, ⟨Below.refl _ _, below_drew (Below.refl _ _)⟩, trivial⟩ ⟨fun _ _ hb h => below_step h hb, trivial⟩ (fun hgrow => ⟨fun _ _ h => rv rfl (x_move rfl h.1) rfl,
            fun _ _ h => rv rfl (x_add' rfl h.1 rfl (by omega)) rfl,
            fun _ _ h => rv rfl (x_assign rfl h.1) rfl, trivial⟩) ?_
          clear s0 s3 s4 s85
          clear hN hD
          rintro a16 w16 hN hD ⟨s3, s0, hGR, -⟩
          replace HB := below_step HB hGR
          clear hGR
          show ∃ m, m < n_6 ∧ _
          exact ⟨_, (by omega), ⟨(i + 1), hN, hD, s0, s3, HB, (by omega), (by omega), (by intro j h0 h1; by_cases e : j = i; (subst e; exact ⟨ho, hs⟩); exact hi j h0 (by omega)), rfl⟩⟩
    · rw [cd8]
      show Code.wp _ _ _ _ _
      have pd8 := of_decide_eq_false cd8
      refine wp_exit (then_exit (then_exit (at_exit ?_)))
      show Code.wp _ _ _ _ _
      refine wp_seq ?_
      have hst : Steps os := fun j h0 h1 => hi j h0 (by omega)
      have hac : Actors os := Steps.actors (fun j h0 h1 => (hst j h0 h1).1)
      refine deedL [.eq 86 (.slice A os.length c), .s1 87 fun x_ W => ∃ (gc : Nat), x_ = .agg #[Value.slice (some ⟨gc, 0, none⟩) 16 16] ∧ w7.heap.size ≤ gc ∧ IB W gc (cnt os) 3, .s1 5 (NewB w7.heap.size [.slice none 0 0] 41), .s2 87 5 fun x_ y_ W => ∃ (gc : Nat), x_ = .agg #[Value.slice (some ⟨gc, 0, none⟩) 16 16] ∧ NewB w7.heap.size [.slice (some ⟨gc, 0, none⟩) 16 16] 41 y_ W, .eq 0 (.slice A os.length c), .w (Below w7.heap.size w7)] 138 [[4], [0, 5], [5], [2, 1, 5]] [[], [], [], [2]] [1, 3, 4, 5] hM hN hD (by kernel_rfl) ⟨s0, ⟨Below.refl _ _, below_drew (Below.refl _ _)⟩, trivial⟩ ⟨fun _ _ _ hb h => by obtain ⟨gc, e_, z0, z1⟩ := h; exact ⟨_, e_, z0, z1.below hb⟩, fun _ _ _ hb h => h.grow hb, fun _ _ _ _ hb h => by obtain ⟨gc, e_, h_⟩ := h; exact ⟨_, e_, h_.grow hb⟩, fun _ _ hb h => below_step h hb, trivial⟩ (fun hgrow => ⟨fun _ _ h => rv rfl (x_move rfl h.1) rfl,
        fun _ _ h => rc hgrow rfl Try.func64 (by kernel_rfl) rfl rfl (args1 h.1) (sCounts_calls A os D C c _ (RO.below HR (below_step HB h.2.1)) hac (by omega)) (fun _ _ hR => by obtain ⟨gc, e_, z0, z1, hb⟩ := hR; exact ⟨_, e_, hb, gc, rfl, (Nat.le_trans h.2.1.size z0), z1⟩),
        fun _ _ h => rbox hgrow rfl (x_alloc rfl zr41) h.1.size (fun _ _ z => z),
        ?_, trivial⟩) ?_
      · rintro a_ W ⟨h2, h1, h5, -⟩
        obtain ⟨gc, e1, HLgc, HCgc⟩ := h1
        obtain ⟨g5, e3, l3, hb3⟩ := h2
        exact rstoreS rfl rfl e3 e1 (by simp [Value.oneCell']) sz41 hb3 rfl ⟨_, e1, ⟨_, e3, l3, blk_stored (cs := [.slice (some ⟨gc, 0, none⟩) 16 16]) 0 _ [.slice none 0 0] hb3 (of_decide_eq_true rfl)⟩⟩ ⟨fun h => by obtain ⟨gc, e_, z0, z1⟩ := h; exact ⟨_, e_, z0, (setCells_far _ _ _ (blk_neT z1 hb3 rfl)).trans z1⟩, fun h => below_cells h l3, trivial⟩
      clear s0 s3 s15
      clear hN hD
      rintro a17 w17 hN hD ⟨⟨gc, s87, HLgc, HCgc⟩, qs3, s0, hGR, -⟩
      obtain ⟨gc_, e_, g5, s5, lg5, HBX5⟩ := qs3
      cases s87.symm.trans e_
      have lgc := HLgc
      clear HLgc
      replace lgc := Nat.le_trans HB.size lgc
      replace lg5 := Nat.le_trans HB.size lg5
      replace HB := below_step HB hGR
      clear hGR
      show Code.wp _ _ _ _ _
      refine wp_seq ?_
      refine deedL [.s1 88 (NewS w17.heap.size 101 (List.replicate 101 0) 3), .s2 88 6 fun x_ y_ _ => ∃ (g88 : Nat), x_ = .slice (some ⟨g88, 0, none⟩) 101 101 ∧ y_ = .slice (some ⟨g88, 0, none⟩) 101 101, .eq 0 (.slice A os.length c), .eq 5 (.pointer (some ⟨g5, 0, none⟩)), .w (Below w17.heap.size w17)] 138 [[4], [0]] [] [0, 1, 2, 3, 4] hM hN hD (by kernel_rfl) ⟨s0, s5, ⟨Below.refl _ _, below_drew (Below.refl _ _)⟩, trivial⟩ ⟨fun _ _ _ hb h => h.grow hb, fun _ _ _ _ hb h => h, fun _ _ hb h => below_step h hb, trivial⟩ (fun hgrow => ⟨fun _ _ h => rmakeI hgrow rfl (x_makeI rfl rfl rfl Try.underlying24 inf3 rfl (by decide)) h.1.size (fun _ _ z => z),
        ?_, trivial⟩) ?_
      · rintro a_ W ⟨h0, -⟩
        obtain ⟨g88, e0, l0, hb0⟩ := h0
        exact rv rfl (x_assign rfl e0) ⟨_, e0, rfl⟩
      clear s0 s5
      clear hN hD
      rintro a18 w18 hN hD ⟨⟨g88, s88, lg88, HBX88⟩, q6, s0, s5, hGR, -⟩
      obtain ⟨g88_, e_, s6⟩ := q6
      cases s88.symm.trans e_
      have n_gc_g88 : gc ≠ g88 := by have := blk_lt HCgc; omega
      replace lg88 := Nat.le_trans HB.size lg88
      replace HB := below_step HB hGR
      replace HCgc := HCgc.below hGR
      replace HBX5 := blk_below HBX5 hGR
      clear hGR
      show Code.wp _ _ _ _ _
      refine wp_seq ?_
      refine wp_seq ?_
      refine deedL [.eq 7 (.int .i64 0), .eq 0 (.slice A os.length c), .eq 5 (.pointer (some ⟨g5, 0, none⟩)), .eq 6 (.slice (some ⟨g88, 0, none⟩) 101 101), .w (Below w18.heap.size w18)] 138 [[]] [] [0, 1, 2, 3, 4] hM hN hD (by kernel_rfl) ⟨s0, s5, s6, ⟨Below.refl _ _, below_drew (Below.refl _ _)⟩, trivial⟩ ⟨fun _ _ hb h => below_step h hb, trivial⟩ (fun hgrow => ⟨fun _ _ _ => rv rfl (x_assign rfl rfl) rfl, trivial⟩) ?_
      clear s0 s5 s6
      clear hN hD
      rintro a19 w19 hN hD ⟨s7, s0, s5, s6, hGR, -⟩
      replace HB := below_step HB hGR
      replace HCgc := HCgc.below hGR
      replace HBX5 := blk_below HBX5 hGR
      replace HBX88 := HBX88.below hGR
      clear hGR
      show Code.wp _ _ _ _ _
      refine wp_block ?_
      refine wp_loopN (fun n_ q_ w_ => ∃ (k : Int), (q_.tmps.size = 138) ∧ (q_.defers = []) ∧ (sl q_ 0 = .slice A os.length c) ∧ (sl q_ 5 = .pointer (some ⟨g5, 0, none⟩)) ∧ (sl q_ 6 = .slice (some ⟨g88, 0, none⟩) 101 101) ∧ (sl q_ 7 = .int .i64 k) ∧ (Below w.heap.size w w_) ∧ (IB w_ gc (cnt os) 3) ∧ (w_.heap[g5]? = some (.cells ([.slice (some ⟨gc, 0, none⟩) 16 16]).toArray 41 (0, 0))) ∧ (IB w_ g88 (tf (fun o => sthing o.kind) (os.take k.toNat)) 3) ∧ (0 ≤ k) ∧ (k ≤ os.length) ∧ (∀ j : Int, 0 ≤ j → j < k → causes os (cnt os) (go_ os j) = true ∧ SKind os j) ∧ (n_ = (os.length - k).toNat)) ((fun (k : Int) => (os.length - k).toNat) 0) ?_ ?_
      · exact ⟨0, hN, hD, s0, s5, s6, s7, HB, HCgc, HBX5, HBX88, (by omega), (by omega), (by intro j h0 h1; omega), rfl⟩
      clear s0 s5 s6 s7 HB HCgc HBX5 HBX88 hN hD
      rintro n_20 a20 w20 ⟨k, hN, hD, s0, s5, s6, s7, HB, HCgc, HBX5, HBX88, hk0, hk1, hk, hmeas⟩
      refine wp_seq ?_
      refine wp_seq ?_
      refine deedL [.eq 89 (.int .i64 k), .eq 90 (.slice A os.length c), .eq 91 (.int .i64 (os.length : Int)), .eq 92 (.bool (decide (k < (os.length : Int)))), .eq 0 (.slice A os.length c), .eq 5 (.pointer (some ⟨g5, 0, none⟩)), .eq 6 (.slice (some ⟨g88, 0, none⟩) 101 101), .eq 7 (.int .i64 k), .w (Below w20.heap.size w20)] 138 [[7], [4], [1], [0, 2]] [] [3, 4, 5, 6, 7, 8] hM hN hD (by kernel_rfl) ⟨s0, s5, s6, s7, ⟨Below.refl _ _, below_drew (Below.refl _ _)⟩, trivial⟩ ⟨fun _ _ hb h => below_step h hb, trivial⟩ (fun hgrow => ⟨fun _ _ h => rv rfl (x_move rfl h.1) rfl,
        fun _ _ h => rv rfl (x_move rfl h.1) rfl,
        fun _ _ h => rv rfl (x_len_slice rfl Try.underlying27 h.1) rfl,
        fun _ _ h => rv rfl (x_lss rfl h.1 h.2.1) rfl, trivial⟩) ?_
      clear s0 s5 s6 s7
      clear hN hD
      rintro a21 w21 hN hD ⟨s92, s0, s5, s6, s7, hGR, -⟩
      replace HB := below_step HB hGR
      replace HCgc := HCgc.below hGR
      replace HBX5 := blk_below HBX5 hGR
      replace HBX88 := HBX88.below hGR
      clear hGR
      show Code.wp _ _ _ _ _
      refine wp_cond (t := decide (k < (os.length : Int))) s92 ?_
      rcases Bool.eq_false_or_eq_true (decide (k < (os.length : Int))) with cd22 | cd22
      · rw [cd22]
        show Code.wp _ _ _ _ _
        have pd22 := of_decide_eq_true cd22
        have hk2 := pd22
        refine wp_skip ?_
        show Code.wp _ _ _ _ _
        refine wp_seq ?_
        refine wp_block ?_
        refine wp_seq ?_
        refine wp_seq ?_
        have hf := iOp_fine (hst k hk0 hk2).1
        have hj0 := hf.j0
        have hj1 := hf.j1
        have htl := tf_length (fun o => sthing o.kind) (os.take k.toNat)
        refine deedL [.eq 95 (.slice A os.length c), .eq 96 (.agg #[Value.slice (some ⟨gc, 0, none⟩) 16 16]), .eq 97 (.slice A os.length c), .eq 98 (.int .i64 k), .eq 99 (.pointer (some ((adr A).add (k.toNat * 12)))), .eq 100 (.agg (opc (go_ os k) (D k.toNat) (C k.toNat)).toArray), .eq 101 (.bool (causes os (cnt os) (go_ os k))), .eq 102 (.bool (!(causes os (cnt os) (go_ os k)))), .eq 0 (.slice A os.length c), .eq 5 (.pointer (some ⟨g5, 0, none⟩)), .eq 6 (.slice (some ⟨g88, 0, none⟩) 101 101), .eq 7 (.int .i64 k), .w (Below w21.heap.size w21)] 138 [[8], [9, 12], [8], [11], [2, 3], [4, 12], [0, 1, 5, 12], [6]] [] [7, 8, 9, 10, 11, 12] hM hN hD (by kernel_rfl) ⟨s0, s5, s6, s7, ⟨Below.refl _ _, below_drew (Below.refl _ _)⟩, trivial⟩ ⟨fun _ _ hb h => below_step h hb, trivial⟩ (fun hgrow => ⟨fun _ _ h => rv rfl (x_move rfl h.1) rfl,
          fun _ _ h => rv rfl (x_loadS rfl h.1 Try.underlying41 [.slice (some ⟨gc, 0, none⟩) 16 16] sz41 (blk_list (L := [.slice (some ⟨gc, 0, none⟩) 16 16]) (blk_below HBX5 h.2.1) 0 rfl)) rfl,
          fun _ _ h => rv rfl (x_move rfl h.1) rfl,
          fun _ _ h => rv rfl (x_move rfl h.1) rfl,
          fun _ _ h => rv rfl (x_index_at rfl h.1 h.2.1 Try.underlying27 sz67 (by omega) (by omega) (RO.ad HR k (by omega) (by omega))) rfl,
          fun _ _ h => rv rfl (x_loadS rfl h.1 Try.underlying67 (opc (go_ os k) (D k.toNat) (C k.toNat)) sz67 (RO.cells HR (below_step HB h.2.1) (by omega) (by omega))) rfl,
          fun _ _ h => rc hgrow rfl Try.func85 (by kernel_rfl) rfl rfl (args3 h.1 h.2.1 h.2.2.1) (sCauses_calls A os D C c (some ⟨gc, 0, none⟩) (cnt os) 16 (go_ os k) (D k.toNat) (C k.toNat) _ (RO.below HR (below_step HB h.2.2.2.1)) (IB.RI (HCgc.below h.2.2.2.1)) (RI.below (RO.deps HR (by omega) (by omega)) (below_step HB h.2.2.2.1)) (by omega) (cnt_length os) hf.vec.1 (fun a n u v hn hv => find_ok hst hn (by rwa [gi_cnt hac u v] at hv))) (fun _ _ h => ⟨_, h.1, h.2, rfl⟩),
          fun _ _ h => rv rfl (x_not rfl h.1) rfl, trivial⟩) ?_
        clear s0 s5 s6 s7 s92
        clear hN hD
        rintro a23 w23 hN hD ⟨s102, s0, s5, s6, s7, hGR, -⟩
        replace HB := below_step HB hGR
        replace HCgc := HCgc.below hGR
        replace HBX5 := blk_below HBX5 hGR
        replace HBX88 := HBX88.below hGR
        clear hGR
        show Code.wp _ _ _ _ _
        refine wp_cond (t := !(causes os (cnt os) (go_ os k))) s102 ?_
        rcases Bool.eq_false_or_eq_true (!(causes os (cnt os) (go_ os k))) with cd24 | cd24
        · rw [cd24]
          show Code.wp _ _ _ _ _
          have pd24 := cd24
          simp at pd24
          have hc := cd24
          refine wp_seq ?_
          refine deedL [.eq 2 (.bool false), .w (Below w23.heap.size w23)] 138 [[]] [] [0, 1] hM hN hD (by kernel_rfl) ⟨⟨Below.refl _ _, below_drew (Below.refl _ _)⟩, trivial⟩ ⟨fun _ _ hb h => below_step h hb, trivial⟩ (fun hgrow => ⟨fun _ _ _ => rv rfl (x_assign rfl rfl) rfl, trivial⟩) ?_
          clear s0 s5 s6 s7 s102
          clear hN hD
          rintro a25 w25 hN hD ⟨s2, hGR, -⟩
          replace HB := below_step HB hGR
          replace HCgc := HCgc.below hGR
          replace HBX5 := blk_below HBX5 hGR
          replace HBX88 := HBX88.below hGR
          clear hGR
          show Code.wp _ _ _ _ _
          refine wp_ret (then_ret (blk_ret (then_ret (then_ret (blk_ret (then_ret ?_))))))
          refine bodyPost_ret (results_single rfl (vtmp s2 .nil)) hD ?_
          exact ⟨by rw [sLogOK_false (fun h => by have := (h.2.2 k hk0 hk2).1; simp [this] at hc)], HB⟩
        · rw [cd24]
          show Code.wp _ _ _ _ _
          have pd24 := cd24
          simp at pd24
          have hc : causes os (cnt os) (go_ os k) = true := by have := cd24; simpa using this
          refine wp_skip ?_
          show Code.wp _ _ _ _ _
          refine wp_seq ?_
          refine deedL [.eq 103 (.slice A os.length c), .eq 104 (.int .i64 k), .eq 105 (.pointer (some ((adr A).add (k.toNat * 12)))), .eq 106 (.pointer (some (((adr A).add (k.toNat * 12)).add 4))), .eq 107 (.int .i64 ((go_ os k).kind)), .eq 108 (.int .i64 (sthing ((go_ os k).kind))), .eq 8 (.int .i64 (sthing ((go_ os k).kind))), .eq 0 (.slice A os.length c), .eq 5 (.pointer (some ⟨g5, 0, none⟩)), .eq 6 (.slice (some ⟨g88, 0, none⟩) 101 101), .eq 7 (.int .i64 k), .w (Below w23.heap.size w23)] 138 [[7], [10], [0, 1], [2], [3, 11], [4], [5]] [] [6, 7, 8, 9, 10, 11] hM hN hD (by kernel_rfl) ⟨s0, s5, s6, s7, ⟨Below.refl _ _, below_drew (Below.refl _ _)⟩, trivial⟩ ⟨fun _ _ hb h => below_step h hb, trivial⟩ (fun hgrow => ⟨fun _ _ h => rv rfl (x_move rfl h.1) rfl,
            fun _ _ h => rv rfl (x_move rfl h.1) rfl,
            fun _ _ h => rv rfl (x_index_at rfl h.1 h.2.1 Try.underlying27 sz67 (by omega) (by omega) (RO.ad HR k (by omega) (by omega))) rfl,
            fun _ _ h => rv rfl (x_field rfl h.1 Try.underlying67 rfl sz3 (by decide) rfl) rfl,
            fun _ _ h => rv rfl (x_load1 rfl h.1 Try.underlying3 rfl (RO.cell HR (below_step HB h.2.1) (by omega) (by omega) (j := 4) rfl)) rfl,
            fun _ _ h => rc hgrow rfl Try.func91 (by kernel_rfl) rfl rfl (args1 h.1) (sThing_calls ((go_ os k).kind) _) (fun _ _ h => ⟨_, h.1, h.2, rfl⟩),
            fun _ _ h => rv rfl (x_assign rfl h.1) rfl, trivial⟩) ?_
          clear s0 s5 s6 s7 s102
          clear hN hD
          rintro a26 w26 hN hD ⟨s8, s0, s5, s6, s7, hGR, -⟩
          replace HB := below_step HB hGR
          replace HCgc := HCgc.below hGR
          replace HBX5 := blk_below HBX5 hGR
          replace HBX88 := HBX88.below hGR
          clear hGR
          show Code.wp _ _ _ _ _
          refine wp_seq ?_
          refine wp_seq ?_
          refine deedL (.eq 109 (.slice (some ⟨g88, 0, none⟩) 101 101) :: .eq 110 (.slice A os.length c) :: .eq 111 (.int .i64 k) :: .eq 112 (.pointer (some ((adr A).add (k.toNat * 12)))) :: .eq 113 (.pointer (some (((adr A).add (k.toNat * 12)).add 5))) :: .eq 114 (.int .i64 ((go_ os k).obj)) :: .eq 115 (.pointer (some ⟨g88, ((go_ os k).obj).toNat, none⟩)) :: (.eq 116 (.int .i64 (gi (tf (fun o => sthing o.kind) (os.take k.toNat)) ((go_ os k).obj)))) :: (.eq 117 (.bool ((gi (tf (fun o => sthing o.kind) (os.take k.toNat)) ((go_ os k).obj)) != 0))) :: (.eq 118 (.bool ((gi (tf (fun o => sthing o.kind) (os.take k.toNat)) ((go_ os k).obj)) != 0))) :: (.gv ((((gi (tf (fun o => sthing o.kind) (os.take k.toNat)) ((go_ os k).obj)) != 0) == true)) 119 (.slice (some ⟨g88, 0, none⟩) 101 101)) :: (.gv ((((gi (tf (fun o => sthing o.kind) (os.take k.toNat)) ((go_ os k).obj)) != 0) == true)) 120 (.slice A os.length c)) :: (.gv ((((gi (tf (fun o => sthing o.kind) (os.take k.toNat)) ((go_ os k).obj)) != 0) == true)) 121 (.int .i64 k)) :: (.gv ((((gi (tf (fun o => sthing o.kind) (os.take k.toNat)) ((go_ os k).obj)) != 0) == true)) 122 (.pointer (some ((adr A).add (k.toNat * 12))))) :: (.gv ((((gi (tf (fun o => sthing o.kind) (os.take k.toNat)) ((go_ os k).obj)) != 0) == true)) 123 (.pointer (some (((adr A).add (k.toNat * 12)).add 5)))) :: (.gv ((((gi (tf (fun o => sthing o.kind) (os.take k.toNat)) ((go_ os k).obj)) != 0) == true)) 124 (.int .i64 ((go_ os k).obj))) :: (.gv ((((gi (tf (fun o => sthing o.kind) (os.take k.toNat)) ((go_ os k).obj)) != 0) == true)) 125 (.pointer (some ⟨g88, ((go_ os k).obj).toNat, none⟩))) :: (.gv ((((gi (tf (fun o => sthing o.kind) (os.take k.toNat)) ((go_ os k).obj)) != 0) == true)) 126 (.int .i64 (gi (tf (fun o => sthing o.kind) (os.take k.toNat)) ((go_ os k).obj)))) :: (.gv ((((gi (tf (fun o => sthing o.kind) (os.take k.toNat)) ((go_ os k).obj)) != 0) == true)) 127 (.int .i64 (sthing ((go_ os k).kind)))) :: (.gv ((((gi (tf (fun o => sthing o.kind) (os.take k.toNat)) ((go_ os k).obj)) != 0) == true)) 128 (.bool ((gi (tf (fun o => sthing o.kind) (os.take k.toNat)) ((go_ os k).obj)) != (sthing ((go_ os k).kind))))) :: (.eq 129 (.bool (((gi (tf (fun o => sthing o.kind) (os.take k.toNat)) ((go_ os k).obj)) != 0) && ((gi (tf (fun o => sthing o.kind) (os.take k.toNat)) ((go_ os k).obj)) != (sthing ((go_ os k).kind)))))) :: .eq 0 (.slice A os.length c) :: .eq 5 (.pointer (some ⟨g5, 0, none⟩)) :: .eq 6 (.slice (some ⟨g88, 0, none⟩) 101 101) :: .eq 7 (.int .i64 k) :: .eq 8 (.int .i64 (sthing ((go_ os k).kind))) :: .w (Below w26.heap.size w26) :: []) 138 ([23] :: [21] :: [24] :: [1, 2] :: [3] :: [4, 26] :: [0, 5] :: [6, 26] :: [7] :: [8] :: [9, 23] :: [9, 21] :: [9, 24] :: [9, 11, 12] :: [9, 13] :: [9, 14, 26] :: [9, 10, 15] :: [9, 16, 26] :: [9, 25] :: [9, 17, 18] :: [9, 19] :: []) [] [20, 21, 22, 23, 24, 25, 26] hM hN hD (by kernel_rfl) ⟨s0, s5, s6, s7, s8, ⟨Below.refl _ _, below_drew (Below.refl _ _)⟩, trivial⟩ ⟨fun _ _ hb h => below_step h hb, trivial⟩ (fun hgrow => ⟨fun _ _ h => rv rfl (x_move rfl h.1) rfl,
            fun _ _ h => rv rfl (x_move rfl h.1) rfl,
            fun _ _ h => rv rfl (x_move rfl h.1) rfl,
            fun _ _ h => rv rfl (x_index_at rfl h.1 h.2.1 Try.underlying27 sz67 (by omega) (by omega) (RO.ad HR k (by omega) (by omega))) rfl,
            fun _ _ h => rv rfl (x_field rfl h.1 Try.underlying67 rfl sz3 (by decide) rfl) rfl,
            fun _ _ h => rv rfl (x_load1 rfl h.1 Try.underlying3 rfl (RO.cell HR (below_step HB h.2.1) (by omega) (by omega) (j := 5) rfl)) rfl,
            fun _ _ h => rv rfl (x_index_slice rfl h.1 h.2.1 Try.underlying24 sz3 (by omega) (by omega) (ptr1 _ _)) rfl,
            fun _ _ h => rv rfl (x_load1 rfl h.1 Try.underlying3 rfl (IB.at_ (HBX88.below h.2.1) (by omega) (by omega))) rfl,
            fun _ _ h => rv rfl (x_neq rfl h.1 rfl) rfl,
            fun _ _ h => rv rfl (x_move rfl h.1) rfl,
            fun _ _ h => rb rfl rfl h.1 (fun hgt => x_move rfl h.2.1) (fun _ z => z),
            fun _ _ h => rb rfl rfl h.1 (fun hgt => x_move rfl h.2.1) (fun _ z => z),
            fun _ _ h => rb rfl rfl h.1 (fun hgt => x_move rfl h.2.1) (fun _ z => z),
            fun _ _ h => rb rfl rfl h.1 (fun hgt => x_index_at rfl (h.2.1.1 hgt) (h.2.2.1.1 hgt) Try.underlying27 sz67 (by simp at hgt; omega) (by simp at hgt; omega) (RO.ad HR k (by simp at hgt; omega) (by simp at hgt; omega))) (fun _ z => z),
            fun _ _ h => rb rfl rfl h.1 (fun hgt => x_field rfl (h.2.1.1 hgt) Try.underlying67 rfl sz3 (by decide) rfl) (fun _ z => z),
            fun _ _ h => rb rfl rfl h.1 (fun hgt => x_load1 rfl (h.2.1.1 hgt) Try.underlying3 rfl (RO.cell HR (below_step HB h.2.2.1) (by simp at hgt; omega) (by simp at hgt; omega) (j := 5) rfl)) (fun _ z => z),
            fun _ _ h => rb rfl rfl h.1 (fun hgt => x_index_slice rfl (h.2.1.1 hgt) (h.2.2.1.1 hgt) Try.underlying24 sz3 (by simp at hgt; omega) (by simp at hgt; omega) (ptr1 _ _)) (fun _ z => z),
            fun _ _ h => rb rfl rfl h.1 (fun hgt => x_load1 rfl (h.2.1.1 hgt) Try.underlying3 rfl (IB.at_ (HBX88.below h.2.2.1) (by simp at hgt; omega) (by simp at hgt; omega))) (fun _ z => z),
            fun _ _ h => rb rfl rfl h.1 (fun hgt => x_move rfl h.2.1) (fun _ z => z),
            fun _ _ h => rb rfl rfl h.1 (fun hgt => x_neq rfl (h.2.1.1 hgt) (h.2.2.1.1 hgt)) (fun _ z => z),
            fun _ _ h => rv rfl (x_and rfl rfl h.1 (fun hc => h.2.1.1 (beq_iff_eq.2 hc))) rfl, trivial⟩) ?_
          clear s0 s5 s6 s7 s8
          clear hN hD
          rintro a27 w27 hN hD ⟨s129, s0, s5, s6, s7, s8, hGR, -⟩
          replace HB := below_step HB hGR
          replace HCgc := HCgc.below hGR
          replace HBX5 := blk_below HBX5 hGR
          replace HBX88 := HBX88.below hGR
          clear hGR
          show Code.wp _ _ _ _ _
          refine wp_cond (t := ((gi (tf (fun o => sthing o.kind) (os.take k.toNat)) ((go_ os k).obj)) != 0) && ((gi (tf (fun o => sthing o.kind) (os.take k.toNat)) ((go_ os k).obj)) != (sthing ((go_ os k).kind)))) s129 ?_
          rcases Bool.eq_false_or_eq_true (((gi (tf (fun o => sthing o.kind) (os.take k.toNat)) ((go_ os k).obj)) != 0) && ((gi (tf (fun o => sthing o.kind) (os.take k.toNat)) ((go_ os k).obj)) != (sthing ((go_ os k).kind)))) with cd28 | cd28
          · rw [cd28]
            show Code.wp _ _ _ _ _
            have hs := cd28
            refine wp_seq ?_
            refine deedL [.eq 2 (.bool false), .w (Below w27.heap.size w27)] 138 [[]] [] [0, 1] hM hN hD (by kernel_rfl) ⟨⟨Below.refl _ _, below_drew (Below.refl _ _)⟩, trivial⟩ ⟨fun _ _ hb h => below_step h hb, trivial⟩ (fun hgrow => ⟨fun _ _ _ => rv rfl (x_assign rfl rfl) rfl, trivial⟩) ?_
            clear s0 s5 s6 s7 s8 s129
            clear hN hD
            rintro a29 w29 hN hD ⟨s2, hGR, -⟩
            replace HB := below_step HB hGR
            replace HCgc := HCgc.below hGR
            replace HBX5 := blk_below HBX5 hGR
            replace HBX88 := HBX88.below hGR
            clear hGR
            show Code.wp _ _ _ _ _
            refine wp_ret (then_ret (blk_ret (then_ret (then_ret (blk_ret (then_ret ?_))))))
            refine bodyPost_ret (results_single rfl (vtmp s2 .nil)) hD ?_
            exact ⟨by rw [sLogOK_false (fun h => by have := (h.2.2 k hk0 hk2).2; simp at hs; exact this hs)], HB⟩
          · rw [cd28]
            show Code.wp _ _ _ _ _
            have hs : SKind os k := by have := cd28; simp at this; intro h; exact h.2 (this h.1)
            refine wp_skip ?_
            show Code.wp _ _ _ _ _
            refine deedL (.eq 130 (.slice (some ⟨g88, 0, none⟩) 101 101) :: .eq 131 (.slice A os.length c) :: .eq 132 (.int .i64 k) :: .eq 133 (.pointer (some ((adr A).add (k.toNat * 12)))) :: .eq 134 (.pointer (some (((adr A).add (k.toNat * 12)).add 5))) :: .eq 135 (.int .i64 ((go_ os k).obj)) :: .eq 136 (.int .i64 (sthing ((go_ os k).kind))) :: .eq 137 (.pointer (some ⟨g88, ((go_ os k).obj).toNat, none⟩)) :: (.w fun W => IB W g88 (si (tf (fun o => sthing o.kind) (os.take k.toNat)) ((go_ os k).obj) (sthing ((go_ os k).kind))) 3) :: .eq 0 (.slice A os.length c) :: .eq 5 (.pointer (some ⟨g5, 0, none⟩)) :: .eq 6 (.slice (some ⟨g88, 0, none⟩) 101 101) :: .eq 7 (.int .i64 k) :: .eq 8 (.int .i64 (sthing ((go_ os k).kind))) :: (.w (Kx (fun k => k = g88) w27)) :: (.w fun W => IB W g88 (tf (fun o => sthing o.kind) (os.take k.toNat)) 3) :: []) 138 [[11], [9], [12], [1, 2], [3], [4, 14], [13], [0, 5], [7, 6, 15]] [[], [], [], [], [], [], [], [], [15]] [8, 9, 10, 11, 12, 13, 14] hM hN hD (by kernel_rfl) ⟨s0, s5, s6, s7, s8, ⟨Kx.refl _ _, Kx.drew _ _⟩, ⟨HBX88, HBX88.below (below_drew (Below.refl _ _))⟩, trivial⟩ ⟨fun _ _ hb h => h.below hb, fun _ _ hb h => h.step hb, fun _ _ hb h => h.below hb, trivial⟩ (fun hgrow => ⟨fun _ _ h => rv rfl (x_move rfl h.1) rfl,
              fun _ _ h => rv rfl (x_move rfl h.1) rfl,
              fun _ _ h => rv rfl (x_move rfl h.1) rfl,
              fun _ _ h => rv rfl (x_index_at rfl h.1 h.2.1 Try.underlying27 sz67 (by omega) (by omega) (RO.ad HR k (by omega) (by omega))) rfl,
              fun _ _ h => rv rfl (x_field rfl h.1 Try.underlying67 rfl sz3 (by decide) rfl) rfl,
              fun _ _ h => rv rfl (x_load1 rfl h.1 Try.underlying3 rfl (RO.cell HR (Kx.below HB h.2.1 HB.size (fun k e => by subst e; exact lg88)) (by omega) (by omega) (j := 5) rfl)) rfl,
              fun _ _ h => rv rfl (x_move rfl h.1) rfl,
              fun _ _ h => rv rfl (x_index_slice rfl h.1 h.2.1 Try.underlying24 sz3 (by omega) (by omega) (ptr1 _ _)) rfl,
              ?_, trivial⟩) ?_
            · rintro a_ W ⟨h7, h6, h15, -⟩
              exact rstoreI rfl rfl h7 h6 sz3 h15 (by omega) (by omega) (IB.set h15 _ _) ⟨fun h => h.set rfl _ _, trivial⟩
            clear s0 s5 s6 s7 s8 s129
            clear hN hD
            rintro a30 w30 hN hD ⟨MBX88, s0, s5, s6, s7, s8, hGR, -⟩
            have NB := Kx.below HB hGR HB.size (fun k e => by subst e; exact lg88)
            have NCgc : IB w30 gc (cnt os) 3 := blk_kx HCgc hGR (fun e => n_gc_g88 e)
            have NBX5 := blk_kx HBX5 hGR (fun e => (blk_neT HBX5 HBX88 rfl) e)
            replace HB := NB
            replace HCgc := NCgc
            replace HBX5 := NBX5
            clear NB NCgc NBX5
            replace HBX88 := MBX88
            clear MBX88
            clear hGR
            show Code.wp _ _ _ _ _
            refine deedL [.eq 93 (.int .i64 k), .eq 94 (.int .i64 (k + 1)), .eq 7 (.int .i64 (k + 1)), .eq 0 (.slice A os.length c), .eq 5 (.pointer (some ⟨g5, 0, none⟩)), .eq 6 (.slice (some ⟨g88, 0, none⟩) 101 101), .eq 7 (.int .i64 k), .w (Below w30.heap.size w30)] 138 [[6], [0], [1]] [[], [], [6]] [2, 3, 4, 5, 7] hM hN hD (by kernel_rfl) ⟨s0, s5, s6, s7, ⟨Below.refl _ _, below_drew (Below.refl _ _)⟩, trivial⟩ ⟨fun _ _ hb h => below_step h hb, trivial⟩ (fun hgrow => ⟨fun _ _ h => rv rfl (x_move rfl h.1) rfl,
              fun _ _ h => rv rfl (x_add' rfl h.1 rfl (by omega)) rfl,
              fun _ _ h => rv rfl (x_assign rfl h.1) rfl, trivial⟩) ?_
            clear s0 s5 s6 s7 s8
            clear hN hD
            rintro a31 w31 hN hD ⟨s7, s0, s5, s6, hGR, -⟩
            replace HB := below_step HB hGR
            replace HCgc := HCgc.below hGR
            replace HBX5 := blk_below HBX5 hGR
            replace HBX88 := HBX88.below hGR
            clear hGR
            show ∃ m, m < n_20 ∧ _
            exact ⟨_, (by omega), ⟨(k + 1), hN, hD, s0, s5, s6, s7, HB, HCgc, HBX5, (by rw [take_snoc hk0 hk2, tf_snoc]; exact HBX88), (by omega), (by omega), (by intro j h0 h1; by_cases e : j = k; (subst e; exact ⟨hc, hs⟩); exact hk j h0 (by omega)), rfl⟩⟩
      · rw [cd22]
        show Code.wp _ _ _ _ _
        have pd22 := of_decide_eq_false cd22
        refine wp_exit (then_exit (then_exit (at_exit ?_)))
        show Code.wp _ _ _ _ _
        refine wp_seq ?_
        refine deedL [.eq 2 (.bool true), .w (Below w21.heap.size w21)] 138 [[]] [] [0, 1] hM hN hD (by kernel_rfl) ⟨⟨Below.refl _ _, below_drew (Below.refl _ _)⟩, trivial⟩ ⟨fun _ _ hb h => below_step h hb, trivial⟩ (fun hgrow => ⟨fun _ _ _ => rv rfl (x_assign rfl rfl) rfl, trivial⟩) ?_
        clear s0 s5 s6 s7 s92
        clear hN hD
        rintro a32 w32 hN hD ⟨s2, hGR, -⟩
        replace HB := below_step HB hGR
        replace HCgc := HCgc.below hGR
        replace HBX5 := blk_below HBX5 hGR
        replace HBX88 := HBX88.below hGR
        clear hGR
        show Code.wp _ _ _ _ _
        refine wp_ret ?_
        refine bodyPost_ret (results_single rfl (vtmp s2 .nil)) hD ?_
        exact ⟨by rw [sLogOK_true ⟨by omega, hst, fun j h0 h1 => hk j h0 (by omega)⟩], HB⟩
end Go.Proofs.Ytideafkiaipnoaa.Q

/- Functions walked. -/
namespace Go.Proofs.Ytideafkiaipnoaa.Q
open Go Go.RowKit Go.Proofs.YtideafkiaipnoaaW.PrintWords Go.Proofs.YtideafkiaipnoaaW.PrintLast Go.Proofs.Ytideafkiaipnoaa.Deed
set_option maxRecDepth 100000
set_option linter.unusedVariables false
set_option linter.unusedSimpArgs false
/-- The numbers below n that p picks. -/
def upto (p : Int → Bool) : Nat → List Int
  | 0 => []
  | n + 1 => upto p n ++ (if p n then [(n : Int)] else [])
end Go.Proofs.Ytideafkiaipnoaa.Q

/- Functions walked. -/
namespace Go.Proofs.Ytideafkiaipnoaa.Q
open Go Go.RowKit Go.Proofs.YtideafkiaipnoaaW.PrintWords Go.Proofs.YtideafkiaipnoaaW.PrintLast Go.Proofs.Ytideafkiaipnoaa.Deed
set_option maxRecDepth 100000
set_option linter.unusedVariables false
set_option linter.unusedSimpArgs false
theorem bkstep {p : Prop} {w W W' : World} {pv : Value} {B : Bk} (h : p → ∃ w9 g vs, pv = .pointer (some ⟨g, 0, none⟩) ∧ Below w.heap.size w w9 ∧ BookAt w9 (okW w9 W) W g vs B) (hb : Below W.heap.size W W') : p → ∃ w9 g vs, pv = .pointer (some ⟨g, 0, none⟩) ∧ Below w.heap.size w w9 ∧ BookAt w9 (okW w9 W') W' g vs B := by
  intro hp
  obtain ⟨w9, g, vs, u1, u2, u3⟩ := h hp
  exact ⟨w9, g, vs, u1, u2, u3.stepW hb⟩
end Go.Proofs.Ytideafkiaipnoaa.Q

/- Both readings of a log say the same; so do both lists of its objects. -/
namespace Go.Proofs.Ytideafkiaipnoaa.Q
set_option linter.unusedVariables false
set_option linter.unusedSimpArgs false
open Go
theorem iBad_iff {os : List Op} {i : Int} : iBad os i = false ↔ iOp (go_ os i) = true ∧ (0 < i → (go_ os (i - 1)).actor ≤ (go_ os i).actor) ∧ (go_ os i).seq = num (os.take i.toNat) (go_ os i).actor + 1 := by
  unfold iBad
  simp [and_assoc]
theorem sBad_of {os : List Op} {i : Int} (hf : i = 0 ∨ (go_ os (i - 1)).actor ≠ (go_ os i).actor) (hq : (go_ os i).seq = 1) (hle : 0 < i → (go_ os (i - 1)).actor ≤ (go_ os i).actor) : sBad os i = false := by
  have h1 : ((i == 0) || ((go_ os i).actor != (go_ os (i - 1)).actor)) = true := by
    rcases hf with e | e
    · simp [e]
    · simp; exact .inr (fun h => e h.symm)
  unfold sBad
  rw [h1, hq]
  simpa using hle
theorem sBad_next {os : List Op} {i : Int} (h0 : i ≠ 0) (he : (go_ os (i - 1)).actor = (go_ os i).actor) (hq : (go_ os i).seq = (go_ os (i - 1)).seq + 1) : sBad os i = false := by
  unfold sBad
  rw [hq, he]
  simp [h0]
theorem sBad_first' {os : List Op} {i : Int} (hf : i = 0 ∨ (go_ os (i - 1)).actor ≠ (go_ os i).actor) (h : sBad os i = false) : (go_ os i).seq = 1 := by
  have h1 : ((i == 0) || ((go_ os i).actor != (go_ os (i - 1)).actor)) = true := by
    rcases hf with e | e
    · simp [e]
    · simp; exact .inr (fun h => e h.symm)
  unfold sBad at h
  rw [h1] at h
  simp at h
  exact h.1
theorem sBad_next' {os : List Op} {i : Int} (h0 : i ≠ 0) (he : (go_ os (i - 1)).actor = (go_ os i).actor) (h : sBad os i = false) : (go_ os i).seq = (go_ os (i - 1)).seq + 1 := by
  unfold sBad at h
  rw [he] at h
  simpa [h0] using h
theorem steps_of {os : List Op} (h : ∀ i : Int, 0 ≤ i → i < os.length → iBad os i = false) : Steps os := by
  have hs : Sorted os := fun i u v => (iBad_iff.1 (h i (by omega) v)).2.1 u
  intro i u v
  obtain ⟨h1, h2, h3⟩ := iBad_iff.1 (h i u v)
  refine ⟨h1, ?_⟩
  by_cases hf : i = 0 ∨ (go_ os (i - 1)).actor ≠ (go_ os i).actor
  · have hn := num_first hs u v hf
    exact sBad_of hf (by omega) h2
  · have e1 : i ≠ 0 := fun e => hf (.inl e)
    have e2 : (go_ os (i - 1)).actor = (go_ os i).actor := Decidable.byContradiction fun e => hf (.inr e)
    have hn := num_next (by omega) v e2
    have h5 := (iBad_iff.1 (h (i - 1) (by omega) (by omega))).2.2
    exact sBad_next e1 e2 (by omega)
theorem Steps.counted {os : List Op} (h : Steps os) : Counted os := by
  have hs := h.sorted
  have key : ∀ k : Nat, ∀ i : Int, i.toNat = k → 0 ≤ i → i < os.length → (go_ os i).seq = num (os.take i.toNat) (go_ os i).actor + 1 := by
    intro k
    induction k with
    | zero =>
      intro i e u v
      have hf : i = 0 ∨ (go_ os (i - 1)).actor ≠ (go_ os i).actor := .inl (by omega)
      have h1 := sBad_first' hf (h i u v).2
      have h2 := num_first hs u v hf
      omega
    | succ k ih =>
      intro i e u v
      by_cases hf : i = 0 ∨ (go_ os (i - 1)).actor ≠ (go_ os i).actor
      · have h1 := sBad_first' hf (h i u v).2
        have h2 := num_first hs u v hf
        omega
      · have e1 : i ≠ 0 := fun e => hf (.inl e)
        have e2 : (go_ os (i - 1)).actor = (go_ os i).actor := Decidable.byContradiction fun e => hf (.inr e)
        have hn := num_next (by omega) v e2
        have h1 := sBad_next' e1 e2 (h i u v).2
        have h2 := ih (i - 1) (by omega) (by omega) (by omega)
        omega
  exact fun i u v => key _ i rfl u v
theorem steps_iff {os : List Op} : Steps os ↔ ∀ i : Int, 0 ≤ i → i < os.length → iBad os i = false :=
  ⟨fun h i u v => iBad_iff.2 ⟨(h i u v).1, fun hi => h.sorted i hi v, h.counted i u v⟩, steps_of⟩
/-! ### Kinds -/
def phi (x : Int) : Int := if x = 4 then 3 else x
theorem sthing_phi {o : Op} (h : o.kind = 1 ∨ o.kind = 2 ∨ o.kind = 3 ∨ o.kind = 4) : sthing o.kind = phi (thing o) ∧ (thing o = 1 ∨ thing o = 2 ∨ thing o = 4) := by
  rcases h with e | e | e | e <;> (simp only [sthing, thing, phi, e]; decide)
theorem tf_phi (os : List Op) (h : ∀ o ∈ os, (o.kind = 1 ∨ o.kind = 2 ∨ o.kind = 3 ∨ o.kind = 4) ∧ 0 ≤ o.obj ∧ o.obj < 101) {j : Int} (h0 : 0 ≤ j) : gi (tf (fun o => sthing o.kind) os) j = phi (gi (tf thing os) j) ∧ (gi (tf thing os) j = 0 ∨ gi (tf thing os) j = 1 ∨ gi (tf thing os) j = 2 ∨ gi (tf thing os) j = 4) := by
  induction os using rev_ind with
  | h0 =>
    have e : gi (tf thing []) j = 0 := gi_rep 101 j
    have e2 : gi (tf (fun o => sthing o.kind) []) j = 0 := gi_rep 101 j
    rw [e, e2]
    exact ⟨rfl, .inl rfl⟩
  | h1 l x ih =>
    have ih' := ih (fun o ho => h o (by simp [ho]))
    obtain ⟨hk, hj0, hj1⟩ := h x (by simp)
    obtain ⟨p1, p2⟩ := sthing_phi hk
    rw [tf_snoc, tf_snoc, gi_si hj0 (by rw [tf_length]; omega) h0, gi_si hj0 (by rw [tf_length]; omega) h0]
    by_cases e : j = x.obj
    · rw [if_pos e, if_pos e]
      exact ⟨p1, .inr p2⟩
    · rw [if_neg e, if_neg e]
      exact ih'
theorem skind_iff {os : List Op} (h : ∀ i : Int, 0 ≤ i → i < os.length → iOp (go_ os i) = true) {i : Int} (h0 : 0 ≤ i) (h1 : i < os.length) : SKind os i ↔ iKindBad os i = false := by
  have hf := iOp_fine (h i h0 h1)
  have hm : ∀ o ∈ os.take i.toNat, (o.kind = 1 ∨ o.kind = 2 ∨ o.kind = 3 ∨ o.kind = 4) ∧ 0 ≤ o.obj ∧ o.obj < 101 := by
    intro o ho
    obtain ⟨j, u, v, w, e⟩ := take_mem ho
    have := iOp_fine (h j u w)
    rw [e] at this
    exact ⟨this.kinds, by have := this.j0; omega, by have := this.j1; omega⟩
  obtain ⟨p1, p2⟩ := tf_phi (os.take i.toNat) hm (j := (go_ os i).obj) (by have := hf.j0; omega)
  obtain ⟨q1, q2⟩ := sthing_phi hf.kinds
  unfold SKind iKindBad
  rw [p1, q1]
  generalize gi (tf thing (os.take i.toNat)) (go_ os i).obj = x at *
  generalize thing (go_ os i) = y at *
  rcases p2 with e | e | e | e <;> rcases q2 with f | f | f <;> subst e <;> subst f <;> decide
/-! ### Causes -/
theorem causes_dep {os : List Op} (h : Steps os) {k : Int} : Causes os (cnt os) (go_ os k) ↔ ∀ b : Int, 0 ≤ b → b < 16 → depBad os k b = false := by
  have ha : Actors os := Steps.actors fun i u v => (h i u v).1
  have one : ∀ b : Int, 0 ≤ b → b < 16 → ((gi (go_ os k).deps b ≤ gi (cnt os) b ∧ (0 < gi (go_ os k).deps b → lessT (go_ os (find os b (gi (go_ os k).deps b))).time (go_ os (find os b (gi (go_ os k).deps b))).actor (go_ os k).time (go_ os k).actor = true)) ↔ depBad os k b = false) := by
    intro b u v
    rw [gi_cnt ha u v]
    unfold depBad
    simp only [less_lessT, Bool.or_eq_false_iff, Bool.and_eq_false_imp, decide_eq_false_iff_not, decide_eq_true_eq, Bool.not_eq_false', Int.not_lt]
    constructor
    · rintro ⟨h1, h2⟩
      refine ⟨h1, fun h3 => ?_⟩
      rw [← (find_onth h.sorted h3 h1).2.2]
      exact h2 h3
    · rintro ⟨h1, h2⟩
      refine ⟨h1, fun h3 => ?_⟩
      rw [(find_onth h.sorted h3 h1).2.2]
      exact h2 h3
  exact ⟨fun hc b u v => (one b u v).1 (hc b u v), fun hd b u v => (one b u v).2 (hd b u v)⟩
theorem slog_ilog {os : List Op} : SLog os ↔ ILog os := by
  constructor
  · rintro ⟨h1, h2, h3⟩
    have hi := steps_iff.1 h2
    refine ⟨h1, fun i u v => ⟨hi i u v, (skind_iff (fun i u v => (h2 i u v).1) u v).1 (h3 i u v).2⟩, fun k b u v p q => (causes_dep h2).1 (causes_iff.1 (h3 k u v).1) b p q⟩
  · rintro ⟨h1, h2, h3⟩
    have hs := steps_of fun i u v => (h2 i u v).1
    exact ⟨h1, hs, fun i u v => ⟨causes_iff.2 ((causes_dep hs).2 fun b p q => h3 i b u v p q), (skind_iff (fun i u v => (hs i u v).1) u v).2 (h2 i u v).2⟩⟩
theorem log_same (os : List Op) : sLogOK os = iLogOK os := by
  rw [Bool.eq_iff_iff, sLogOK_iff, iLogOK_iff]
  exact slog_ilog
end Go.Proofs.Ytideafkiaipnoaa.Q

