/- The book's put. -/
import Derived.Test.YtideafkiaipnoaaSmall
namespace Go.Proofs.Ytideafkiaipnoaa.Q
open Go Go.RowKit Go.Proofs.YtideafkiaipnoaaW.PrintWords Go.Proofs.YtideafkiaipnoaaW.PrintLast Go.Proofs.Ytideafkiaipnoaa.Deed
set_option maxRecDepth 100000
def Bk.put (B : Bk) (x : LO) : Bk :=
  { of := B.of.set x.o.actor.toNat (B.of.getD x.o.actor.toNat [] ++ [x]), kind := B.kind.set x.o.obj.toNat (thing x.o), size := B.size + 1, top := if less B.top (stampOf x.o) then stampOf x.o else B.top }
set_option maxHeartbeats 4000000 in
theorem put_calls (w0 w : World) (ok : Nat → Prop) (g : Nat) (vs : List Value) (B : Bk) (x : LO) (HK : LoIn w0 x (opc x.o x.A x.c))
    (HBK : BookAt w0 ok w g vs B) (hok2 : ∀ k, ok k → k < w.heap.size)
    (ha0 : 0 ≤ x.o.actor) (ha1 : x.o.actor < 16) (hj0 : 0 ≤ x.o.obj) (hj1 : x.o.obj < 101) (hl : ∀ i, (B.of.getD i []).length ≤ 1024) (hs0 : 0 ≤ B.size) (hs1 : B.size ≤ 4096) :
    Calls Try.prog 90 #[.pointer (some ⟨g, 0, none⟩), .agg (opc x.o x.A x.c).toArray] w
      fun e w' => e = .returned (.tuple #[]) ∧ (∃ vs', BookAt w0 (fun k => ok k ∨ w.heap.size ≤ k) w' g vs' (B.put x)) ∧ Kx ok w w' := by
  have hokg := HBK.okg
  refine calls_of_wp Try.func90 rfl ?_
  refine enter_ (N := 47) rfl ?_
  rintro a0 hN hD ⟨s0, s1, -⟩
  have HB : Below w.heap.size w w := Below.refl _ _
  have HKP : Kx ok w w := Kx.refl _ _
  refine wp_seq ?_
  refine deedL [.s1 3 (NewB w.heap.size (opc x.o x.A x.c) 67), .eq 0 (.pointer (some ⟨g, 0, none⟩)), .eq 1 (.agg (opc x.o x.A x.c).toArray), .w (Below w.heap.size w)] 47 [[3, 2]] [] [0, 1, 2, 3] hM hN hD (by kernel_rfl) ⟨s0, s1, ⟨Below.refl _ _, below_drew (Below.refl _ _)⟩, trivial⟩ ⟨fun _ _ _ hb h => h.grow hb, fun _ _ hb h => below_step h hb, trivial⟩ (fun hgrow => ⟨fun _ _ h => rbox hgrow rfl (x_box rfl h.2.1) h.1.size (fun _ _ z => z), trivial⟩) ?_
  clear s0 s1
  clear hN hD
  rintro a1 w1 hN hD ⟨⟨g3, s3, lg3, HBX⟩, s0, s1, hGR, -⟩
  replace HB := below_step HB hGR
  replace HKP := HKP.step hGR
  replace HBK := HBK.below hGR
  clear hGR
  show Code.wp _ _ _ _ _
  refine wp_seq ?_
  refine deedL (.eq 4 (.pointer (some ⟨g, 0, none⟩)) :: .eq 5 (.pointer (some ⟨g3, 0, none⟩)) :: .eq 6 (.int .i64 x.o.actor) :: .eq 7 (.pointer (some ⟨g, 0, none⟩)) :: .eq 8 (.pointer (some ⟨g3, 0, none⟩)) :: .eq 9 (.int .i64 x.o.actor) :: .eq 10 (.pointer (some ⟨g, 0, none⟩)) :: .eq 11 (.pointer (some ⟨g, 0, none⟩)) :: .eq 12 (.pointer (some ⟨g, x.o.actor.toNat, none⟩)) :: .eq 13 (vs.getD x.o.actor.toNat undef) :: .eq 14 (.agg (opc x.o x.A x.c).toArray) :: (.s1 15 fun y_ W => ∃ gb, y_ = .slice (some ⟨gb, 0, none⟩) 1 1 ∧ W.heap[gb]? = some (.cells (opc x.o x.A x.c).toArray 67 (0, 0))) :: (.s1 16 fun y_ W => Mid w0 (fun k => ok k ∨ w.heap.size ≤ k) W g vs B x.o.actor.toNat y_ (B.of.getD x.o.actor.toNat [] ++ [x]) ∧ Kx ok w1 W) :: .eq 17 (.pointer (some ⟨g, 0, none⟩)) :: .eq 18 (.pointer (some ⟨g, 0, none⟩)) :: .eq 19 (.pointer (some ⟨g, x.o.actor.toNat, none⟩)) :: (.w fun W => (∃ vs', BookAt w0 (fun k => ok k ∨ w.heap.size ≤ k) W g vs' { B with of := B.of.set x.o.actor.toNat (B.of.getD x.o.actor.toNat [] ++ [x]) }) ∧ Kx ok w1 W) :: .eq 0 (.pointer (some ⟨g, 0, none⟩)) :: .eq 3 (.pointer (some ⟨g3, 0, none⟩)) :: .w (Below w1.heap.size w1) :: (.w fun W => W.heap[g3]? = some (.cells (opc x.o x.A x.c).toArray 67 (0, 0))) :: []) 47 ([17] :: [18] :: [1, 20] :: [17] :: [18] :: [4, 20] :: [3] :: [6] :: [7, 5] :: [8, 19] :: [18, 20] :: [10] :: [9, 11, 19] :: [0] :: [13] :: [14, 2] :: [15, 12] :: []) ([] :: [] :: [] :: [] :: [] :: [] :: [] :: [] :: [] :: [] :: [] :: [] :: [11, 16, 19] :: [] :: [] :: [] :: [11, 12, 19] :: []) [16, 17, 18, 20] hM hN hD (by kernel_rfl) ⟨s0, s3, ⟨Below.refl _ _, below_drew (Below.refl _ _)⟩, ⟨HBX, blk_below HBX (below_drew (Below.refl _ _))⟩, trivial⟩ ⟨fun _ _ _ hb h => by obtain ⟨g_, e_, h_⟩ := h; exact ⟨g_, e_, blk_below h_ hb⟩, fun _ _ _ hb h => ⟨h.1.below hb, h.2.step hb⟩, fun _ _ hb h => ⟨⟨_, h.1.choose_spec.below hb⟩, h.2.step hb⟩, fun _ _ hb h => below_step h hb, fun _ _ hb h => blk_below h hb, trivial⟩ (fun hgrow => ⟨fun _ _ h => rv rfl (x_move rfl h.1) rfl,
    fun _ _ h => rv rfl (x_field rfl h.1 Try.underlying67 rfl sz3 (by decide) rfl) rfl,
    fun _ _ h => rv rfl (x_load1 rfl h.1 Try.underlying3 rfl (blk_one (L := opc x.o x.A x.c) h.2.1 0 rfl)) rfl,
    fun _ _ h => rv rfl (x_move rfl h.1) rfl,
    fun _ _ h => rv rfl (x_field rfl h.1 Try.underlying67 rfl sz3 (by decide) rfl) rfl,
    fun _ _ h => rv rfl (x_load1 rfl h.1 Try.underlying3 rfl (blk_one (L := opc x.o x.A x.c) h.2.1 0 rfl)) rfl,
    fun _ _ h => rv rfl (x_nil rfl h.1) rfl,
    fun _ _ h => rv rfl (x_field rfl h.1 Try.underlying75 rfl sz72 (by decide) rfl) rfl,
    fun _ _ h => rv rfl (x_index_array rfl h.1 h.2.1 Try.underlying72 sz27 (by omega) (by omega) (by rw [add_mk]; first | rfl | simp)) rfl,
    fun _ _ h => rv rfl (x_load1 rfl h.1 Try.underlying27 rfl ((HBK.below h.2.1).cof (by omega))) rfl,
    fun _ _ h => rv rfl (x_loadS rfl h.1 Try.underlying67 (opc x.o x.A x.c) sz67 (blk_list (L := opc x.o x.A x.c) h.2.1 0 rfl)) rfl,
    ?_,
    ?_,
    fun _ _ h => rv rfl (x_nil rfl h.1) rfl,
    fun _ _ h => rv rfl (x_field rfl h.1 Try.underlying75 rfl sz72 (by decide) rfl) rfl,
    fun _ _ h => rv rfl (x_index_array rfl h.1 h.2.1 Try.underlying72 sz27 (by omega) (by omega) (by rw [add_mk]; first | rfl | simp)) rfl,
    ?_, trivial⟩) ?_
  · rintro a_ W ⟨h10, -⟩
    refine runs_val (wanted_none rfl) (x_build1 (n := 12) rfl Try.underlying27 zi67 (by decide) (by decide) h10 rfl) ?_
    exact owe_grow hgrow (below_alloc (Below.refl _ _) _) ⟨_, rfl, heap_alloc_new _ _⟩
  · rintro a_ W ⟨h9, h11, h19, -⟩
    obtain ⟨gb, e15, hgb⟩ := h11
    obtain ⟨hra, hoka⟩ := (HBK.below h19).row (i := x.o.actor.toNat) (by omega)
    refine runs_append (wanted_none rfl) rfl Try.underlying27 inf67 rfl (by decide) (by decide) h9 e15 (cs := opc x.o x.A x.c) hgb HK rfl (by simp [Value.oneCell']) hra (by have := hl x.o.actor.toNat; omega) fun v1 w3 hr1 hg1 hat => ?_
    have hmid := (HBK.below h19).mid (by omega) hr1 hg1 hat (N := w.heap.size) (Nat.le_trans HB.size h19.size)
    have hkp : Kx ok w1 w3 := kx_tr (kx_of_below h19 ok) (kx_grown hg1 fun k hk => hoka k hk.symm)
    exact owe_keep ⟨fun h => blk_kx h (kx_grown (S := ok) hg1 fun k hk => hoka k hk.symm) (fun h => by have := hok2 _ h; omega), trivial⟩ ⟨hmid, hkp⟩
  · rintro a_ W ⟨h15, h12, -⟩
    obtain ⟨hmid, hkp⟩ := h12
    obtain ⟨A_, n_, c_, es⟩ := hmid.slice
    refine runs_skip (wanted_none rfl) (x_store1 rfl h15 es rfl sz27 (hmid.cof (by omega)) (blk_frozen hmid.blk _)) ?_
    rw [← es]
    exact owe_keep ⟨fun h => blk_kx h (kx_set ok hokg _ _) (fun h => by have := hok2 _ h; omega), trivial⟩ ⟨⟨_, hmid.store (by omega)⟩, kx_tr hkp (kx_set ok hokg _ _)⟩
  clear s0 s1 s3
  clear hN hD
  clear HB
  clear HBK
  clear HBX
  rintro a2 w2 hN hD ⟨⟨⟨vs1, HBK⟩, hkp⟩, s0, s3, HBX, -⟩
  replace HKP := kx_tr HKP hkp
  show Code.wp _ _ _ _ _
  refine wp_seq ?_
  refine deedL [.eq 20 (.pointer (some ⟨g, 0, none⟩)), .eq 21 (.pointer (some ⟨g3, 5, none⟩)), .eq 22 (.int .i64 x.o.obj), .eq 23 (.agg (opc x.o x.A x.c).toArray), .eq 24 (.int .i64 (thing x.o)), .eq 25 (.pointer (some ⟨g, 0, none⟩)), .eq 26 (.pointer (some ⟨g, 16, none⟩)), .eq 27 (.pointer (some ⟨g, 16 + x.o.obj.toNat, none⟩)), .w fun W => BookAt w0 (fun k => ok k ∨ w.heap.size ≤ k) W g vs1 { B with of := B.of.set x.o.actor.toNat (B.of.getD x.o.actor.toNat [] ++ [x]), kind := B.kind.set x.o.obj.toNat (thing x.o) } ∧ Kx (fun k => k = g) w2 W, .eq 0 (.pointer (some ⟨g, 0, none⟩)), .eq 3 (.pointer (some ⟨g3, 0, none⟩)), .w (Below w2.heap.size w2)] 47 [[9], [10], [1, 11], [10, 11], [3], [0], [5], [6, 2], [7, 4, 11]] [[], [], [], [], [], [], [], [], [11]] [8, 9, 10] hM hN hD (by kernel_rfl) ⟨s0, s3, ⟨Below.refl _ _, below_drew (Below.refl _ _)⟩, trivial⟩ ⟨fun _ _ hb h => ⟨h.1.below hb, h.2.step hb⟩, fun _ _ hb h => below_step h hb, trivial⟩ (fun hgrow => ⟨fun _ _ h => rv rfl (x_move rfl h.1) rfl,
    fun _ _ h => rv rfl (x_field rfl h.1 Try.underlying67 rfl sz3 (by decide) rfl) rfl,
    fun _ _ h => rv rfl (x_load1 rfl h.1 Try.underlying3 rfl (blk_one (L := opc x.o x.A x.c) (blk_below HBX h.2.1) 5 rfl)) rfl,
    fun _ _ h => rv rfl (x_loadS rfl h.1 Try.underlying67 (opc x.o x.A x.c) sz67 (blk_list (L := opc x.o x.A x.c) (blk_below HBX h.2.1) 0 rfl)) rfl,
    fun _ _ h => rc hgrow rfl Try.func93 (by kernel_rfl) rfl rfl (args1 h.1) (thing_calls x.o x.A x.c _) (fun _ _ h => ⟨_, h.1, h.2, rfl⟩),
    fun _ _ h => rv rfl (x_nil rfl h.1) rfl,
    fun _ _ h => rv rfl (x_field rfl h.1 Try.underlying75 rfl sz73 (by decide) rfl) rfl,
    fun _ _ h => rv rfl (x_index_array rfl h.1 h.2.1 Try.underlying73 sz3 (by omega) (by omega) (by rw [add_mk]; first | rfl | simp)) rfl,
    ?_, trivial⟩) ?_
  · rintro a_ W ⟨h7, h4, h11, -⟩
    refine runs_skip (wanted_none rfl) (x_store1 rfl h7 h4 rfl sz3 ((HBK.below h11).ckind (i := x.o.obj.toNat) (by omega)) ((HBK.below h11).free _)) ?_
    exact owe_keep trivial ⟨(HBK.below h11).setKind (by omega) _, kx_tr (kx_of_below h11 _) (kx_set (fun k => k = g) rfl _ _)⟩
  clear s0 s3
  clear hN hD
  clear HBK
  rintro a3 w3 hN hD ⟨⟨HBK, hkp⟩, s0, s3, -⟩
  replace HKP := (kx_tr HKP (kx_wide hkp fun k e => e ▸ hokg))
  replace HBX := blk_kx HBX hkp (fun h => by have := hok2 _ hokg; omega)
  show Code.wp _ _ _ _ _
  refine wp_seq ?_
  refine deedL [.eq 28 (.pointer (some ⟨g, 0, none⟩)), .eq 29 (.pointer (some ⟨g, 0, none⟩)), .eq 30 (.pointer (some ⟨g, 117, none⟩)), .eq 31 (.int .i64 B.size), .eq 32 (.int .i64 (B.size + 1)), .eq 33 (.pointer (some ⟨g, 0, none⟩)), .eq 34 (.pointer (some ⟨g, 117, none⟩)), .w fun W => BookAt w0 (fun k => ok k ∨ w.heap.size ≤ k) W g vs1 { B with of := B.of.set x.o.actor.toNat (B.of.getD x.o.actor.toNat [] ++ [x]), kind := B.kind.set x.o.obj.toNat (thing x.o), size := B.size + 1 } ∧ Kx (fun k => k = g) w3 W, .eq 0 (.pointer (some ⟨g, 0, none⟩)), .eq 3 (.pointer (some ⟨g3, 0, none⟩)), .w (Below w3.heap.size w3)] 47 [[8], [0], [1], [2, 10], [3], [0], [5], [6, 4, 10]] [[], [], [], [], [], [], [], [10]] [7, 8, 9] hM hN hD (by kernel_rfl) ⟨s0, s3, ⟨Below.refl _ _, below_drew (Below.refl _ _)⟩, trivial⟩ ⟨fun _ _ hb h => ⟨h.1.below hb, h.2.step hb⟩, fun _ _ hb h => below_step h hb, trivial⟩ (fun hgrow => ⟨fun _ _ h => rv rfl (x_move rfl h.1) rfl,
    fun _ _ h => rv rfl (x_nil rfl h.1) rfl,
    fun _ _ h => rv rfl (x_field rfl h.1 Try.underlying75 rfl sz3 (by decide) rfl) rfl,
    fun _ _ h => rv rfl (x_load1 rfl h.1 Try.underlying3 rfl ((HBK.below h.2.1).csize)) rfl,
    fun _ _ h => rv rfl (x_add' rfl h.1 rfl (by omega)) rfl,
    fun _ _ h => rv rfl (x_nil rfl h.1) rfl,
    fun _ _ h => rv rfl (x_field rfl h.1 Try.underlying75 rfl sz3 (by decide) rfl) rfl,
    ?_, trivial⟩) ?_
  · rintro a_ W ⟨h6, h4, h10, -⟩
    refine runs_skip (wanted_none rfl) (x_store1 rfl h6 h4 rfl sz3 (HBK.below h10).csize ((HBK.below h10).free _)) ?_
    exact owe_keep trivial ⟨(HBK.below h10).setSize _, kx_tr (kx_of_below h10 _) (kx_set (fun k => k = g) rfl _ _)⟩
  clear s0 s3
  clear hN hD
  clear HBK
  rintro a4 w4 hN hD ⟨⟨HBK, hkp⟩, s0, s3, -⟩
  replace HKP := (kx_tr HKP (kx_wide hkp fun k e => e ▸ hokg))
  replace HBX := blk_kx HBX hkp (fun h => by have := hok2 _ hokg; omega)
  show Code.wp _ _ _ _ _
  refine wp_seq ?_
  refine deedL [.eq 35 (.pointer (some ⟨g, 0, none⟩)), .eq 36 (.pointer (some ⟨g, 0, none⟩)), .eq 37 (.pointer (some ⟨g, 118, none⟩)), .eq 38 (.agg #[Value.int .i64 B.top.1, Value.int .i64 B.top.2]), .eq 39 (.agg (opc x.o x.A x.c).toArray), .eq 40 (.agg #[Value.int .i64 ((stampOf x.o).1), Value.int .i64 ((stampOf x.o).2)]), .eq 41 (.bool (less B.top (stampOf x.o))), .eq 0 (.pointer (some ⟨g, 0, none⟩)), .eq 3 (.pointer (some ⟨g3, 0, none⟩)), .w (Below w4.heap.size w4)] 47 [[7], [0], [1], [2, 9], [8, 9], [4], [3, 5]] [] [6, 7, 8, 9] hM hN hD (by kernel_rfl) ⟨s0, s3, ⟨Below.refl _ _, below_drew (Below.refl _ _)⟩, trivial⟩ ⟨fun _ _ hb h => below_step h hb, trivial⟩ (fun hgrow => ⟨fun _ _ h => rv rfl (x_move rfl h.1) rfl,
    fun _ _ h => rv rfl (x_nil rfl h.1) rfl,
    fun _ _ h => rv rfl (x_field rfl h.1 Try.underlying75 rfl sz65 (by decide) rfl) rfl,
    fun _ _ h => rv rfl (x_loadS rfl h.1 Try.underlying65 [.int .i64 B.top.1, .int .i64 B.top.2] sz65 ((HBK.below h.2.1).ctop)) rfl,
    fun _ _ h => rv rfl (x_loadS rfl h.1 Try.underlying67 (opc x.o x.A x.c) sz67 (blk_list (L := opc x.o x.A x.c) (blk_below HBX h.2.1) 0 rfl)) rfl,
    fun _ _ h => rc hgrow rfl Try.func95 (by kernel_rfl) rfl rfl (args1 h.1) (stamp_calls x.o x.A x.c _) (fun _ _ h => ⟨_, h.1, h.2, rfl⟩),
    fun _ _ h => rc hgrow rfl Try.func94 (by kernel_rfl) rfl rfl (args2 h.1 h.2.1) (less_calls B.top (stampOf x.o) _) (fun _ _ h => ⟨_, h.1, h.2, rfl⟩), trivial⟩) ?_
  clear s0 s3
  clear hN hD
  rintro a5 w5 hN hD ⟨s41, s0, s3, hGR, -⟩
  replace HKP := HKP.step hGR
  replace HBX := blk_below HBX hGR
  replace HBK := HBK.below hGR
  clear hGR
  show Code.wp _ _ _ _ _
  refine wp_cond (t := less B.top (stampOf x.o)) s41 ?_
  rcases Bool.eq_false_or_eq_true (less B.top (stampOf x.o)) with cd6 | cd6
  · rw [cd6]
    show Code.wp _ _ _ _ _
    refine deedL [.eq 42 (.pointer (some ⟨g, 0, none⟩)), .eq 43 (.agg (opc x.o x.A x.c).toArray), .eq 44 (.agg #[Value.int .i64 ((stampOf x.o).1), Value.int .i64 ((stampOf x.o).2)]), .eq 45 (.pointer (some ⟨g, 0, none⟩)), .eq 46 (.pointer (some ⟨g, 118, none⟩)), .w fun W => BookAt w0 (fun k => ok k ∨ w.heap.size ≤ k) W g vs1 { B with of := B.of.set x.o.actor.toNat (B.of.getD x.o.actor.toNat [] ++ [x]), kind := B.kind.set x.o.obj.toNat (thing x.o), size := B.size + 1, top := stampOf x.o } ∧ Kx (fun k => k = g) w5 W, .eq 0 (.pointer (some ⟨g, 0, none⟩)), .eq 3 (.pointer (some ⟨g3, 0, none⟩)), .w (Below w5.heap.size w5)] 47 [[6], [7, 8], [1], [0], [3], [8, 4, 2]] [[], [], [], [], [], [8]] [5, 6, 7] hM hN hD (by kernel_rfl) ⟨s0, s3, ⟨Below.refl _ _, below_drew (Below.refl _ _)⟩, trivial⟩ ⟨fun _ _ hb h => ⟨h.1.below hb, h.2.step hb⟩, fun _ _ hb h => below_step h hb, trivial⟩ (fun hgrow => ⟨fun _ _ h => rv rfl (x_move rfl h.1) rfl,
      fun _ _ h => rv rfl (x_loadS rfl h.1 Try.underlying67 (opc x.o x.A x.c) sz67 (blk_list (L := opc x.o x.A x.c) (blk_below HBX h.2.1) 0 rfl)) rfl,
      fun _ _ h => rc hgrow rfl Try.func95 (by kernel_rfl) rfl rfl (args1 h.1) (stamp_calls x.o x.A x.c _) (fun _ _ h => ⟨_, h.1, h.2, rfl⟩),
      fun _ _ h => rv rfl (x_nil rfl h.1) rfl,
      fun _ _ h => rv rfl (x_field rfl h.1 Try.underlying75 rfl sz65 (by decide) rfl) rfl,
      ?_, trivial⟩) ?_
    · rintro a_ W ⟨h8, h4, h2, -⟩
      have hc0 := (HBK.below h8).ctop0
      have hc1 := (HBK.below h8).ctop1
      refine runs_skip (wanted_none rfl) (x_storeS (cs := [.int .i64 (stampOf x.o).1, .int .i64 (stampOf x.o).2]) rfl h4 h2 (by simp [Value.oneCell']) sz65 (fun j hj => ?_) (fun j _ => (HBK.below h8).free _)) ?_
      · rcases j with _ | _ | j
        · exact (hc0.symm ▸ rfl : (World.cell? W ⟨g, 118, none⟩).isSome = true)
        · exact (hc1.symm ▸ rfl : (World.cell? W ⟨g, 119, none⟩).isSome = true)
        · simp at hj; omega
      exact owe_keep trivial ⟨(HBK.below h8).setTop _ _, kx_tr (kx_of_below h8 _) (kx_cells (fun k => k = g) rfl)⟩
    clear s0 s3 s41
    clear hN hD
    clear HBK
    rintro a7 w7 hN hD ⟨⟨HBK, hkp⟩, s0, s3, -⟩
    replace HKP := (kx_tr HKP (kx_wide hkp fun k e => e ▸ hokg))
    replace HBX := blk_kx HBX hkp (fun h => by have := hok2 _ hokg; omega)
    refine bodyPost_norm ?_
    refine bodyPost_ret (fn := Try.f90) (results_list (rs := []) (vs := []) rfl (by simp) .nil) hD ?_
    have eB : ({ B with of := B.of.set x.o.actor.toNat (B.of.getD x.o.actor.toNat [] ++ [x]), kind := B.kind.set x.o.obj.toNat (thing x.o), size := B.size + 1, top := stampOf x.o } : Bk) = B.put x := by simp only [Bk.put, cd6]; rfl
    exact ⟨rfl, ⟨_, eB ▸ HBK⟩, HKP⟩
  · rw [cd6]
    show Code.wp _ _ _ _ _
    refine wp_skip ?_
    refine bodyPost_norm ?_
    refine bodyPost_ret (fn := Try.f90) (results_list (rs := []) (vs := []) rfl (by simp) .nil) hD ?_
    have eB : ({ B with of := B.of.set x.o.actor.toNat (B.of.getD x.o.actor.toNat [] ++ [x]), kind := B.kind.set x.o.obj.toNat (thing x.o), size := B.size + 1 } : Bk) = B.put x := by simp only [Bk.put, cd6]; rfl
    exact ⟨rfl, ⟨_, eB ▸ HBK⟩, HKP⟩
end Go.Proofs.Ytideafkiaipnoaa.Q
