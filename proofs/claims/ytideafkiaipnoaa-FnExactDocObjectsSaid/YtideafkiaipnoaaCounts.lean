/- Functions walked. -/
import Derived.Test.YtideafkiaipnoaaOpOK
namespace Go.Proofs.Ytideafkiaipnoaa.Q
open Go Go.RowKit Go.Proofs.YtideafkiaipnoaaW.PrintWords Go.Proofs.YtideafkiaipnoaaW.PrintLast Go.Proofs.Ytideafkiaipnoaa.Deed
set_option maxRecDepth 100000
theorem sNew_calls (w : World) : Calls Try.prog 99 #[] w fun e w' => ∃ g, e = .returned (.agg #[.slice (some ⟨g, 0, none⟩) 16 16]) ∧ w.heap.size ≤ g ∧ IB w' g (List.replicate 16 0) 3 ∧ Below w.heap.size w w' := by
  refine calls_of_wp Try.func99 rfl ?_
  refine enter_ (N := 3) rfl ?_
  rintro a0 hN hD ⟨-⟩
  have HB : Below w.heap.size w w := Below.refl _ _
  refine wp_seq ?_
  refine deedL [.s1 0 (NewB w.heap.size [.slice none 0 0] 41), .w (Below w.heap.size w)] 3 [[1]] [] [0, 1] hM hN hD (by kernel_rfl) ⟨⟨Below.refl _ _, below_drew (Below.refl _ _)⟩, trivial⟩ ⟨fun _ _ _ hb h => h.grow hb, fun _ _ hb h => below_step h hb, trivial⟩ (fun hgrow => ⟨fun _ _ h => rbox hgrow rfl (x_alloc rfl zr41) h.1.size (fun _ _ z => z), trivial⟩) ?_
  clear hN hD
  rintro a1 w1 hN hD ⟨⟨g0, s0, lg0, HBX0⟩, hGR, -⟩
  replace HB := below_step HB hGR
  clear hGR
  show Code.wp _ _ _ _ _
  refine wp_seq ?_
  refine deedL [.s1 1 (NewS w1.heap.size 16 (List.replicate 16 0) 3), .s2 1 2 fun x_ y_ _ => ∃ (g1 : Nat), x_ = .slice (some ⟨g1, 0, none⟩) 16 16 ∧ y_ = .agg #[Value.slice (some ⟨g1, 0, none⟩) 16 16], .s1 1 fun x_ W => ∃ (g1 : Nat), x_ = .slice (some ⟨g1, 0, none⟩) 16 16 ∧ W.heap[g0]? = some (.cells ([.slice (some ⟨g1, 0, none⟩) 16 16]).toArray 41 (0, 0)), .eq 0 (.pointer (some ⟨g0, 0, none⟩)), .w (Kx (fun k => k = g0) w1), .w fun W => W.heap[g0]? = some (.cells ([.slice none 0 0]).toArray 41 (0, 0))] 3 [[4], [0], [3, 1, 5]] [[], [], [5]] [0, 2, 3, 4] hM hN hD (by kernel_rfl) ⟨s0, ⟨Kx.refl _ _, Kx.drew _ _⟩, ⟨HBX0, blk_below HBX0 (below_drew (Below.refl _ _))⟩, trivial⟩ ⟨fun _ _ _ hb h => h.grow hb, fun _ _ _ _ hb h => h, fun _ _ _ hb h => by obtain ⟨g1, e_, h_⟩ := h; exact ⟨_, e_, blk_below h_ hb⟩, fun _ _ hb h => h.step hb, fun _ _ hb h => blk_below h hb, trivial⟩ (fun hgrow => ⟨fun _ _ h => rmakeI hgrow rfl (x_makeI rfl rfl rfl Try.underlying24 inf3 rfl (by decide)) h.1.size (fun _ _ z => z),
    ?_,
    ?_, trivial⟩) ?_
  · rintro a_ W ⟨h0, -⟩
    obtain ⟨g1, e0, l0, hb0⟩ := h0
    exact rv rfl (x_build rfl Try.underlying41 zr41 bp41 (bcons e0 rfl) (by kernel_rfl) (ps := [(0, _)]) (vs := [(0, .slice (some ⟨g1, 0, none⟩) 16 16)]) (L := [.slice (some ⟨g1, 0, none⟩) 16 16])) ⟨_, e0, rfl⟩
  · rintro a_ W ⟨h3, h1, h5, -⟩
    obtain ⟨g1, r1, e1⟩ := h1
    exact rstoreS rfl rfl h3 e1 (by simp [Value.oneCell']) sz41 h5 rfl ⟨_, r1, blk_stored (cs := [.slice (some ⟨g1, 0, none⟩) 16 16]) 0 _ [.slice none 0 0] h5 (of_decide_eq_true rfl)⟩ ⟨fun h => h.otherS (blk_lt HBX0), id, fun h => h.sets rfl _ _, trivial⟩
  clear s0
  clear hN hD
  rintro a2 w2 hN hD ⟨⟨g1, s1, lg1, HBX1⟩, qs2, s0, hGR, -⟩
  obtain ⟨g1_, e_, MBX0⟩ := qs2
  cases s1.symm.trans e_
  replace lg1 := Nat.le_trans HB.size lg1
  have NB := Kx.below HB hGR HB.size (fun k e => by subst e; exact lg0)
  replace HB := NB
  clear NB
  replace HBX0 := MBX0
  clear MBX0
  clear hGR
  show Code.wp _ _ _ _ _
  refine wp_ret ?_
  refine bodyPost_ret (results_single rfl (vcell s0 HBX0 Try.underlying41 rfl sz41 .nil)) hD ?_
  exact ⟨g1, rfl, lg1, HBX1, HB⟩
/-- How many operations of each actor. -/
def cnt (os : List Op) : List Int := os.foldl (fun cs o => si cs o.actor (gi cs o.actor + 1)) (List.replicate 16 0)
theorem cnt_snoc (os : List Op) (o : Op) : cnt (os ++ [o]) = si (cnt os) o.actor (gi (cnt os) o.actor + 1) := by simp [cnt]
theorem cnt_length (os : List Op) : (cnt os).length = 16 := by
  unfold cnt
  suffices h : ∀ (cs : List Int), cs.length = 16 → (os.foldl (fun cs o => si cs o.actor (gi cs o.actor + 1)) cs).length = 16 from h _ (by simp)
  induction os with
  | nil => intro cs h; exact h
  | cons o r ih => intro cs h; exact ih _ (by rw [si_length]; exact h)
theorem take_snoc {os : List Op} {i : Int} (h0 : 0 ≤ i) (h1 : i < os.length) : os.take (i + 1).toNat = os.take i.toNat ++ [go_ os i] := by
  rw [show (i + 1).toNat = i.toNat + 1 by omega, List.take_add_one, go_of h0 h1]
  rfl
/-- How many of actor a. -/
def num (os : List Op) (a : Int) : Int := ((os.filter fun o => o.actor == a).length : Int)
theorem num_snoc (os : List Op) (o : Op) (a : Int) : num (os ++ [o]) a = num os a + if o.actor = a then 1 else 0 := by
  unfold num
  rw [List.filter_append, List.length_append]
  by_cases h : o.actor = a <;> simp [h]
theorem num_le (os : List Op) (a : Int) : 0 ≤ num os a ∧ num os a ≤ os.length := by
  unfold num
  have := List.length_filter_le (fun o : Op => o.actor == a) os
  omega
theorem gi_rep (n : Nat) (a : Int) : gi (List.replicate n 0) a = 0 := by
  unfold gi
  rw [List.getD_eq_getElem?_getD, List.getElem?_replicate]
  split <;> rfl
def Actors (os : List Op) : Prop := ∀ o ∈ os, 0 ≤ o.actor ∧ o.actor < 16
theorem gi_cnt {os : List Op} (h : Actors os) {a : Int} (h0 : 0 ≤ a) (h1 : a < 16) : gi (cnt os) a = num os a := by
  have key : ∀ (r : List Op), Actors r → ∀ a : Int, 0 ≤ a → a < 16 → gi (cnt r.reverse) a = num r.reverse a := by
    intro r
    induction r with
    | nil =>
      intro _ a h0 h1
      show gi (List.replicate 16 0) a = _
      rw [gi_rep]
      simp [num]
    | cons o r ih =>
      intro hr a h0 h1
      obtain ⟨ho0, ho1⟩ := hr o (by simp)
      have hr' : Actors r := fun x hx => hr x (by simp [hx])
      rw [List.reverse_cons, cnt_snoc, num_snoc, gi_si ho0 (by rw [cnt_length]; omega) h0, ih hr' _ ho0 ho1, ih hr' _ h0 h1]
      by_cases e : a = o.actor
      · subst e; simp
      · rw [if_neg e, if_neg (fun h => e h.symm)]; simp
  have := key os.reverse (fun o ho => h o (by simpa using ho)) a h0 h1
  rwa [List.reverse_reverse] at this
/-- What each object is, as the log tells it last. -/
def tf (f : Op → Int) (os : List Op) : List Int := os.foldl (fun ts o => si ts o.obj (f o)) (List.replicate 101 0)
theorem tf_snoc (f : Op → Int) (os : List Op) (o : Op) : tf f (os ++ [o]) = si (tf f os) o.obj (f o) := by simp [tf]
theorem tf_length (f : Op → Int) (os : List Op) : (tf f os).length = 101 := by
  unfold tf
  suffices h : ∀ (cs : List Int), cs.length = 101 → (os.foldl (fun ts o => si ts o.obj (f o)) cs).length = 101 from h _ (by simp)
  induction os with
  | nil => intro cs h; exact h
  | cons o r ih => intro cs h; exact ih _ (by rw [si_length]; exact h)
theorem Actors.take {os : List Op} (h : Actors os) (n : Nat) : Actors (os.take n) := fun o ho => h o (List.mem_of_mem_take ho)
theorem Actors.at_ {os : List Op} (h : Actors os) {i : Int} (h0 : 0 ≤ i) (h1 : i < os.length) : 0 ≤ (go_ os i).actor ∧ (go_ os i).actor < 16 := h _ (List.mem_of_getElem? (go_of h0 h1))
set_option maxHeartbeats 2000000 in
theorem sCounts_calls (A : Option Addr) (os : List Op) (D : Nat → Option Addr) (C : Nat → Nat) (c : Nat) (w : World) (HR : RO w A os D C) (HA : Actors os) (HL : os.length ≤ 4096) : Calls Try.prog 64 #[.slice A os.length c] w fun e w' => ∃ g, e = .returned (.agg #[.slice (some ⟨g, 0, none⟩) 16 16]) ∧ w.heap.size ≤ g ∧ IB w' g (cnt os) 3 ∧ Below w.heap.size w w' := by
  refine calls_of_wp Try.func64 rfl ?_
  refine enter_ (N := 24) rfl ?_
  rintro a0 hN hD ⟨s0, -⟩
  have HB : Below w.heap.size w w := Below.refl _ _
  refine wp_seq ?_
  refine deedL [.s1 2 (NewB w.heap.size [.slice none 0 0] 41), .eq 0 (.slice A os.length c), .w (Below w.heap.size w)] 24 [[2]] [] [0, 1, 2] hM hN hD (by kernel_rfl) ⟨s0, ⟨Below.refl _ _, below_drew (Below.refl _ _)⟩, trivial⟩ ⟨fun _ _ _ hb h => h.grow hb, fun _ _ hb h => below_step h hb, trivial⟩ (fun hgrow => ⟨fun _ _ h => rbox hgrow rfl (x_alloc rfl zr41) h.1.size (fun _ _ z => z), trivial⟩) ?_
  clear s0
  clear hN hD
  rintro a1 w1 hN hD ⟨⟨g2, s2, lg2, HBX2⟩, s0, hGR, -⟩
  replace HB := below_step HB hGR
  clear hGR
  show Code.wp _ _ _ _ _
  refine wp_seq ?_
  refine deedL [.s1 5 fun x_ W => ∃ (gz : Nat), x_ = .agg #[Value.slice (some ⟨gz, 0, none⟩) 16 16] ∧ w1.heap.size ≤ gz ∧ IB W gz (List.replicate 16 0) 3, .s1 3 (NewB w1.heap.size [.slice none 0 0] 41), .s2 5 3 fun x_ y_ W => ∃ (gz : Nat), x_ = .agg #[Value.slice (some ⟨gz, 0, none⟩) 16 16] ∧ NewB w1.heap.size [.slice (some ⟨gz, 0, none⟩) 16 16] 41 y_ W, .eq 0 (.slice A os.length c), .eq 2 (.pointer (some ⟨g2, 0, none⟩)), .w (Below w1.heap.size w1)] 24 [[5], [5], [1, 0, 5]] [[], [], [1]] [0, 2, 3, 4, 5] hM hN hD (by kernel_rfl) ⟨s0, s2, ⟨Below.refl _ _, below_drew (Below.refl _ _)⟩, trivial⟩ ⟨fun _ _ _ hb h => by obtain ⟨gz, e_, z0, z1⟩ := h; exact ⟨_, e_, z0, z1.below hb⟩, fun _ _ _ hb h => h.grow hb, fun _ _ _ _ hb h => by obtain ⟨gz, e_, h_⟩ := h; exact ⟨_, e_, h_.grow hb⟩, fun _ _ hb h => below_step h hb, trivial⟩ (fun hgrow => ⟨fun _ _ h => rc hgrow rfl Try.func99 (by kernel_rfl) rfl rfl (args0) (sNew_calls _) (fun _ _ hR => by obtain ⟨gz, e_, z0, z1, hb⟩ := hR; exact ⟨_, e_, hb, gz, rfl, (Nat.le_trans h.1.size z0), z1⟩),
    fun _ _ h => rbox hgrow rfl (x_alloc rfl zr41) h.1.size (fun _ _ z => z),
    ?_, trivial⟩) ?_
  · rintro a_ W ⟨h1, h0, h5, -⟩
    obtain ⟨gz, e0, HLgz, HCgz⟩ := h0
    obtain ⟨g3, e2, l2, hb2⟩ := h1
    exact rstoreS rfl rfl e2 e0 (by simp [Value.oneCell']) sz41 hb2 rfl ⟨_, e0, ⟨_, e2, l2, blk_stored (cs := [.slice (some ⟨gz, 0, none⟩) 16 16]) 0 _ [.slice none 0 0] hb2 (of_decide_eq_true rfl)⟩⟩ ⟨fun h => by obtain ⟨gz, e_, z0, z1⟩ := h; exact ⟨_, e_, z0, (setCells_far _ _ _ (blk_neT z1 hb2 rfl)).trans z1⟩, fun h => below_cells h l2, trivial⟩
  clear s0 s2
  clear hN hD
  rintro a2 w2 hN hD ⟨⟨gz, s5, HLgz, HCgz⟩, qs2, s0, s2, hGR, -⟩
  obtain ⟨gz_, e_, g3, s3, lg3, HBX3⟩ := qs2
  cases s5.symm.trans e_
  have lgz := HLgz
  clear HLgz
  have n_g2_g3 : g2 ≠ g3 := by have := blk_lt HBX2; omega
  replace lgz := Nat.le_trans HB.size lgz
  replace lg3 := Nat.le_trans HB.size lg3
  replace HB := below_step HB hGR
  replace HBX2 := blk_below HBX2 hGR
  clear hGR
  show Code.wp _ _ _ _ _
  refine wp_seq ?_
  refine wp_seq ?_
  refine deedL [.eq 4 (.int .i64 0), .eq 0 (.slice A os.length c), .eq 2 (.pointer (some ⟨g2, 0, none⟩)), .eq 3 (.pointer (some ⟨g3, 0, none⟩)), .w (Below w2.heap.size w2)] 24 [[]] [] [0, 1, 2, 3, 4] hM hN hD (by kernel_rfl) ⟨s0, s2, s3, ⟨Below.refl _ _, below_drew (Below.refl _ _)⟩, trivial⟩ ⟨fun _ _ hb h => below_step h hb, trivial⟩ (fun hgrow => ⟨fun _ _ _ => rv rfl (x_assign rfl rfl) rfl, trivial⟩) ?_
  clear s0 s2 s3
  clear hN hD
  rintro a3 w3 hN hD ⟨s4, s0, s2, s3, hGR, -⟩
  replace HB := below_step HB hGR
  replace HBX2 := blk_below HBX2 hGR
  replace HCgz := HCgz.below hGR
  replace HBX3 := blk_below HBX3 hGR
  clear hGR
  show Code.wp _ _ _ _ _
  refine wp_block ?_
  refine wp_loopN (fun n_ q_ w_ => ∃ (i : Int), (q_.tmps.size = 24) ∧ (q_.defers = []) ∧ (sl q_ 0 = .slice A os.length c) ∧ (sl q_ 2 = .pointer (some ⟨g2, 0, none⟩)) ∧ (sl q_ 3 = .pointer (some ⟨g3, 0, none⟩)) ∧ (sl q_ 4 = .int .i64 i) ∧ (Below w.heap.size w w_) ∧ (w_.heap[g2]? = some (.cells ([.slice none 0 0]).toArray 41 (0, 0))) ∧ (w_.heap[g3]? = some (.cells ([.slice (some ⟨gz, 0, none⟩) 16 16]).toArray 41 (0, 0))) ∧ (IB w_ gz (cnt (os.take i.toNat)) 3) ∧ (0 ≤ i) ∧ (i ≤ os.length) ∧ (n_ = (os.length - i).toNat)) ((fun (i : Int) => (os.length - i).toNat) 0) ?_ ?_
  · exact ⟨0, hN, hD, s0, s2, s3, s4, HB, HBX2, HBX3, HCgz, (by omega), (by omega), rfl⟩
  clear s0 s2 s3 s4 HB HBX2 HCgz HBX3 hN hD
  rintro n_4 a4 w4 ⟨i, hN, hD, s0, s2, s3, s4, HB, HBX2, HBX3, HCgz, hi0, hi1, hmeas⟩
  have hcl := cnt_length (os.take i.toNat)
  refine wp_seq ?_
  refine wp_seq ?_
  refine deedL [.eq 6 (.int .i64 i), .eq 7 (.slice A os.length c), .eq 8 (.int .i64 (os.length : Int)), .eq 9 (.bool (decide (i < (os.length : Int)))), .eq 0 (.slice A os.length c), .eq 2 (.pointer (some ⟨g2, 0, none⟩)), .eq 3 (.pointer (some ⟨g3, 0, none⟩)), .eq 4 (.int .i64 i), .w (Below w4.heap.size w4)] 24 [[7], [4], [1], [0, 2]] [] [3, 4, 5, 6, 7, 8] hM hN hD (by kernel_rfl) ⟨s0, s2, s3, s4, ⟨Below.refl _ _, below_drew (Below.refl _ _)⟩, trivial⟩ ⟨fun _ _ hb h => below_step h hb, trivial⟩ (fun hgrow => ⟨fun _ _ h => rv rfl (x_move rfl h.1) rfl,
    fun _ _ h => rv rfl (x_move rfl h.1) rfl,
    fun _ _ h => rv rfl (x_len_slice rfl Try.underlying27 h.1) rfl,
    fun _ _ h => rv rfl (x_lss rfl h.1 h.2.1) rfl, trivial⟩) ?_
  clear s0 s2 s3 s4
  clear hN hD
  rintro a5 w5 hN hD ⟨s9, s0, s2, s3, s4, hGR, -⟩
  replace HB := below_step HB hGR
  replace HBX2 := blk_below HBX2 hGR
  replace HBX3 := blk_below HBX3 hGR
  replace HCgz := HCgz.below hGR
  clear hGR
  show Code.wp _ _ _ _ _
  refine wp_cond (t := decide (i < (os.length : Int))) s9 ?_
  rcases Bool.eq_false_or_eq_true (decide (i < (os.length : Int))) with cd6 | cd6
  · rw [cd6]
    show Code.wp _ _ _ _ _
    have pd6 := of_decide_eq_true cd6
    refine wp_skip ?_
    show Code.wp _ _ _ _ _
    refine wp_seq ?_
    refine wp_block ?_
    have hac := HA.at_ hi0 pd6
    have hgc := gi_cnt (HA.take i.toNat) hac.1 hac.2
    have hnl := num_le (os.take i.toNat) (go_ os i).actor
    have htl : (os.take i.toNat).length ≤ os.length := by simp; omega
    refine deedL (.eq 12 (.pointer (some ⟨g3, 0, none⟩)) :: .eq 13 (.slice (some ⟨gz, 0, none⟩) 16 16) :: .eq 14 (.slice A os.length c) :: .eq 15 (.int .i64 i) :: .eq 16 (.pointer (some ((adr A).add (i.toNat * 12)))) :: .eq 17 (.pointer (some ((adr A).add (i.toNat * 12)))) :: .eq 18 (.int .i64 ((go_ os i).actor)) :: .eq 19 (.pointer (some ⟨gz, ((go_ os i).actor).toNat, none⟩)) :: .eq 20 (.int .i64 (gi (cnt (os.take i.toNat)) ((go_ os i).actor))) :: .eq 21 (.int .i64 (gi (cnt (os.take i.toNat)) ((go_ os i).actor) + 1)) :: .eq 22 (.pointer (some ⟨gz, ((go_ os i).actor).toNat, none⟩)) :: (.w fun W => IB W gz (si (cnt (os.take i.toNat)) ((go_ os i).actor) (gi (cnt (os.take i.toNat)) ((go_ os i).actor) + 1)) 3) :: .eq 0 (.slice A os.length c) :: .eq 2 (.pointer (some ⟨g2, 0, none⟩)) :: .eq 3 (.pointer (some ⟨g3, 0, none⟩)) :: .eq 4 (.int .i64 i) :: (.w (Kx (fun k => k = gz) w5)) :: (.w fun W => IB W gz (cnt (os.take i.toNat)) 3) :: []) 24 [[14], [0, 16], [12], [15], [2, 3], [4], [5, 16], [1, 6], [7, 17], [8], [1, 6], [10, 9, 17]] [[], [], [], [], [], [], [], [], [], [], [], [17]] [11, 12, 13, 14, 15, 16] hM hN hD (by kernel_rfl) ⟨s0, s2, s3, s4, ⟨Kx.refl _ _, Kx.drew _ _⟩, ⟨HCgz, HCgz.below (below_drew (Below.refl _ _))⟩, trivial⟩ ⟨fun _ _ hb h => h.below hb, fun _ _ hb h => h.step hb, fun _ _ hb h => h.below hb, trivial⟩ (fun hgrow => ⟨fun _ _ h => rv rfl (x_field rfl h.1 Try.underlying41 rfl sz24 (by decide) rfl) rfl,
      fun _ _ h => rv rfl (x_load1 rfl h.1 Try.underlying24 rfl (blk_one (L := [.slice (some ⟨gz, 0, none⟩) 16 16]) (blk_kx HBX3 h.2.1 (fun e => (blk_neT HBX3 HCgz rfl) e)) 0 rfl)) rfl,
      fun _ _ h => rv rfl (x_move rfl h.1) rfl,
      fun _ _ h => rv rfl (x_move rfl h.1) rfl,
      fun _ _ h => rv rfl (x_index_at rfl h.1 h.2.1 Try.underlying27 sz67 (by omega) (by omega) (RO.ad HR i (by omega) (by omega))) rfl,
      fun _ _ h => rv rfl (x_field rfl h.1 Try.underlying67 rfl sz3 (by decide) rfl) rfl,
      fun _ _ h => rv rfl (x_load1 rfl h.1 Try.underlying3 rfl (RO.cell0 HR (Kx.below HB h.2.1 HB.size (fun k e => by subst e; exact lgz)) (by omega) (by omega))) rfl,
      fun _ _ h => rv rfl (x_index_slice rfl h.1 h.2.1 Try.underlying24 sz3 (by omega) (by omega) (ptr1 _ _)) rfl,
      fun _ _ h => rv rfl (x_load1 rfl h.1 Try.underlying3 rfl (IB.at_ h.2.1 (by omega) (by omega))) rfl,
      fun _ _ h => rv rfl (x_add' rfl h.1 rfl (by omega)) rfl,
      fun _ _ h => rv rfl (x_index_slice rfl h.1 h.2.1 Try.underlying24 sz3 (by omega) (by omega) (ptr1 _ _)) rfl,
      ?_, trivial⟩) ?_
    · rintro a_ W ⟨h10, h9, h17, -⟩
      exact rstoreI rfl rfl h10 h9 sz3 h17 (by omega) (by omega) (IB.set h17 _ _) ⟨fun h => h.set rfl _ _, trivial⟩
    clear s0 s2 s3 s4 s9
    clear hN hD
    rintro a7 w7 hN hD ⟨MCgz, s0, s2, s3, s4, hGR, -⟩
    have NB := Kx.below HB hGR HB.size (fun k e => by subst e; exact lgz)
    have NBX2 := blk_kx HBX2 hGR (fun e => (blk_neT HBX2 HCgz rfl) e)
    have NBX3 := blk_kx HBX3 hGR (fun e => (blk_neT HBX3 HCgz rfl) e)
    replace HB := NB
    replace HBX2 := NBX2
    replace HBX3 := NBX3
    clear NB NBX2 NBX3
    replace HCgz := MCgz
    clear MCgz
    clear hGR
    show Code.wp _ _ _ _ _
    refine deedL [.eq 10 (.int .i64 i), .eq 11 (.int .i64 (i + 1)), .eq 4 (.int .i64 (i + 1)), .eq 0 (.slice A os.length c), .eq 2 (.pointer (some ⟨g2, 0, none⟩)), .eq 3 (.pointer (some ⟨g3, 0, none⟩)), .eq 4 (.int .i64 i), .w (Below w7.heap.size w7)] 24 [[6], [0], [1]] [[], [], [6]] [2, 3, 4, 5, 7] hM hN hD (by kernel_rfl) ⟨s0, s2, s3, s4, ⟨Below.refl _ _, below_drew (Below.refl _ _)⟩, trivial⟩ ⟨fun _ _ hb h => below_step h hb, trivial⟩ (fun hgrow => ⟨fun _ _ h => rv rfl (x_move rfl h.1) rfl,
      fun _ _ h => rv rfl (x_add' rfl h.1 rfl (by omega)) rfl,
      fun _ _ h => rv rfl (x_assign rfl h.1) rfl, trivial⟩) ?_
    clear s0 s2 s3 s4
    clear hN hD
    rintro a8 w8 hN hD ⟨s4, s0, s2, s3, hGR, -⟩
    replace HB := below_step HB hGR
    replace HBX2 := blk_below HBX2 hGR
    replace HBX3 := blk_below HBX3 hGR
    replace HCgz := HCgz.below hGR
    clear hGR
    show ∃ m, m < n_4 ∧ _
    exact ⟨_, (by omega), ⟨(i + 1), hN, hD, s0, s2, s3, s4, HB, HBX2, HBX3, (by rw [take_snoc hi0 pd6, cnt_snoc]; exact HCgz), (by omega), (by omega), rfl⟩⟩
  · rw [cd6]
    show Code.wp _ _ _ _ _
    have pd6 := of_decide_eq_false cd6
    refine wp_exit (then_exit (then_exit (at_exit ?_)))
    show Code.wp _ _ _ _ _
    refine wp_seq ?_
    refine deedL [.eq 23 (.agg #[Value.slice (some ⟨gz, 0, none⟩) 16 16]), .w fun W => W.heap[g2]? = some (.cells ([.slice (some ⟨gz, 0, none⟩) 16 16]).toArray 41 (0, 0)), .eq 2 (.pointer (some ⟨g2, 0, none⟩)), .eq 3 (.pointer (some ⟨g3, 0, none⟩)), .w (Kx (fun k => k = g2) w5), .w fun W => W.heap[g2]? = some (.cells ([.slice none 0 0]).toArray 41 (0, 0))] 24 [[3, 4], [2, 0, 5]] [[], [5]] [1, 2, 3, 4] hM hN hD (by kernel_rfl) ⟨s2, s3, ⟨Kx.refl _ _, Kx.drew _ _⟩, ⟨HBX2, blk_below HBX2 (below_drew (Below.refl _ _))⟩, trivial⟩ ⟨fun _ _ hb h => blk_below h hb, fun _ _ hb h => h.step hb, fun _ _ hb h => blk_below h hb, trivial⟩ (fun hgrow => ⟨fun _ _ h => rv rfl (x_loadS rfl h.1 Try.underlying41 [.slice (some ⟨gz, 0, none⟩) 16 16] sz41 (blk_list (L := [.slice (some ⟨gz, 0, none⟩) 16 16]) (blk_kx HBX3 h.2.1 (fun e => (Ne.symm n_g2_g3) e)) 0 rfl)) rfl,
      ?_, trivial⟩) ?_
    · rintro a_ W ⟨h2, h0, h5, -⟩
      exact rstoreS rfl rfl h2 h0 (by simp [Value.oneCell']) sz41 h5 rfl (blk_stored (cs := [.slice (some ⟨gz, 0, none⟩) 16 16]) 0 _ [.slice none 0 0] h5 (of_decide_eq_true rfl)) ⟨fun h => h.sets rfl _ _, trivial⟩
    clear s0 s2 s3 s4 s9
    clear hN hD
    rintro a9 w9 hN hD ⟨MBX2, s2, s3, hGR, -⟩
    have NB := Kx.below HB hGR HB.size (fun k e => by subst e; exact lg2)
    have NBX3 := blk_kx HBX3 hGR (fun e => (Ne.symm n_g2_g3) e)
    have NCgz : IB w9 gz (cnt (os.take i.toNat)) 3 := blk_kx HCgz hGR (fun e => (blk_neT HCgz HBX2 rfl) e)
    replace HB := NB
    replace HBX3 := NBX3
    replace HCgz := NCgz
    clear NB NBX3 NCgz
    replace HBX2 := MBX2
    clear MBX2
    clear hGR
    show Code.wp _ _ _ _ _
    refine wp_ret ?_
    refine bodyPost_ret (results_single rfl (vcell s2 HBX2 Try.underlying41 rfl sz41 .nil)) hD ?_
    exact ⟨gz, rfl, lgz, (by rw [show os.take i.toNat = os from by rw [List.take_of_length_le]; omega] at HCgz; exact HCgz), HB⟩
end Go.Proofs.Ytideafkiaipnoaa.Q
