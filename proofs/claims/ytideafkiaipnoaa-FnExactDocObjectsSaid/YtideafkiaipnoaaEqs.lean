/- Functions walked. -/
import Derived.Test.YtideafkiaipnoaaHeld
import Derived.Test.YtideafkiaipnoaaMText
import Derived.Test.YtideafkiaipnoaaTo
import Derived.Test.YtideafkiaipnoaaCheck
import Derived.Test.YtideafkiaipnoaaBook
namespace Go.Proofs.Ytideafkiaipnoaa.Q
open Go Go.RowKit Go.Proofs.YtideafkiaipnoaaW.PrintWords Go.Proofs.YtideafkiaipnoaaW.PrintLast Go.Proofs.Ytideafkiaipnoaa.Deed
set_option maxRecDepth 100000
noncomputable def eqB {β : Type} (a b : β) : Bool := by classical exact decide (a = b)
theorem eqB_true {β : Type} {a b : β} (h : a = b) : eqB a b = true := by simp [eqB, h]
theorem eqB_false {β : Type} {a b : β} (h : a ≠ b) : eqB a b = false := by simp [eqB, h]
theorem eqB_iff {β : Type} {a b : β} : eqB a b = true ↔ a = b := by simp [eqB]
theorem eqB_iff' {β : Type} {a b : β} : eqB a b = false ↔ a ≠ b := by simp [eqB]
theorem toList_data (s : ByteArray) : s.toList = s.data.toList := ByteArray.toList_eq s
theorem beq_toList (a b : ByteArray) : (a.toList == b.toList) = eqB a b := by
  by_cases h : a = b
  · subst h; simp [eqB]
  · rw [eqB_false h, beq_eq_false_iff_ne]
    intro e
    rw [toList_data, toList_data] at e
    exact h (ByteArray.ext (Array.ext' e))
theorem map_eq {α β : Type} [Inhabited α] {f : α → β} {xs ys : List α} (hl : xs.length = ys.length) (h : ∀ j : Int, 0 ≤ j → j < xs.length → f (gd xs j) = f (gd ys j)) : xs.map f = ys.map f := by
  apply List.ext_getElem (by simpa using hl)
  intro i h1 h2
  have h3 : i < xs.length := by simpa using h1
  have h4 : i < ys.length := by simpa using h2
  have := h i (by omega) (by omega)
  simpa [gd, List.getD_eq_getElem?_getD, h3, h4] using this
theorem map_ne {α β : Type} [Inhabited α] {f : α → β} {xs ys : List α} {j : Int} (h0 : 0 ≤ j) (h1 : j < xs.length) (h : f (gd xs j) ≠ f (gd ys j)) : xs.map f ≠ ys.map f := by
  intro e
  have hl := congrArg List.length e
  simp at hl
  have h2 := congrArg (·[j.toNat]?) e
  simp only [List.getElem?_map, gd_of h0 h1, gd_of h0 (by omega : j < ys.length)] at h2
  simp at h2
  exact h h2
theorem map_len {α β : Type} {f : α → β} {xs ys : List α} (h : ¬ (xs.length : Int) = ys.length) : xs.map f ≠ ys.map f := by
  intro e
  have hl := congrArg List.length e
  simp at hl
  exact h (by omega)
theorem held_neg {xs : List Int} {k : Int} (h : held xs k < 0) : xs ≠ mk k xs.length ∨ k < 0 := by
  unfold held at h
  split at h
  · exact .inr (by omega)
  · exact .inl (by assumption)
theorem held_ok {xs : List Int} {k : Int} (h : ¬ held xs k < 0) (hk : 0 ≤ k) : xs = mk k xs.length ∧ held xs k = k + (xs.length : Int) := by
  unfold held at h ⊢
  split at h
  · rename_i h1; exact ⟨h1, if_pos h1⟩
  · omega
set_option maxHeartbeats 2000000 in
theorem eqV_calls (A : Option Addr) (xs : List Int) (c : Nat) (E : Option Addr) (ys : List Int) (d : Nat) (w : World) (HR1 : RI w A xs) (HR2 : RI w E ys) (hn : xs.length ≤ 1099511627776) : Calls Try.prog 27 #[.agg #[Value.slice A xs.length c], .agg #[Value.slice E ys.length d]] w fun e w' => e = .returned (.bool (xs == ys)) ∧ Below w.heap.size w w' := by
  refine calls_of_wp Try.func27 rfl ?_
  refine enter_ (N := 11) rfl ?_
  rintro a0 hN hD ⟨s0, s1, -⟩
  have HB : Below w.heap.size w w := Below.refl _ _
  refine wp_seq ?_
  refine deedL [.s1 2 (NewB w.heap.size [.slice A xs.length c] 41), .s1 3 (NewB w.heap.size [.slice E ys.length d] 41), .eq 4 (.bool false), .eq 0 (.agg #[Value.slice A xs.length c]), .eq 1 (.agg #[Value.slice E ys.length d]), .w (Below w.heap.size w)] 11 [[5, 3], [5, 4], []] [] [0, 1, 3, 4, 5] hM hN hD (by kernel_rfl) ⟨s0, s1, ⟨Below.refl _ _, below_drew (Below.refl _ _)⟩, trivial⟩ ⟨fun _ _ _ hb h => h.grow hb, fun _ _ _ hb h => h.grow hb, fun _ _ hb h => below_step h hb, trivial⟩ (fun hgrow => ⟨fun _ _ h => rbox hgrow rfl (x_box rfl h.2.1) h.1.size (fun _ _ z => z),
    fun _ _ h => rbox hgrow rfl (x_box rfl h.2.1) h.1.size (fun _ _ z => z),
    fun _ _ _ => rv rfl (x_assign rfl rfl) rfl, trivial⟩) ?_
  clear s0 s1
  clear hN hD
  rintro a1 w1 hN hD ⟨⟨g2, s2, lg2, HBX2⟩, ⟨g3, s3, lg3, HBX3⟩, s0, s1, hGR, -⟩
  replace HB := below_step HB hGR
  clear hGR
  show Code.wp _ _ _ _ _
  refine wp_seq ?_
  refine wp_seq ?_
  refine deedL [.eq 5 (.pointer (some ⟨g2, 0, none⟩)), .eq 6 (.slice A xs.length c), .eq 7 (.pointer (some ⟨g3, 0, none⟩)), .eq 8 (.slice E ys.length d), .eq 9 (.bool (xs == ys)), .eq 10 (.bool (!(xs == ys))), .eq 2 (.pointer (some ⟨g2, 0, none⟩)), .eq 3 (.pointer (some ⟨g3, 0, none⟩)), .w (Below w1.heap.size w1)] 11 [[6], [0, 8], [7], [2, 8], [1, 3, 8], [4]] [] [5, 6, 7, 8] hM hN hD (by kernel_rfl) ⟨s2, s3, ⟨Below.refl _ _, below_drew (Below.refl _ _)⟩, trivial⟩ ⟨fun _ _ hb h => below_step h hb, trivial⟩ (fun hgrow => ⟨fun _ _ h => rv rfl (x_field rfl h.1 Try.underlying41 rfl sz24 (by decide) rfl) rfl,
    fun _ _ h => rv rfl (x_load1 rfl h.1 Try.underlying24 rfl (blk_one (L := [.slice A xs.length c]) (blk_below HBX2 h.2.1) 0 rfl)) rfl,
    fun _ _ h => rv rfl (x_field rfl h.1 Try.underlying41 rfl sz24 (by decide) rfl) rfl,
    fun _ _ h => rv rfl (x_load1 rfl h.1 Try.underlying24 rfl (blk_one (L := [.slice E ys.length d]) (blk_below HBX3 h.2.1) 0 rfl)) rfl,
    fun _ _ h => rc hgrow rfl Try.func16 (by kernel_rfl) rfl rfl (args2 h.1 h.2.1) (eqI_calls A xs c E ys d _ (RI.below HR1 (below_step HB h.2.2.1)) (RI.below HR2 (below_step HB h.2.2.1)) hn) (fun _ _ h => ⟨_, h.1, h.2, rfl⟩),
    fun _ _ h => rv rfl (x_not rfl h.1) rfl, trivial⟩) ?_
  clear s0 s1 s2 s3
  clear hN hD
  rintro a2 w2 hN hD ⟨s10, s2, s3, hGR, -⟩
  replace HB := below_step HB hGR
  replace HBX2 := blk_below HBX2 hGR
  replace HBX3 := blk_below HBX3 hGR
  clear hGR
  show Code.wp _ _ _ _ _
  refine wp_cond (t := !(xs == ys)) s10 ?_
  rcases Bool.eq_false_or_eq_true (!(xs == ys)) with cd3 | cd3
  · rw [cd3]
    show Code.wp _ _ _ _ _
    have pd3 := cd3
    simp at pd3
    refine wp_seq ?_
    refine deedL [.eq 4 (.bool false), .w (Below w2.heap.size w2)] 11 [[]] [] [0, 1] hM hN hD (by kernel_rfl) ⟨⟨Below.refl _ _, below_drew (Below.refl _ _)⟩, trivial⟩ ⟨fun _ _ hb h => below_step h hb, trivial⟩ (fun hgrow => ⟨fun _ _ _ => rv rfl (x_assign rfl rfl) rfl, trivial⟩) ?_
    clear s2 s3 s10
    clear hN hD
    rintro a4 w4 hN hD ⟨s4, hGR, -⟩
    replace HB := below_step HB hGR
    replace HBX2 := blk_below HBX2 hGR
    replace HBX3 := blk_below HBX3 hGR
    clear hGR
    show Code.wp _ _ _ _ _
    refine wp_ret (then_ret ?_)
    refine bodyPost_ret (results_single rfl (vtmp s4 .nil)) hD ?_
    exact ⟨by simp at cd3; simp [cd3], HB⟩
  · rw [cd3]
    show Code.wp _ _ _ _ _
    have pd3 := cd3
    simp at pd3
    refine wp_skip ?_
    show Code.wp _ _ _ _ _
    refine wp_seq ?_
    refine deedL [.eq 4 (.bool true), .w (Below w2.heap.size w2)] 11 [[]] [] [0, 1] hM hN hD (by kernel_rfl) ⟨⟨Below.refl _ _, below_drew (Below.refl _ _)⟩, trivial⟩ ⟨fun _ _ hb h => below_step h hb, trivial⟩ (fun hgrow => ⟨fun _ _ _ => rv rfl (x_assign rfl rfl) rfl, trivial⟩) ?_
    clear s2 s3 s10
    clear hN hD
    rintro a5 w5 hN hD ⟨s4, hGR, -⟩
    replace HB := below_step HB hGR
    replace HBX2 := blk_below HBX2 hGR
    replace HBX3 := blk_below HBX3 hGR
    clear hGR
    show Code.wp _ _ _ _ _
    refine wp_ret ?_
    refine bodyPost_ret (results_single rfl (vtmp s4 .nil)) hD ?_
    exact ⟨by simp at cd3; simp [cd3], HB⟩
set_option maxHeartbeats 2000000 in
theorem eqSt_calls (t a u b : Int) (w : World) : Calls Try.prog 96 #[.agg #[Value.int .i64 t, Value.int .i64 a], .agg #[Value.int .i64 u, Value.int .i64 b]] w fun e w' => e = .returned (.bool (t == u && a == b)) ∧ Below w.heap.size w w' := by
  refine calls_of_wp Try.func96 rfl ?_
  refine enter_ (N := 15) rfl ?_
  rintro a0 hN hD ⟨s0, s1, -⟩
  have HB : Below w.heap.size w w := Below.refl _ _
  refine wp_seq ?_
  refine deedL [.s1 2 (NewB w.heap.size [.int .i64 t, .int .i64 a] 65), .s1 3 (NewB w.heap.size [.int .i64 u, .int .i64 b] 65), .eq 4 (.bool false), .eq 0 (.agg #[Value.int .i64 t, Value.int .i64 a]), .eq 1 (.agg #[Value.int .i64 u, Value.int .i64 b]), .w (Below w.heap.size w)] 15 [[5, 3], [5, 4], []] [] [0, 1, 3, 4, 5] hM hN hD (by kernel_rfl) ⟨s0, s1, ⟨Below.refl _ _, below_drew (Below.refl _ _)⟩, trivial⟩ ⟨fun _ _ _ hb h => h.grow hb, fun _ _ _ hb h => h.grow hb, fun _ _ hb h => below_step h hb, trivial⟩ (fun hgrow => ⟨fun _ _ h => rbox hgrow rfl (x_box rfl h.2.1) h.1.size (fun _ _ z => z),
    fun _ _ h => rbox hgrow rfl (x_box rfl h.2.1) h.1.size (fun _ _ z => z),
    fun _ _ _ => rv rfl (x_assign rfl rfl) rfl, trivial⟩) ?_
  clear s0 s1
  clear hN hD
  rintro a1 w1 hN hD ⟨⟨g2, s2, lg2, HBX2⟩, ⟨g3, s3, lg3, HBX3⟩, s0, s1, hGR, -⟩
  replace HB := below_step HB hGR
  clear hGR
  show Code.wp _ _ _ _ _
  refine wp_seq ?_
  refine wp_seq ?_
  refine deedL [.eq 5 (.pointer (some ⟨g2, 0, none⟩)), .eq 6 (.int .i64 t), .eq 7 (.pointer (some ⟨g3, 0, none⟩)), .eq 8 (.int .i64 u), .eq 9 (.bool (t != u)), .eq 2 (.pointer (some ⟨g2, 0, none⟩)), .eq 3 (.pointer (some ⟨g3, 0, none⟩)), .w (Below w1.heap.size w1)] 15 [[5], [0, 7], [6], [2, 7], [1, 3]] [] [4, 5, 6, 7] hM hN hD (by kernel_rfl) ⟨s2, s3, ⟨Below.refl _ _, below_drew (Below.refl _ _)⟩, trivial⟩ ⟨fun _ _ hb h => below_step h hb, trivial⟩ (fun hgrow => ⟨fun _ _ h => rv rfl (x_field rfl h.1 Try.underlying65 rfl sz3 (by decide) rfl) rfl,
    fun _ _ h => rv rfl (x_load1 rfl h.1 Try.underlying3 rfl (blk_one (L := [.int .i64 t, .int .i64 a]) (blk_below HBX2 h.2.1) 0 rfl)) rfl,
    fun _ _ h => rv rfl (x_field rfl h.1 Try.underlying65 rfl sz3 (by decide) rfl) rfl,
    fun _ _ h => rv rfl (x_load1 rfl h.1 Try.underlying3 rfl (blk_one (L := [.int .i64 u, .int .i64 b]) (blk_below HBX3 h.2.1) 0 rfl)) rfl,
    fun _ _ h => rv rfl (x_neq rfl h.1 h.2.1) rfl, trivial⟩) ?_
  clear s0 s1 s2 s3
  clear hN hD
  rintro a2 w2 hN hD ⟨s9, s2, s3, hGR, -⟩
  replace HB := below_step HB hGR
  replace HBX2 := blk_below HBX2 hGR
  replace HBX3 := blk_below HBX3 hGR
  clear hGR
  show Code.wp _ _ _ _ _
  refine wp_cond (t := t != u) s9 ?_
  rcases Bool.eq_false_or_eq_true (t != u) with cd3 | cd3
  · rw [cd3]
    show Code.wp _ _ _ _ _
    have pd3 := cd3
    simp at pd3
    refine wp_seq ?_
    refine deedL [.eq 4 (.bool false), .w (Below w2.heap.size w2)] 15 [[]] [] [0, 1] hM hN hD (by kernel_rfl) ⟨⟨Below.refl _ _, below_drew (Below.refl _ _)⟩, trivial⟩ ⟨fun _ _ hb h => below_step h hb, trivial⟩ (fun hgrow => ⟨fun _ _ _ => rv rfl (x_assign rfl rfl) rfl, trivial⟩) ?_
    clear s2 s3 s9
    clear hN hD
    rintro a4 w4 hN hD ⟨s4, hGR, -⟩
    replace HB := below_step HB hGR
    replace HBX2 := blk_below HBX2 hGR
    replace HBX3 := blk_below HBX3 hGR
    clear hGR
    show Code.wp _ _ _ _ _
    refine wp_ret (then_ret ?_)
    refine bodyPost_ret (results_single rfl (vtmp s4 .nil)) hD ?_
    exact ⟨by simp at cd3; simp [cd3], HB⟩
  · rw [cd3]
    show Code.wp _ _ _ _ _
    have pd3 := cd3
    simp at pd3
    refine wp_skip ?_
    show Code.wp _ _ _ _ _
    refine wp_seq ?_
    refine wp_seq ?_
    refine deedL [.eq 10 (.pointer (some ⟨g2, 1, none⟩)), .eq 11 (.int .i64 a), .eq 12 (.pointer (some ⟨g3, 1, none⟩)), .eq 13 (.int .i64 b), .eq 14 (.bool (a != b)), .eq 2 (.pointer (some ⟨g2, 0, none⟩)), .eq 3 (.pointer (some ⟨g3, 0, none⟩)), .w (Below w2.heap.size w2)] 15 [[5], [0, 7], [6], [2, 7], [1, 3]] [] [4, 5, 6, 7] hM hN hD (by kernel_rfl) ⟨s2, s3, ⟨Below.refl _ _, below_drew (Below.refl _ _)⟩, trivial⟩ ⟨fun _ _ hb h => below_step h hb, trivial⟩ (fun hgrow => ⟨fun _ _ h => rv rfl (x_field rfl h.1 Try.underlying65 rfl sz3 (by decide) rfl) rfl,
      fun _ _ h => rv rfl (x_load1 rfl h.1 Try.underlying3 rfl (blk_one (L := [.int .i64 t, .int .i64 a]) (blk_below HBX2 h.2.1) 1 rfl)) rfl,
      fun _ _ h => rv rfl (x_field rfl h.1 Try.underlying65 rfl sz3 (by decide) rfl) rfl,
      fun _ _ h => rv rfl (x_load1 rfl h.1 Try.underlying3 rfl (blk_one (L := [.int .i64 u, .int .i64 b]) (blk_below HBX3 h.2.1) 1 rfl)) rfl,
      fun _ _ h => rv rfl (x_neq rfl h.1 h.2.1) rfl, trivial⟩) ?_
    clear s2 s3 s9
    clear hN hD
    rintro a5 w5 hN hD ⟨s14, s2, s3, hGR, -⟩
    replace HB := below_step HB hGR
    replace HBX2 := blk_below HBX2 hGR
    replace HBX3 := blk_below HBX3 hGR
    clear hGR
    show Code.wp _ _ _ _ _
    refine wp_cond (t := a != b) s14 ?_
    rcases Bool.eq_false_or_eq_true (a != b) with cd6 | cd6
    · rw [cd6]
      show Code.wp _ _ _ _ _
      have pd6 := cd6
      simp at pd6
      refine wp_seq ?_
      refine deedL [.eq 4 (.bool false), .w (Below w5.heap.size w5)] 15 [[]] [] [0, 1] hM hN hD (by kernel_rfl) ⟨⟨Below.refl _ _, below_drew (Below.refl _ _)⟩, trivial⟩ ⟨fun _ _ hb h => below_step h hb, trivial⟩ (fun hgrow => ⟨fun _ _ _ => rv rfl (x_assign rfl rfl) rfl, trivial⟩) ?_
      clear s2 s3 s14
      clear hN hD
      rintro a7 w7 hN hD ⟨s4, hGR, -⟩
      replace HB := below_step HB hGR
      replace HBX2 := blk_below HBX2 hGR
      replace HBX3 := blk_below HBX3 hGR
      clear hGR
      show Code.wp _ _ _ _ _
      refine wp_ret (then_ret ?_)
      refine bodyPost_ret (results_single rfl (vtmp s4 .nil)) hD ?_
      exact ⟨by simp at cd3; simp at cd6; simp [cd3, cd6], HB⟩
    · rw [cd6]
      show Code.wp _ _ _ _ _
      have pd6 := cd6
      simp at pd6
      refine wp_skip ?_
      show Code.wp _ _ _ _ _
      refine wp_seq ?_
      refine deedL [.eq 4 (.bool true), .w (Below w5.heap.size w5)] 15 [[]] [] [0, 1] hM hN hD (by kernel_rfl) ⟨⟨Below.refl _ _, below_drew (Below.refl _ _)⟩, trivial⟩ ⟨fun _ _ hb h => below_step h hb, trivial⟩ (fun hgrow => ⟨fun _ _ _ => rv rfl (x_assign rfl rfl) rfl, trivial⟩) ?_
      clear s2 s3 s14
      clear hN hD
      rintro a8 w8 hN hD ⟨s4, hGR, -⟩
      replace HB := below_step HB hGR
      replace HBX2 := blk_below HBX2 hGR
      replace HBX3 := blk_below HBX3 hGR
      clear hGR
      show Code.wp _ _ _ _ _
      refine wp_ret ?_
      refine bodyPost_ret (results_single rfl (vtmp s4 .nil)) hD ?_
      exact ⟨by simp at cd3; simp at cd6; simp [cd3, cd6], HB⟩
end Go.Proofs.Ytideafkiaipnoaa.Q
