/- Functions walked. -/
import Derived.Test.YtideafkiaipnoaaSLog
import Derived.Test.YtideafkiaipnoaaOwn
namespace Go.Proofs.Ytideafkiaipnoaa.Q
open Go Go.RowKit Go.Proofs.YtideafkiaipnoaaW.PrintWords Go.Proofs.YtideafkiaipnoaaW.PrintLast Go.Proofs.Ytideafkiaipnoaa.Deed
set_option maxRecDepth 100000
/-- What the object is: the first operation on it tells. -/
noncomputable def thingAt (os : List Op) (j : Int) : Int := match os.find? (fun o => o.obj == j) with
  | some o => sthing o.kind
  | none => 0
theorem thingAt_none {os : List Op} {j : Int} (h : ∀ i : Int, 0 ≤ i → i < os.length → (go_ os i).obj ≠ j) : thingAt os j = 0 := by
  have : os.find? (fun o => o.obj == j) = none := by
    rw [List.find?_eq_none]
    intro o ho
    obtain ⟨k, hk, e⟩ := List.getElem_of_mem ho
    have := h k (by omega) (by omega)
    have e2 : go_ os (k : Int) = o := by simp [go_, List.getD_eq_getElem?_getD, hk, e]
    rw [e2] at this
    simpa using this
  simp [thingAt, this]
theorem thingAt_some {os : List Op} {j i : Int} (h0 : 0 ≤ i) (h1 : i < os.length) (h : ∀ k : Int, 0 ≤ k → k < i → (go_ os k).obj ≠ j) (hj : (go_ os i).obj = j) : thingAt os j = sthing (go_ os i).kind := by
  have hl : i.toNat < os.length := by omega
  have e2 : os[i.toNat] = go_ os i := by simp [go_, List.getD_eq_getElem?_getD, hl]
  have : os.find? (fun o => o.obj == j) = some (go_ os i) := by
    rw [List.find?_eq_some_iff_getElem]
    refine ⟨by simpa using hj, i.toNat, hl, e2, fun k hk => ?_⟩
    have hl2 : k < os.length := by omega
    have := h k (by omega) (by omega)
    have e3 : go_ os (k : Int) = os[k] := by simp [go_, List.getD_eq_getElem?_getD, hl2]
    rw [e3] at this
    simpa using this
  simp [thingAt, this]
/-- The numbers below n that p picks. -/
def upto (p : Int → Bool) : Nat → List Int
  | 0 => []
  | n + 1 => upto p n ++ (if p n then [(n : Int)] else [])
theorem upto_t {p : Int → Bool} {i : Int} (h0 : 0 ≤ i) (h : p i = true) : upto p (i + 1).toNat = upto p i.toNat ++ [i] := by
  rw [show (i + 1).toNat = i.toNat + 1 by omega, upto, Int.toNat_of_nonneg h0, if_pos h]
theorem upto_f {p : Int → Bool} {i : Int} (h0 : 0 ≤ i) (h : p i = false) : upto p (i + 1).toNat = upto p i.toNat := by
  rw [show (i + 1).toNat = i.toNat + 1 by omega, upto, Int.toNat_of_nonneg h0, h]
  simp
theorem upto_le (p : Int → Bool) : ∀ n, (upto p n).length ≤ n
  | 0 => by simp [upto]
  | n + 1 => by
    have := upto_le p n
    rw [upto, List.length_append]
    split <;> simp <;> omega
theorem upto_eq {p q : Int → Bool} : ∀ n : Nat, (∀ i : Int, 0 ≤ i → i < n → p i = q i) → upto p n = upto q n
  | 0, _ => rfl
  | n + 1, h => by rw [upto, upto, upto_eq n (fun i u v => h i u (by omega)), h n (by omega) (by omega)]
noncomputable def sPick (os : List Op) (j : Int) : Bool := decide (1 ≤ j) && (thingAt os j != 0)
noncomputable def sObjs (os : List Op) : List Int := if sLogOK os = true then upto (sPick os) 101 else []
set_option maxHeartbeats 2000000 in
theorem sThingAt_calls (A : Option Addr) (os : List Op) (D : Nat → Option Addr) (C : Nat → Nat) (c : Nat) (j_ : Int) (w : World) (HR : RO w A os D C) (HL : os.length ≤ 4096) : Calls Try.prog 48 #[.slice A os.length c, .int .i64 j_] w fun e w' => e = .returned (.int .i64 (thingAt os j_)) ∧ Below w.heap.size w w' := by
  refine calls_of_wp Try.func48 rfl ?_
  refine enter_ (N := 25) rfl ?_
  rintro a0 hN hD ⟨s0, s1, -⟩
  have HB : Below w.heap.size w w := Below.refl _ _
  refine wp_seq ?_
  refine deedL [.eq 4 (.int .i64 0), .eq 0 (.slice A os.length c), .eq 1 (.int .i64 j_), .w (Below w.heap.size w)] 25 [[]] [] [1, 2, 3] hM hN hD (by kernel_rfl) ⟨s0, s1, ⟨Below.refl _ _, below_drew (Below.refl _ _)⟩, trivial⟩ ⟨fun _ _ hb h => below_step h hb, trivial⟩ (fun hgrow => ⟨fun _ _ _ => rv rfl (x_assign rfl rfl) rfl, trivial⟩) ?_
  clear s0 s1
  clear hN hD
  rintro a1 w1 hN hD ⟨s0, s1, hGR, -⟩
  replace HB := below_step HB hGR
  clear hGR
  show Code.wp _ _ _ _ _
  refine wp_seq ?_
  refine wp_seq ?_
  refine deedL [.eq 5 (.int .i64 0), .eq 0 (.slice A os.length c), .eq 1 (.int .i64 j_), .w (Below w1.heap.size w1)] 25 [[]] [] [0, 1, 2, 3] hM hN hD (by kernel_rfl) ⟨s0, s1, ⟨Below.refl _ _, below_drew (Below.refl _ _)⟩, trivial⟩ ⟨fun _ _ hb h => below_step h hb, trivial⟩ (fun hgrow => ⟨fun _ _ _ => rv rfl (x_assign rfl rfl) rfl, trivial⟩) ?_
  clear s0 s1
  clear hN hD
  rintro a2 w2 hN hD ⟨s5, s0, s1, hGR, -⟩
  replace HB := below_step HB hGR
  clear hGR
  show Code.wp _ _ _ _ _
  refine wp_block ?_
  refine wp_loopN (fun n_ q_ w_ => ∃ (i : Int), (q_.tmps.size = 25) ∧ (q_.defers = []) ∧ (sl q_ 0 = .slice A os.length c) ∧ (sl q_ 1 = .int .i64 j_) ∧ (sl q_ 5 = .int .i64 i) ∧ (Below w.heap.size w w_) ∧ (0 ≤ i) ∧ (i ≤ os.length) ∧ (∀ j : Int, 0 ≤ j → j < i → (go_ os j).obj ≠ j_) ∧ (n_ = (os.length - i).toNat)) ((fun (i : Int) => (os.length - i).toNat) 0) ?_ ?_
  · exact ⟨0, hN, hD, s0, s1, s5, HB, (by omega), (by omega), (by intro j u v; omega), rfl⟩
  clear s0 s1 s5 HB hN hD
  rintro n_3 a3 w3 ⟨i, hN, hD, s0, s1, s5, HB, hi0, hi1, hi, hmeas⟩
  refine wp_seq ?_
  refine wp_seq ?_
  refine deedL [.eq 6 (.int .i64 i), .eq 7 (.slice A os.length c), .eq 8 (.int .i64 (os.length : Int)), .eq 9 (.bool (decide (i < (os.length : Int)))), .eq 0 (.slice A os.length c), .eq 1 (.int .i64 j_), .eq 5 (.int .i64 i), .w (Below w3.heap.size w3)] 25 [[6], [4], [1], [0, 2]] [] [3, 4, 5, 6, 7] hM hN hD (by kernel_rfl) ⟨s0, s1, s5, ⟨Below.refl _ _, below_drew (Below.refl _ _)⟩, trivial⟩ ⟨fun _ _ hb h => below_step h hb, trivial⟩ (fun hgrow => ⟨fun _ _ h => rv rfl (x_move rfl h.1) rfl,
    fun _ _ h => rv rfl (x_move rfl h.1) rfl,
    fun _ _ h => rv rfl (x_len_slice rfl Try.underlying27 h.1) rfl,
    fun _ _ h => rv rfl (x_lss rfl h.1 h.2.1) rfl, trivial⟩) ?_
  clear s0 s1 s5
  clear hN hD
  rintro a4 w4 hN hD ⟨s9, s0, s1, s5, hGR, -⟩
  replace HB := below_step HB hGR
  clear hGR
  show Code.wp _ _ _ _ _
  refine wp_cond (t := decide (i < (os.length : Int))) s9 ?_
  rcases Bool.eq_false_or_eq_true (decide (i < (os.length : Int))) with cd5 | cd5
  · rw [cd5]
    show Code.wp _ _ _ _ _
    have pd5 := of_decide_eq_true cd5
    refine wp_skip ?_
    show Code.wp _ _ _ _ _
    refine wp_seq ?_
    refine wp_block ?_
    refine wp_seq ?_
    refine deedL [.eq 12 (.slice A os.length c), .eq 13 (.int .i64 i), .eq 14 (.pointer (some ((adr A).add (i.toNat * 12)))), .eq 15 (.pointer (some (((adr A).add (i.toNat * 12)).add 5))), .eq 16 (.int .i64 ((go_ os i).obj)), .eq 17 (.int .i64 j_), .eq 18 (.bool (((go_ os i).obj) == j_)), .eq 0 (.slice A os.length c), .eq 1 (.int .i64 j_), .eq 5 (.int .i64 i), .w (Below w4.heap.size w4)] 25 [[7], [9], [0, 1], [2], [3, 10], [8], [4, 5]] [] [6, 7, 8, 9, 10] hM hN hD (by kernel_rfl) ⟨s0, s1, s5, ⟨Below.refl _ _, below_drew (Below.refl _ _)⟩, trivial⟩ ⟨fun _ _ hb h => below_step h hb, trivial⟩ (fun hgrow => ⟨fun _ _ h => rv rfl (x_move rfl h.1) rfl,
      fun _ _ h => rv rfl (x_move rfl h.1) rfl,
      fun _ _ h => rv rfl (x_index_at rfl h.1 h.2.1 Try.underlying27 sz67 (by omega) (by omega) (RO.ad HR i (by omega) (by omega))) rfl,
      fun _ _ h => rv rfl (x_field rfl h.1 Try.underlying67 rfl sz3 (by decide) rfl) rfl,
      fun _ _ h => rv rfl (x_load1 rfl h.1 Try.underlying3 rfl (RO.cell HR (below_step HB h.2.1) (by omega) (by omega) (j := 5) rfl)) rfl,
      fun _ _ h => rv rfl (x_move rfl h.1) rfl,
      fun _ _ h => rv rfl (x_eql rfl h.1 h.2.1) rfl, trivial⟩) ?_
    clear s0 s1 s5 s9
    clear hN hD
    rintro a6 w6 hN hD ⟨s18, s0, s1, s5, hGR, -⟩
    replace HB := below_step HB hGR
    clear hGR
    show Code.wp _ _ _ _ _
    refine wp_cond (t := ((go_ os i).obj) == j_) s18 ?_
    rcases Bool.eq_false_or_eq_true (((go_ os i).obj) == j_) with cd7 | cd7
    · rw [cd7]
      show Code.wp _ _ _ _ _
      have pd7 := eq_of_beq cd7
      have pda := eq_of_beq cd7
      refine wp_seq ?_
      refine deedL [.eq 19 (.slice A os.length c), .eq 20 (.int .i64 i), .eq 21 (.pointer (some ((adr A).add (i.toNat * 12)))), .eq 22 (.pointer (some (((adr A).add (i.toNat * 12)).add 4))), .eq 23 (.int .i64 ((go_ os i).kind)), .eq 24 (.int .i64 (sthing ((go_ os i).kind))), .eq 4 (.int .i64 (sthing ((go_ os i).kind))), .eq 0 (.slice A os.length c), .eq 5 (.int .i64 i), .w (Below w6.heap.size w6)] 25 [[7], [8], [0, 1], [2], [3, 9], [4], [5]] [] [6, 7, 8, 9] hM hN hD (by kernel_rfl) ⟨s0, s5, ⟨Below.refl _ _, below_drew (Below.refl _ _)⟩, trivial⟩ ⟨fun _ _ hb h => below_step h hb, trivial⟩ (fun hgrow => ⟨fun _ _ h => rv rfl (x_move rfl h.1) rfl,
        fun _ _ h => rv rfl (x_move rfl h.1) rfl,
        fun _ _ h => rv rfl (x_index_at rfl h.1 h.2.1 Try.underlying27 sz67 (by omega) (by omega) (RO.ad HR i (by omega) (by omega))) rfl,
        fun _ _ h => rv rfl (x_field rfl h.1 Try.underlying67 rfl sz3 (by decide) rfl) rfl,
        fun _ _ h => rv rfl (x_load1 rfl h.1 Try.underlying3 rfl (RO.cell HR (below_step HB h.2.1) (by omega) (by omega) (j := 4) rfl)) rfl,
        fun _ _ h => rc hgrow rfl Try.func91 (by kernel_rfl) rfl rfl (args1 h.1) (sThing_calls ((go_ os i).kind) _) (fun _ _ h => ⟨_, h.1, h.2, rfl⟩),
        fun _ _ h => rv rfl (x_assign rfl h.1) rfl, trivial⟩) ?_
      clear s0 s1 s5 s18
      clear hN hD
      rintro a8 w8 hN hD ⟨s4, s0, s5, hGR, -⟩
      replace HB := below_step HB hGR
      clear hGR
      show Code.wp _ _ _ _ _
      refine wp_ret (blk_ret (then_ret (then_ret (blk_ret (then_ret ?_)))))
      refine bodyPost_ret (results_single rfl (vtmp s4 .nil)) hD ?_
      exact ⟨by rw [thingAt_some hi0 (by omega) hi pda], HB⟩
    · rw [cd7]
      show Code.wp _ _ _ _ _
      have pd7 := ne_of_beq_false cd7
      refine wp_skip ?_
      show Code.wp _ _ _ _ _
      refine deedL [.eq 10 (.int .i64 i), .eq 11 (.int .i64 (i + 1)), .eq 5 (.int .i64 (i + 1)), .eq 0 (.slice A os.length c), .eq 1 (.int .i64 j_), .eq 5 (.int .i64 i), .w (Below w6.heap.size w6)] 25 [[5], [0], [1]] [[], [], [5]] [2, 3, 4, 6] hM hN hD (by kernel_rfl) ⟨s0, s1, s5, ⟨Below.refl _ _, below_drew (Below.refl _ _)⟩, trivial⟩ ⟨fun _ _ hb h => below_step h hb, trivial⟩ (fun hgrow => ⟨fun _ _ h => rv rfl (x_move rfl h.1) rfl,
        fun _ _ h => rv rfl (x_add' rfl h.1 rfl (by omega)) rfl,
        fun _ _ h => rv rfl (x_assign rfl h.1) rfl, trivial⟩) ?_
      clear s0 s1 s5 s18
      clear hN hD
      rintro a9 w9 hN hD ⟨s5, s0, s1, hGR, -⟩
      replace HB := below_step HB hGR
      clear hGR
      show ∃ m, m < n_3 ∧ _
      exact ⟨_, (by omega), ⟨(i + 1), hN, hD, s0, s1, s5, HB, (by omega), (by omega), (by intro j u v; by_cases e : j = i; (subst e; exact ne_of_beq_false cd7); exact hi j u (by omega)), rfl⟩⟩
  · rw [cd5]
    show Code.wp _ _ _ _ _
    have pd5 := of_decide_eq_false cd5
    refine wp_exit (then_exit (then_exit (at_exit ?_)))
    show Code.wp _ _ _ _ _
    refine wp_seq ?_
    refine deedL [.eq 4 (.int .i64 0), .w (Below w4.heap.size w4)] 25 [[]] [] [0, 1] hM hN hD (by kernel_rfl) ⟨⟨Below.refl _ _, below_drew (Below.refl _ _)⟩, trivial⟩ ⟨fun _ _ hb h => below_step h hb, trivial⟩ (fun hgrow => ⟨fun _ _ _ => rv rfl (x_assign rfl rfl) rfl, trivial⟩) ?_
    clear s0 s1 s5 s9
    clear hN hD
    rintro a10 w10 hN hD ⟨s4, hGR, -⟩
    replace HB := below_step HB hGR
    clear hGR
    show Code.wp _ _ _ _ _
    refine wp_ret ?_
    refine bodyPost_ret (results_single rfl (vtmp s4 .nil)) hD ?_
    exact ⟨by rw [thingAt_none (fun j u v => hi j u (by omega))], HB⟩
set_option maxHeartbeats 2000000 in
theorem sDoc_calls (A : Option Addr) (os : List Op) (D : Nat → Option Addr) (C : Nat → Nat) (c : Nat) (w : World) (HR : RO w A os D C) : Calls Try.prog 13 #[.slice A os.length c] w fun e w' => ∃ v, e = .returned (.tuple #[v, .int .i64 (if sLogOK os = true then 0 else 1)]) ∧ OwnRow R1 3 1 w' 0 v (sObjs os) ∧ Above w.heap.size v ∧ Below w.heap.size w w' := by
  refine calls_of_wp Try.func13 rfl ?_
  refine enter_ (N := 24) rfl ?_
  rintro a0 hN hD ⟨s0, -⟩
  have HB : Below w.heap.size w w := Below.refl _ _
  refine wp_seq ?_
  refine deedL [.eq 2 (.slice none 0 0), .eq 3 (.int .i64 0), .eq 0 (.slice A os.length c), .w (Below w.heap.size w)] 24 [[], []] [] [2, 3] hM hN hD (by kernel_rfl) ⟨s0, ⟨Below.refl _ _, below_drew (Below.refl _ _)⟩, trivial⟩ ⟨fun _ _ hb h => below_step h hb, trivial⟩ (fun hgrow => ⟨fun _ _ _ => rv rfl (x_assign rfl rfl) rfl,
    fun _ _ _ => rv rfl (x_assign rfl rfl) rfl, trivial⟩) ?_
  clear s0
  clear hN hD
  rintro a1 w1 hN hD ⟨s0, hGR, -⟩
  replace HB := below_step HB hGR
  clear hGR
  show Code.wp _ _ _ _ _
  refine wp_seq ?_
  refine wp_seq ?_
  refine deedL [.eq 6 (.slice A os.length c), .eq 7 (.bool (sLogOK os)), .eq 8 (.bool (!(sLogOK os))), .eq 0 (.slice A os.length c), .w (Below w1.heap.size w1)] 24 [[3], [0, 4], [1]] [] [2, 3, 4] hM hN hD (by kernel_rfl) ⟨s0, ⟨Below.refl _ _, below_drew (Below.refl _ _)⟩, trivial⟩ ⟨fun _ _ hb h => below_step h hb, trivial⟩ (fun hgrow => ⟨fun _ _ h => rv rfl (x_move rfl h.1) rfl,
    fun _ _ h => rc hgrow rfl Try.func47 (by kernel_rfl) rfl rfl (args1 h.1) (sLog_calls A os D C c _ (RO.below HR (below_step HB h.2.1))) (fun _ _ h => ⟨_, h.1, h.2, rfl⟩),
    fun _ _ h => rv rfl (x_not rfl h.1) rfl, trivial⟩) ?_
  clear s0
  clear hN hD
  rintro a2 w2 hN hD ⟨s8, s0, hGR, -⟩
  replace HB := below_step HB hGR
  clear hGR
  show Code.wp _ _ _ _ _
  refine wp_cond (t := !(sLogOK os)) s8 ?_
  rcases Bool.eq_false_or_eq_true (!(sLogOK os)) with cd3 | cd3
  · rw [cd3]
    show Code.wp _ _ _ _ _
    have pd3 := cd3
    simp at pd3
    refine wp_seq ?_
    refine deedL [.s1 9 fun x_ W => ∃ (v9 : Value), x_ = v9 ∧ OwnRow R1 3 1 W 0 v9 [] ∧ Above w2.heap.size v9, .s2 9 2 fun x_ y_ _ => ∃ (v9 : Value), x_ = v9 ∧ y_ = v9, .eq 3 (.int .i64 1), .w (Below w2.heap.size w2)] 24 [[3], [0], []] [] [2, 0, 1, 3] hM hN hD (by kernel_rfl) ⟨⟨Below.refl _ _, below_drew (Below.refl _ _)⟩, trivial⟩ ⟨fun _ _ _ hb h => by obtain ⟨v9, e_, h1_, h2_⟩ := h; exact ⟨v9, e_, h1_.below hb, h2_⟩, fun _ _ _ _ hb h => h, fun _ _ hb h => below_step h hb, trivial⟩ (fun hgrow => ⟨fun _ _ h => rbuild0 hgrow rfl rfl Try.underlying24 sz3 h.1.size (fun y_ _ u_ v_ => ⟨y_, rfl, u_, v_⟩),
      ?_,
      fun _ _ _ => rv rfl (x_assign rfl rfl) rfl, trivial⟩) ?_
    · rintro a_ W ⟨h0, -⟩
      obtain ⟨v9, e0, ho0, hb0⟩ := h0
      exact rv rfl (x_assign rfl e0) ⟨_, e0, rfl⟩
    clear s0 s8
    clear hN hD
    rintro a4 w4 hN hD ⟨s3, ⟨v9, s9, HOV9, bv9⟩, q2, hGR, -⟩
    obtain ⟨v9_, e_, s2⟩ := q2
    cases s9.symm.trans e_
    replace bv9 := Above.le bv9 HB.size
    replace HB := below_step HB hGR
    clear hGR
    show Code.wp _ _ _ _ _
    refine wp_ret (then_ret ?_)
    refine bodyPost_ret (fn := Try.f13) (results_list (rs := [.tmp 2, .tmp 3]) (vs := [v9, .int .i64 1]) rfl (by simp) (vtmp s2 (vtmp s3 .nil))) hD ?_
    have hF : sLogOK os = false := by simpa using cd3
    rw [hF]
    exact ⟨v9, rfl, by unfold sObjs; rw [hF]; exact HOV9, bv9, HB⟩
  · rw [cd3]
    show Code.wp _ _ _ _ _
    have pd3 := cd3
    simp at pd3
    have hT : sLogOK os = true := by simpa using cd3
    have hL : os.length ≤ 4096 := by have := (sLogOK_iff.1 hT).1; omega
    refine wp_skip ?_
    show Code.wp _ _ _ _ _
    refine wp_seq ?_
    refine deedL [.s1 10 fun x_ W => ∃ (v10 : Value), x_ = v10 ∧ OwnRow R1 3 1 W 0 v10 [] ∧ Above w2.heap.size v10, .s2 10 4 fun x_ y_ _ => ∃ (v10 : Value), x_ = v10 ∧ y_ = v10, .eq 0 (.slice A os.length c), .w (Below w2.heap.size w2)] 24 [[3], [0]] [] [0, 1, 2, 3] hM hN hD (by kernel_rfl) ⟨s0, ⟨Below.refl _ _, below_drew (Below.refl _ _)⟩, trivial⟩ ⟨fun _ _ _ hb h => by obtain ⟨v10, e_, h1_, h2_⟩ := h; exact ⟨v10, e_, h1_.below hb, h2_⟩, fun _ _ _ _ hb h => h, fun _ _ hb h => below_step h hb, trivial⟩ (fun hgrow => ⟨fun _ _ h => rbuild0 hgrow rfl rfl Try.underlying24 sz3 h.1.size (fun y_ _ u_ v_ => ⟨y_, rfl, u_, v_⟩),
      ?_, trivial⟩) ?_
    · rintro a_ W ⟨h0, -⟩
      obtain ⟨v10, e0, ho0, hb0⟩ := h0
      exact rv rfl (x_assign rfl e0) ⟨_, e0, rfl⟩
    clear s0 s8
    clear hN hD
    rintro a5 w5 hN hD ⟨⟨v10, s10, HOV10, bv10⟩, q4, s0, hGR, -⟩
    obtain ⟨v10_, e_, s4⟩ := q4
    cases s10.symm.trans e_
    replace bv10 := Above.le bv10 HB.size
    replace HB := below_step HB hGR
    clear hGR
    show Code.wp _ _ _ _ _
    refine wp_seq ?_
    refine wp_seq ?_
    refine deedL [.eq 5 (.int .i64 1), .eq 0 (.slice A os.length c), .eq 4 v10, .w (Below w5.heap.size w5)] 24 [[]] [] [0, 1, 2, 3] hM hN hD (by kernel_rfl) ⟨s0, s4, ⟨Below.refl _ _, below_drew (Below.refl _ _)⟩, trivial⟩ ⟨fun _ _ hb h => below_step h hb, trivial⟩ (fun hgrow => ⟨fun _ _ _ => rv rfl (x_assign rfl rfl) rfl, trivial⟩) ?_
    clear s0 s4
    clear hN hD
    rintro a6 w6 hN hD ⟨s5, s0, s4, hGR, -⟩
    replace HB := below_step HB hGR
    replace HOV10 := HOV10.below hGR
    clear hGR
    show Code.wp _ _ _ _ _
    refine wp_block ?_
    refine wp_loopN (fun n_ q_ w_ => ∃ (j : Int) (v : Value), (q_.tmps.size = 24) ∧ (q_.defers = []) ∧ (sl q_ 0 = .slice A os.length c) ∧ (sl q_ 4 = v) ∧ (sl q_ 5 = .int .i64 j) ∧ (Below w.heap.size w w_) ∧ (OwnRow R1 3 1 w_ 0 v (upto (sPick os) j.toNat)) ∧ (1 ≤ j) ∧ (j ≤ 101) ∧ (Above w.heap.size v) ∧ (n_ = (101 - j).toNat)) ((fun (j : Int) (v : Value) => (101 - j).toNat) 1 v10) ?_ ?_
    · exact ⟨1, v10, hN, hD, s0, s4, s5, HB, (by rw [show upto (sPick os) (1 : Int).toNat = [] from by simp [upto, sPick]]; exact HOV10), (by omega), (by omega), bv10, rfl⟩
    clear s0 s4 s5 HB HOV10 hN hD
    rintro n_7 a7 w7 ⟨j, v, hN, hD, s0, s4, s5, HB, HOV10, hj0, hj1, bv, hmeas⟩
    have hul := upto_le (sPick os) j.toNat
    refine wp_seq ?_
    refine wp_seq ?_
    refine deedL [.eq 11 (.int .i64 j), .eq 12 (.bool (decide (j ≤ 100))), .eq 0 (.slice A os.length c), .eq 4 v, .eq 5 (.int .i64 j), .w (Below w7.heap.size w7)] 24 [[4], [0]] [] [1, 2, 3, 4, 5] hM hN hD (by kernel_rfl) ⟨s0, s4, s5, ⟨Below.refl _ _, below_drew (Below.refl _ _)⟩, trivial⟩ ⟨fun _ _ hb h => below_step h hb, trivial⟩ (fun hgrow => ⟨fun _ _ h => rv rfl (x_move rfl h.1) rfl,
      fun _ _ h => rv rfl (x_leq rfl h.1 rfl) rfl, trivial⟩) ?_
    clear s0 s4 s5
    clear hN hD
    rintro a8 w8 hN hD ⟨s12, s0, s4, s5, hGR, -⟩
    replace HB := below_step HB hGR
    replace HOV10 := HOV10.below hGR
    clear hGR
    show Code.wp _ _ _ _ _
    refine wp_cond (t := decide (j ≤ 100)) s12 ?_
    rcases Bool.eq_false_or_eq_true (decide (j ≤ 100)) with cd9 | cd9
    · rw [cd9]
      show Code.wp _ _ _ _ _
      have pd9 := of_decide_eq_true cd9
      refine wp_skip ?_
      show Code.wp _ _ _ _ _
      refine wp_seq ?_
      refine wp_block ?_
      refine wp_seq ?_
      refine deedL [.eq 15 (.slice A os.length c), .eq 16 (.int .i64 j), .eq 17 (.int .i64 (thingAt os j)), .eq 18 (.bool ((thingAt os j) != 0)), .eq 0 (.slice A os.length c), .eq 4 v, .eq 5 (.int .i64 j), .w (Below w8.heap.size w8)] 24 [[4], [6], [0, 1, 7], [2]] [] [3, 4, 5, 6, 7] hM hN hD (by kernel_rfl) ⟨s0, s4, s5, ⟨Below.refl _ _, below_drew (Below.refl _ _)⟩, trivial⟩ ⟨fun _ _ hb h => below_step h hb, trivial⟩ (fun hgrow => ⟨fun _ _ h => rv rfl (x_move rfl h.1) rfl,
        fun _ _ h => rv rfl (x_move rfl h.1) rfl,
        fun _ _ h => rc hgrow rfl Try.func48 (by kernel_rfl) rfl rfl (args2 h.1 h.2.1) (sThingAt_calls A os D C c j _ (RO.below HR (below_step HB h.2.2.1)) hL) (fun _ _ h => ⟨_, h.1, h.2, rfl⟩),
        fun _ _ h => rv rfl (x_neq rfl h.1 rfl) rfl, trivial⟩) ?_
      clear s0 s4 s5 s12
      clear hN hD
      rintro a10 w10 hN hD ⟨s18, s0, s4, s5, hGR, -⟩
      replace HB := below_step HB hGR
      replace HOV10 := HOV10.below hGR
      clear hGR
      show Code.wp _ _ _ _ _
      refine wp_cond (t := (thingAt os j) != 0) s18 ?_
      rcases Bool.eq_false_or_eq_true ((thingAt os j) != 0) with cd11 | cd11
      · rw [cd11]
        show Code.wp _ _ _ _ _
        have pd11 := cd11
        simp at pd11
        have hp : thingAt os j ≠ 0 := by simpa using cd11
        refine deedL [.eq 19 v, .eq 20 (.int .i64 j), .s1 21 (NewL [.int .i64 j] 3), .s1 22 fun x_ W => ∃ (v22 : Value), x_ = v22 ∧ OwnRow R1 3 1 W 0 v22 ((upto (sPick os) j.toNat) ++ [j]) ∧ Above w.heap.size v22, .s2 22 4 fun x_ y_ _ => ∃ (v22 : Value), x_ = v22 ∧ y_ = v22, .eq 0 (.slice A os.length c), .eq 4 v, .eq 5 (.int .i64 j), .w (Kx (fun k => some k = v.ownBlock) w10), .w fun W => OwnRow R1 3 1 W 0 v (upto (sPick os) j.toNat)] 24 [[6], [7], [1], [0, 2, 8, 9], [3]] [[], [], [], [2, 4, 9], [6]] [3, 4, 5, 7, 8] hM hN hD (by kernel_rfl) ⟨s0, s4, s5, ⟨Kx.refl _ _, Kx.drew _ _⟩, ⟨HOV10, HOV10.below (below_drew (Below.refl _ _))⟩, trivial⟩ ⟨fun _ _ _ hb h => h.grow hb, fun _ _ _ hb h => by obtain ⟨v22, e_, h1_, h2_⟩ := h; exact ⟨v22, e_, h1_.below hb, h2_⟩, fun _ _ _ _ hb h => h, fun _ _ hb h => h.step hb, fun _ _ hb h => h.below hb, trivial⟩ (fun hgrow => ⟨fun _ _ h => rv rfl (x_move rfl h.1) rfl,
          fun _ _ h => rv rfl (x_move rfl h.1) rfl,
          fun _ _ h => rbuild1 hgrow rfl rfl Try.underlying24 zi3 (by decide) (by decide) h.1 rfl rfl (fun _ _ z => z),
          ?_,
          ?_, trivial⟩) ?_
        · rintro a_ W ⟨h0, h2, h8, h9, -⟩
          exact rappend (R := R1) (p := j) rfl rfl Try.underlying24 inf3 rfl (by decide) (by decide) h0 h2 rfl rfl (by simp [Value.oneCell']) h9 (by omega) bv (Nat.le_trans HB.size h8.size) h8 (fun v1_ _ u_ u2_ u3_ u4_ => owe_keep ⟨fun _ => u3_, trivial⟩ ⟨v1_, rfl, u_, u2_⟩)
        · rintro a_ W ⟨h3, -⟩
          obtain ⟨v22, e3, ho3, hb3⟩ := h3
          exact rv rfl (x_assign rfl e3) ⟨_, e3, rfl⟩
        clear s0 s4 s5 s18
        clear hN hD
        rintro a12 w12 hN hD ⟨⟨v22, s22, HOV10N, bv22⟩, q4, s0, s5, hGR, -⟩
        obtain ⟨v22_, e_, s4⟩ := q4
        cases s22.symm.trans e_
        have NB := Kx.below HB hGR HB.size (fun k e => bv k e.symm)
        replace HB := NB
        clear NB
        replace HOV10 := HOV10N
        clear HOV10N
        clear hGR
        show Code.wp _ _ _ _ _
        refine deedL [.eq 13 (.int .i64 j), .eq 14 (.int .i64 (j + 1)), .eq 5 (.int .i64 (j + 1)), .eq 0 (.slice A os.length c), .eq 4 v22, .eq 5 (.int .i64 j), .w (Below w12.heap.size w12)] 24 [[5], [0], [1]] [[], [], [5]] [2, 3, 4, 6] hM hN hD (by kernel_rfl) ⟨s0, s4, s5, ⟨Below.refl _ _, below_drew (Below.refl _ _)⟩, trivial⟩ ⟨fun _ _ hb h => below_step h hb, trivial⟩ (fun hgrow => ⟨fun _ _ h => rv rfl (x_move rfl h.1) rfl,
          fun _ _ h => rv rfl (x_add' rfl h.1 rfl (by omega)) rfl,
          fun _ _ h => rv rfl (x_assign rfl h.1) rfl, trivial⟩) ?_
        clear s0 s5 s4
        clear hN hD
        rintro a13 w13 hN hD ⟨s5, s0, s4, hGR, -⟩
        replace HB := below_step HB hGR
        replace HOV10 := HOV10.below hGR
        clear hGR
        show ∃ m, m < n_7 ∧ _
        exact ⟨_, (by omega), ⟨(j + 1), v22, hN, hD, s0, s4, s5, HB, (by rw [upto_t (by omega) (by unfold sPick; simp; exact ⟨hj0, hp⟩)]; exact HOV10), (by omega), (by omega), bv22, rfl⟩⟩
      · rw [cd11]
        show Code.wp _ _ _ _ _
        have pd11 := cd11
        simp at pd11
        have hp : thingAt os j = 0 := by simpa using cd11
        refine wp_skip ?_
        show Code.wp _ _ _ _ _
        refine deedL [.eq 13 (.int .i64 j), .eq 14 (.int .i64 (j + 1)), .eq 5 (.int .i64 (j + 1)), .eq 0 (.slice A os.length c), .eq 4 v, .eq 5 (.int .i64 j), .w (Below w10.heap.size w10)] 24 [[5], [0], [1]] [[], [], [5]] [2, 3, 4, 6] hM hN hD (by kernel_rfl) ⟨s0, s4, s5, ⟨Below.refl _ _, below_drew (Below.refl _ _)⟩, trivial⟩ ⟨fun _ _ hb h => below_step h hb, trivial⟩ (fun hgrow => ⟨fun _ _ h => rv rfl (x_move rfl h.1) rfl,
          fun _ _ h => rv rfl (x_add' rfl h.1 rfl (by omega)) rfl,
          fun _ _ h => rv rfl (x_assign rfl h.1) rfl, trivial⟩) ?_
        clear s0 s4 s5 s18
        clear hN hD
        rintro a14 w14 hN hD ⟨s5, s0, s4, hGR, -⟩
        replace HB := below_step HB hGR
        replace HOV10 := HOV10.below hGR
        clear hGR
        show ∃ m, m < n_7 ∧ _
        exact ⟨_, (by omega), ⟨(j + 1), v, hN, hD, s0, s4, s5, HB, (by rw [upto_f (by omega) (by unfold sPick; simp; intro _; exact hp)]; exact HOV10), (by omega), (by omega), bv, rfl⟩⟩
    · rw [cd9]
      show Code.wp _ _ _ _ _
      have pd9 := of_decide_eq_false cd9
      refine wp_exit (then_exit (then_exit (at_exit ?_)))
      show Code.wp _ _ _ _ _
      refine wp_seq ?_
      refine deedL [.eq 23 v, .eq 2 v, .eq 3 (.int .i64 0), .eq 4 v, .w (Below w8.heap.size w8)] 24 [[3], [0], []] [] [1, 2, 3, 4] hM hN hD (by kernel_rfl) ⟨s4, ⟨Below.refl _ _, below_drew (Below.refl _ _)⟩, trivial⟩ ⟨fun _ _ hb h => below_step h hb, trivial⟩ (fun hgrow => ⟨fun _ _ h => rv rfl (x_move rfl h.1) rfl,
        fun _ _ h => rv rfl (x_assign rfl h.1) rfl,
        fun _ _ _ => rv rfl (x_assign rfl rfl) rfl, trivial⟩) ?_
      clear s0 s4 s5 s12
      clear hN hD
      rintro a15 w15 hN hD ⟨s2, s3, s4, hGR, -⟩
      replace HB := below_step HB hGR
      replace HOV10 := HOV10.below hGR
      clear hGR
      show Code.wp _ _ _ _ _
      refine wp_ret ?_
      refine bodyPost_ret (fn := Try.f13) (results_list (rs := [.tmp 2, .tmp 3]) (vs := [v, .int .i64 0]) rfl (by simp) (vtmp s2 (vtmp s3 .nil))) hD ?_
      rw [hT]
      exact ⟨v, rfl, by unfold sObjs; rw [hT, if_pos rfl]; rw [show j.toNat = 101 by omega] at HOV10; exact HOV10, bv, HB⟩
end Go.Proofs.Ytideafkiaipnoaa.Q
