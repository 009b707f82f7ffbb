/- Functions walked. -/
import Derived.Test.YtideafkiaipnoaaText
namespace Go.Proofs.Ytideafkiaipnoaa.Q
open Go Go.RowKit Go.Proofs.YtideafkiaipnoaaW.PrintWords Go.Proofs.YtideafkiaipnoaaW.PrintLast Go.Proofs.Ytideafkiaipnoaa.Deed
set_option maxRecDepth 100000
set_option maxHeartbeats 2000000 in
theorem mtext_calls (k : Int) (w : World) (hk : k ≤ 4503599627370496) : Calls Try.prog 52 #[.int .i64 k] w fun e w' => e = .returned (.string (mtext k)) ∧ Below w.heap.size w w' := by
  refine calls_of_wp Try.func52 rfl ?_
  refine enter_ (N := 20) rfl ?_
  rintro a0 hN hD ⟨s0, -⟩
  have HB : Below w.heap.size w w := Below.refl _ _
  refine wp_seq ?_
  refine deedL [.eq 2 (.string (⟨#[]⟩ : ByteArray)), .eq 0 (.int .i64 k), .w (Below w.heap.size w)] 20 [[]] [] [1, 2] hM hN hD (by kernel_rfl) ⟨s0, ⟨Below.refl _ _, below_drew (Below.refl _ _)⟩, trivial⟩ ⟨fun _ _ hb h => below_step h hb, trivial⟩ (fun hgrow => ⟨fun _ _ _ => rv rfl (x_assign rfl rfl) rfl, trivial⟩) ?_
  clear s0
  clear hN hD
  rintro a1 w1 hN hD ⟨s0, hGR, -⟩
  replace HB := below_step HB hGR
  clear hGR
  show Code.wp _ _ _ _ _
  refine wp_seq ?_
  refine wp_seq ?_
  refine deedL [.eq 4 (.int .i64 k), .eq 5 (.bool (decide (k ≤ 0))), .eq 0 (.int .i64 k), .w (Below w1.heap.size w1)] 20 [[2], [0]] [] [1, 2, 3] hM hN hD (by kernel_rfl) ⟨s0, ⟨Below.refl _ _, below_drew (Below.refl _ _)⟩, trivial⟩ ⟨fun _ _ hb h => below_step h hb, trivial⟩ (fun hgrow => ⟨fun _ _ h => rv rfl (x_move rfl h.1) rfl,
    fun _ _ h => rv rfl (x_leq rfl h.1 rfl) rfl, trivial⟩) ?_
  clear s0
  clear hN hD
  rintro a2 w2 hN hD ⟨s5, s0, hGR, -⟩
  replace HB := below_step HB hGR
  clear hGR
  show Code.wp _ _ _ _ _
  refine wp_cond (t := decide (k ≤ 0)) s5 ?_
  rcases Bool.eq_false_or_eq_true (decide (k ≤ 0)) with cd3 | cd3
  · rw [cd3]
    show Code.wp _ _ _ _ _
    have pd3 := of_decide_eq_true cd3
    refine wp_seq ?_
    refine deedL [.eq 2 (.string (⟨#[109, 48]⟩ : ByteArray)), .w (Below w2.heap.size w2)] 20 [[]] [] [0, 1] hM hN hD (by kernel_rfl) ⟨⟨Below.refl _ _, below_drew (Below.refl _ _)⟩, trivial⟩ ⟨fun _ _ hb h => below_step h hb, trivial⟩ (fun hgrow => ⟨fun _ _ _ => rv rfl (x_assign rfl rfl) rfl, trivial⟩) ?_
    clear s0 s5
    clear hN hD
    rintro a4 w4 hN hD ⟨s2, hGR, -⟩
    replace HB := below_step HB hGR
    clear hGR
    show Code.wp _ _ _ _ _
    refine wp_ret (then_ret ?_)
    refine bodyPost_ret (results_single rfl (vtmp s2 .nil)) hD ?_
    exact ⟨by unfold mtext; rw [if_pos (by omega)], HB⟩
  · rw [cd3]
    show Code.wp _ _ _ _ _
    have pd3 := of_decide_eq_false cd3
    refine wp_skip ?_
    show Code.wp _ _ _ _ _
    refine wp_seq ?_
    refine deedL [.eq 3 (.string (⟨#[]⟩ : ByteArray)), .eq 0 (.int .i64 k), .w (Below w2.heap.size w2)] 20 [[]] [] [0, 1, 2] hM hN hD (by kernel_rfl) ⟨s0, ⟨Below.refl _ _, below_drew (Below.refl _ _)⟩, trivial⟩ ⟨fun _ _ hb h => below_step h hb, trivial⟩ (fun hgrow => ⟨fun _ _ _ => rv rfl (x_assign rfl rfl) rfl, trivial⟩) ?_
    clear s0 s5
    clear hN hD
    rintro a5 w5 hN hD ⟨s3, s0, hGR, -⟩
    replace HB := below_step HB hGR
    clear hGR
    show Code.wp _ _ _ _ _
    refine wp_seq ?_
    refine wp_block ?_
    refine wp_loopN (fun n_ q_ w_ => ∃ (l : Int) (s : ByteArray), (q_.tmps.size = 20) ∧ (q_.defers = []) ∧ (sl q_ 0 = .int .i64 l) ∧ (sl q_ 3 = .string s) ∧ (Below w.heap.size w w_) ∧ (0 ≤ l) ∧ ((s.size : Int) + l ≤ k) ∧ (mtl (l.toNat + 1) l s = mtl (k.toNat + 1) k ⟨#[]⟩) ∧ (n_ = l.toNat)) ((fun (l : Int) (s : ByteArray) => l.toNat) k (⟨#[]⟩ : ByteArray)) ?_ ?_
    · exact ⟨k, (⟨#[]⟩ : ByteArray), hN, hD, s0, s3, HB, (by omega), (by show (0 : Int) + k ≤ k; omega), rfl, rfl⟩
    clear s0 s3 HB hN hD
    rintro n_6 a6 w6 ⟨l, s, hN, hD, s0, s3, HB, hl0, hs, hmt, hmeas⟩
    refine wp_seq ?_
    refine wp_seq ?_
    refine deedL [.eq 6 (.int .i64 l), .eq 7 (.bool (decide (0 < l))), .eq 0 (.int .i64 l), .eq 3 (.string s), .w (Below w6.heap.size w6)] 20 [[2], [0]] [] [1, 2, 3, 4] hM hN hD (by kernel_rfl) ⟨s0, s3, ⟨Below.refl _ _, below_drew (Below.refl _ _)⟩, trivial⟩ ⟨fun _ _ hb h => below_step h hb, trivial⟩ (fun hgrow => ⟨fun _ _ h => rv rfl (x_move rfl h.1) rfl,
      fun _ _ h => rv rfl (x_gtr rfl h.1 rfl) rfl, trivial⟩) ?_
    clear s0 s3
    clear hN hD
    rintro a7 w7 hN hD ⟨s7, s0, s3, hGR, -⟩
    replace HB := below_step HB hGR
    clear hGR
    show Code.wp _ _ _ _ _
    refine wp_cond (t := decide (0 < l)) s7 ?_
    rcases Bool.eq_false_or_eq_true (decide (0 < l)) with cd8 | cd8
    · rw [cd8]
      show Code.wp _ _ _ _ _
      have pd8 := of_decide_eq_true cd8
      have hl1 := pd8
      refine wp_skip ?_
      show Code.wp _ _ _ _ _
      refine wp_block ?_
      refine wp_seq ?_
      have hq : 0 ≤ l.tmod 10 ∧ l.tmod 10 < 10 := by rw [Int.tmod_eq_emod_of_nonneg (by omega)]; omega
      refine deedL [.eq 8 (.int .i64 l), .eq 9 (.int .i64 (l.tmod 10)), .eq 10 (.int .i64 (48 + (l.tmod 10))), .eq 11 (.int .u8 (IntKind.u8.wrap (48 + l.tmod 10))), .s1 12 (NewL [.int .u8 (IntKind.u8.wrap (48 + l.tmod 10))] 5), .eq 13 (.string (byte1 (IntKind.u8.wrap (48 + l.tmod 10)))), .eq 14 (.string s), .eq 15 (.string (byte1 (IntKind.u8.wrap (48 + l.tmod 10)) ++ s)), .eq 3 (.string (byte1 (IntKind.u8.wrap (48 + l.tmod 10)) ++ s)), .eq 0 (.int .i64 l), .eq 3 (.string s), .w (Below w7.heap.size w7)] 20 [[9], [0], [1], [2], [3], [4], [10], [5, 6], [7]] [[], [], [], [], [], [], [], [], [10]] [8, 9, 11] hM hN hD (by kernel_rfl) ⟨s0, s3, ⟨Below.refl _ _, below_drew (Below.refl _ _)⟩, trivial⟩ ⟨fun _ _ _ hb h => h.grow hb, fun _ _ hb h => below_step h hb, trivial⟩ (fun hgrow => ⟨fun _ _ h => rv rfl (x_move rfl h.1) rfl,
        fun _ _ h => rv rfl (x_rem rfl h.1 rfl (by decide)) rfl,
        fun _ _ h => rv rfl (x_add' rfl rfl h.1 (by omega)) rfl,
        fun _ _ h => rv rfl (x_int rfl h.1 Try.underlying3 Try.underlying5) rfl,
        fun _ _ h => rbuild1 hgrow rfl rfl Try.underlying124 zi5 (by decide) (by decide) h.1 rfl rfl (fun _ _ z => z),
        fun _ _ h => rv rfl (x_str1 rfl h.1 Try.underlying124 Try.underlying5 Try.underlying9) rfl,
        fun _ _ h => rv rfl (x_move rfl h.1) rfl,
        fun _ _ h => rv rfl (x_sadd rfl h.1 h.2.1 (by rw [byte1_size]; omega)) rfl,
        fun _ _ h => rv rfl (x_assign rfl h.1) rfl, trivial⟩) ?_
      clear s0 s3 s7
      clear hN hD
      rintro a9 w9 hN hD ⟨s3, s0, hGR, -⟩
      replace HB := below_step HB hGR
      clear hGR
      show Code.wp _ _ _ _ _
      have hq2 : 0 ≤ l.tdiv 10 ∧ l.tdiv 10 < l := by rw [Int.tdiv_eq_ediv_of_nonneg (by omega)]; omega
      refine deedL [.eq 16 (.int .i64 l), .eq 17 (.int .i64 (l.tdiv 10)), .eq 0 (.int .i64 (l.tdiv 10)), .eq 0 (.int .i64 l), .eq 3 (.string (byte1 (IntKind.u8.wrap (48 + l.tmod 10)) ++ s)), .w (Below w9.heap.size w9)] 20 [[3], [0], [1]] [[], [], [3]] [2, 4, 5] hM hN hD (by kernel_rfl) ⟨s0, s3, ⟨Below.refl _ _, below_drew (Below.refl _ _)⟩, trivial⟩ ⟨fun _ _ hb h => below_step h hb, trivial⟩ (fun hgrow => ⟨fun _ _ h => rv rfl (x_move rfl h.1) rfl,
        fun _ _ h => rv rfl (x_quo' rfl h.1 rfl (by decide) (by omega)) rfl,
        fun _ _ h => rv rfl (x_assign rfl h.1) rfl, trivial⟩) ?_
      clear s0 s3
      clear hN hD
      rintro a10 w10 hN hD ⟨s0, s3, hGR, -⟩
      replace HB := below_step HB hGR
      clear hGR
      show ∃ m, m < n_6 ∧ _
      exact ⟨_, (by omega), ⟨(l.tdiv 10), byte1 (IntKind.u8.wrap (48 + l.tmod 10)) ++ s, hN, hD, s0, s3, HB, (by omega), (by rw [ByteArray.size_append, byte1_size]; omega), ((mtl_step s hl1).trans hmt), rfl⟩⟩
    · rw [cd8]
      show Code.wp _ _ _ _ _
      have pd8 := of_decide_eq_false cd8
      refine wp_exit (then_exit (then_exit (at_exit ?_)))
      show Code.wp _ _ _ _ _
      refine wp_seq ?_
      refine deedL [.eq 18 (.string s), .eq 19 (.string ((⟨#[109]⟩ : ByteArray) ++ s)), .eq 2 (.string ((⟨#[109]⟩ : ByteArray) ++ s)), .eq 3 (.string s), .w (Below w7.heap.size w7)] 20 [[3], [0], [1]] [] [2, 3, 4] hM hN hD (by kernel_rfl) ⟨s3, ⟨Below.refl _ _, below_drew (Below.refl _ _)⟩, trivial⟩ ⟨fun _ _ hb h => below_step h hb, trivial⟩ (fun hgrow => ⟨fun _ _ h => rv rfl (x_move rfl h.1) rfl,
        fun _ _ h => rv rfl (x_sadd rfl rfl h.1 (by rw [show (⟨#[109]⟩ : ByteArray).size = 1 from rfl]; omega)) rfl,
        fun _ _ h => rv rfl (x_assign rfl h.1) rfl, trivial⟩) ?_
      clear s0 s3 s7
      clear hN hD
      rintro a11 w11 hN hD ⟨s2, s3, hGR, -⟩
      replace HB := below_step HB hGR
      clear hGR
      show Code.wp _ _ _ _ _
      refine wp_ret ?_
      refine bodyPost_ret (results_single rfl (vtmp s2 .nil)) hD ?_
      exact ⟨by unfold mtext; rw [if_neg (by omega), ← hmt, mtl_done _ _ (by omega)], HB⟩
end Go.Proofs.Ytideafkiaipnoaa.Q
