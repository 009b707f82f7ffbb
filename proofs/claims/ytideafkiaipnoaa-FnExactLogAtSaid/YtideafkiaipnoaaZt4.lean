/- What the law needs, part 5 of 6. -/
import Derived.Test.YtideafkiaipnoaaZt2
import Derived.Test.YtideafkiaipnoaaZt3
import Derived.Test.YtideafkiaipnoaaZt0
import Derived.Test.YtideafkiaipnoaaZt1
/- The book's rows, read; an operation's copy appended. -/
namespace Go.Proofs.Ytideafkiaipnoaa.Q
set_option linter.unusedVariables false
set_option linter.unusedSimpArgs false
open Go Go.RowKit Go.Proofs.YtideafkiaipnoaaW.PrintWords Go.Proofs.Ytideafkiaipnoaa.Deed
/-- The operations of actor a, located. -/
def la (os : List Op) (D : Nat → Option Addr) (C : Nat → Nat) (a : Int) : List LO := (los os D C os.length).filter fun x => x.o.actor == a
def oa (os : List Op) (a : Int) : List Op := os.filter fun o => o.actor == a
theorem la_o (os : List Op) (D : Nat → Option Addr) (C : Nat → Nat) (a : Int) : (la os D C a).map LO.o = oa os a := by
  have h2 := los_ops (os := os) (D := D) (C := C) (Nat.le_refl os.length)
  rw [List.take_length] at h2
  unfold la oa
  conv => rhs; rw [← h2]
  rw [List.filter_map]
  rfl
theorem la_len (os : List Op) (D : Nat → Option Addr) (C : Nat → Nat) (a : Int) : (la os D C a).length = (oa os a).length := by rw [← la_o os D C a, List.length_map]
theorem oa_le (os : List Op) (a : Int) : (oa os a).length ≤ os.length := List.length_filter_le _ _
structure Fit (os : List Op) : Prop where
  len : os.length ≤ 1024
  steps : Steps os
theorem Fit.of (os : List Op) (h : iLogOK os = true) : Fit os := by
  have h1 : SLog os := slog_ilog.2 (iLogOK_iff.1 h)
  exact ⟨h1.1, h1.2.1⟩
theorem Fit.fine {os : List Op} (h : Fit os) {o : Op} (ho : o ∈ os) : OpFine o := by
  obtain ⟨k, hk, e⟩ := List.getElem_of_mem ho
  have e2 : go_ os (k : Int) = o := by simp [go_, List.getD_eq_getElem?_getD, hk, e]
  exact iOp_fine (e2 ▸ (h.steps k (by omega) (by omega)).1)
theorem Fit.deps {os : List Op} (h : Fit os) {o : Op} (ho : o ∈ os) : o.deps.length = 16 := (h.fine ho).vec.1
theorem lo_mem {os : List Op} {D : Nat → Option Addr} {C : Nat → Nat} {x : LO} (h : x ∈ los os D C os.length) : ∃ i, os[i]? = some x.o ∧ x.A = D i ∧ x.c = C i := by
  unfold los at h
  obtain ⟨i, hi, rfl⟩ := List.mem_map.1 h
  have hi' : i < os.length := by simpa using hi
  exact ⟨i, by simp [lo, List.getD_eq_getElem?_getD, hi'], rfl, rfl⟩
section
variable {w w9 W : World} {A : Option Addr} {os : List Op} {D : Nat → Option Addr} {C : Nat → Nat} {ok : Nat → Prop} {g : Nat} {vs : List Value}
/-- The row of an actor. -/
theorem book_rv (h : BookAt w9 ok W g vs (bk (los os D C os.length))) (HR : RO w A os D C) (hb : Below w.heap.size w W) (hf : Fit os) {a : Int} (h0 : 0 ≤ a) (h1 : a < 16) :
    ∃ Aa ca, vs.getD a.toNat undef = .slice Aa (la os D C a).length ca ∧ RV eLO W Aa (la os D C a) ∧ Caps (la os D C a) ∧ (la os D C a).length ≤ ca := by
  obtain ⟨hrow, _⟩ := h.row (i := a.toNat) (by omega)
  have hof : (bk (los os D C os.length)).of.getD a.toNat [] = la os D C a := by
    refine bk_of _ (fun x hx => ?_) h0 h1
    obtain ⟨i, hi, _⟩ := lo_mem hx
    have := hf.fine (List.mem_of_getElem? hi)
    exact ⟨this.a0, this.a1⟩
  rw [hof] at hrow
  have hro : ∀ x ∈ la os D C a, RI W x.A x.o.deps ∧ x.o.deps.length ≤ x.c := by
    intro x hx
    obtain ⟨i, hi, hA, hC⟩ := lo_mem (List.mem_filter.1 hx).1
    have := HR i x.o hi
    exact ⟨hA ▸ this.2.2.1.below hb, hC ▸ this.2.2.2⟩
  obtain ⟨inner, ⟨hl, ho⟩, hr1, hr2⟩ := hrow
  rcases ho with ⟨e, hn⟩ | ⟨g', cap, cur, e, _, hbk, hc, _, _, ht⟩
  · have hnil : la os D C a = [] := List.eq_nil_of_length_eq_zero hn
    rw [hnil]
    exact ⟨none, 0, e, RV.nil _ _, by intro y hy; simp at hy, Nat.le_refl _⟩
  · refine ⟨_, cap, e, fun i x hx => ⟨rfl, fun j u hu => ?_, fun B ys hB => by cases hB; exact (hro x (List.mem_of_getElem? hx)).1⟩, fun y hy => (hro y hy).2, hc⟩
    have h3 := hr2 i x hx
    have hj := enc_lt hu
    have hi : i < (la os D C a).length := (List.getElem?_eq_some_iff.1 hx).1
    have hj' : j < 12 := hj
    have h5 : i * 12 + j < (la os D C a).length * 12 := by omega
    have h4 : (inner.drop (i * 12)).take 12 = eLO.enc x := h3.1
    rw [← h4, ← ht, List.getElem?_take_of_lt hj', List.getElem?_drop, List.getElem?_take_of_lt h5] at hu
    show W.cell? ((⟨g', 0, none⟩ : Addr).add (i * 12 + j)) = some u
    rw [add_mk, Nat.zero_add]
    simp [World.cell?, hbk]
    simpa using hu
end
/-- The same over any list of located operations. -/
def laL (ls : List LO) (a : Int) : List LO := ls.filter fun x => x.o.actor == a
theorem laL_o (ls : List LO) (a : Int) : (laL ls a).map LO.o = oa (ls.map LO.o) a := by
  unfold laL oa
  rw [List.filter_map]
  rfl
theorem laL_len (ls : List LO) (a : Int) : (laL ls a).length = (oa (ls.map LO.o) a).length := by rw [← laL_o ls a, List.length_map]
theorem book_rvL {w9 W : World} {ok : Nat → Prop} {g : Nat} {vs : List Value} {ls : List LO} (h : BookAt w9 ok W g vs (bk ls)) (hro : ∀ x ∈ ls, RI W x.A x.o.deps ∧ x.o.deps.length ≤ x.c) (hact : ∀ x ∈ ls, 0 ≤ x.o.actor ∧ x.o.actor < 16) {a : Int} (h0 : 0 ≤ a) (h1 : a < 16) :
    ∃ Aa ca, vs.getD a.toNat undef = .slice Aa (laL ls a).length ca ∧ RV eLO W Aa (laL ls a) ∧ Caps (laL ls a) ∧ (laL ls a).length ≤ ca := by
  obtain ⟨hrow, _⟩ := h.row (i := a.toNat) (by omega)
  have hof : (bk ls).of.getD a.toNat [] = laL ls a := bk_of _ hact h0 h1
  rw [hof] at hrow
  have hro2 : ∀ x ∈ laL ls a, RI W x.A x.o.deps ∧ x.o.deps.length ≤ x.c := fun x hx => hro x (List.mem_filter.1 hx).1
  obtain ⟨inner, ⟨hl, ho⟩, hr1, hr2⟩ := hrow
  rcases ho with ⟨e, hn⟩ | ⟨g', cap, cur, e, _, hbk, hc, _, _, ht⟩
  · have hnil : laL ls a = [] := List.eq_nil_of_length_eq_zero hn
    rw [hnil]
    exact ⟨none, 0, e, RV.nil _ _, by intro y hy; simp at hy, Nat.le_refl _⟩
  · refine ⟨_, cap, e, fun i x hx => ⟨rfl, fun j u hu => ?_, fun B ys hB => by cases hB; exact (hro2 x (List.mem_of_getElem? hx)).1⟩, fun y hy => (hro2 y hy).2, hc⟩
    have h3 := hr2 i x hx
    have hj := enc_lt hu
    have hi : i < (laL ls a).length := (List.getElem?_eq_some_iff.1 hx).1
    have hj' : j < 12 := hj
    have h5 : i * 12 + j < (laL ls a).length * 12 := by omega
    have h4 : (inner.drop (i * 12)).take 12 = eLO.enc x := h3.1
    rw [← h4, ← ht, List.getElem?_take_of_lt hj', List.getElem?_drop, List.getElem?_take_of_lt h5] at hu
    show W.cell? ((⟨g', 0, none⟩ : Addr).add (i * 12 + j)) = some u
    rw [add_mk, Nat.zero_add]
    simp [World.cell?, hbk]
    simpa using hu
section
variable {P : Program} {ops : Array Oper} {l : List FS} {dead : List (List Nat)} {k : Nat} {o : Oper} {a : Act} {w W : World} {x y : Operand} {t : TypeId} {v : Value}
/-- An operation's copy appended to a row of one's own. -/
theorem rappCopy {z : Value} {bytes lo c : Nat} {ys : List LO} {p : Op} {A : Option Addr} (hg : o.guard = none) (ho : o.op = .call { callee := .builtin .append, args := #[x, y], argTypes := #[t, t] }) (ht : P.underlying t = some (.slice 67)) (hinfo : (P.info? 67).map (fun i => (i.zero, i.size, i.bytes)) = some (some z, 12, bytes)) (hz : z.cells.size = 12) (hb0 : 0 < bytes) (hb1 : bytes ≤ 4096)
    (hx : a.eval x = v) (hy : NewL (opc p A c) 67 (a.eval y) W) (HO : OwnRow RL 67 12 w 0 v ys) (HOW : OwnRow RL 67 12 W 0 v ys) (HI : Inn w ys lo) (hoi : OwnI W A p.deps w.heap.size W.heap.size) (hc : p.deps.length ≤ c) (hl : ys.length < 1048576) (hv : Above lo v) (hlo : lo ≤ w.heap.size) (hk0 : Kx (fun k => some k = v.ownBlock) w W)
    (h : ∀ v1 W', OwnRow RL 67 12 W' 0 v1 (ys ++ [⟨p, A, c⟩]) → Inn W' (ys ++ [⟨p, A, c⟩]) lo → Above lo v1 → Kx (fun k => some k = v.ownBlock) w W' → OweL l dead k o (sl a) W v1 W') : Runs P ops o a W (OweL l dead k o (sl a) W) := by
  have hbb : (ys.length + 1) * bytes ≤ 1048576 * 4096 := Nat.mul_le_mul (by omega) hb1
  refine rappend (R := RL) (p := ⟨p, A, c⟩) (w := w) hg ho ht hinfo hz (by omega) hb0 hx hy rfl rfl (by simp [Value.oneCell']) HOW (by omega) hv (Nat.le_trans hlo hk0.size) hk0 fun v1 W' h1 h2 h3 h4 => h v1 W' h1 (HI.snoc (HI.row HO h3) ?_ hc hlo) h2 h3
  refine (hoi.kx (kx_grown (S := fun k => some k = v.ownBlock) h4 fun i e => e) fun i u _ e => ?_).wide (Nat.le_refl _) h4.size
  obtain ⟨inner, hown, _⟩ := HO
  have := own_lt hown i e.symm
  omega
end
end Go.Proofs.Ytideafkiaipnoaa.Q

/- Functions walked. -/
namespace Go.Proofs.Ytideafkiaipnoaa.Q
open Go Go.RowKit Go.Proofs.YtideafkiaipnoaaW.PrintWords Go.Proofs.YtideafkiaipnoaaW.PrintLast Go.Proofs.Ytideafkiaipnoaa.Deed
set_option maxRecDepth 100000
set_option linter.unusedVariables false
set_option linter.unusedSimpArgs false
noncomputable def szI (n : Nat) (left : Int) : Int :=
 if (decide (left - (n : Int) < 0)) = true then (-1) else (left - (n : Int))
set_option maxHeartbeats 2000000 in
theorem szI_calls (n : Nat) (left : Int) (w : World) (A : Option Addr) (c : Nat) (hl0 : 0 ≤ left) (hl1 : left ≤ 1048576) (hn : n ≤ 9223372036854775807) : Calls Try.prog 56 #[.slice A n c, .int .i64 left] w fun e w' => e = .returned (.int .i64 (szI n left)) ∧ Below w.heap.size w w' := by
  refine calls_of_wp Try.func56 rfl ?_
  refine enter_ (N := 12) rfl ?_
  rintro a0 hN hD ⟨s0, s1, -⟩
  have HB : Below w.heap.size w w := Below.refl _ _
  refine wp_seq ?_
  refine deedL [.eq 4 (.int .i64 0), .eq 0 (.slice A n c), .eq 1 (.int .i64 left), .w (Below w.heap.size w)] 12 [[]] [] [1, 2, 3] hM hN hD (by kernel_rfl) ⟨s0, s1, ⟨Below.refl _ _, below_drew (Below.refl _ _)⟩, trivial⟩ ⟨fun _ _ hb h => below_step h hb, trivial⟩ (fun hgrow => ⟨fun _ _ _ => rv rfl (x_assign rfl rfl) rfl, trivial⟩) ?_
  clear s0 s1
  clear hN hD
  rintro a1 w1 hN hD ⟨s0, s1, hGR, -⟩
  replace HB := below_step HB hGR
  clear hGR
  show Code.wp _ _ _ _ _
  refine wp_seq ?_
  refine deedL [.eq 5 (.int .i64 left), .eq 6 (.slice A n c), .eq 7 (.int .i64 (n : Int)), .eq 8 (.int .i64 (left - (n : Int))), .eq 1 (.int .i64 (left - (n : Int))), .eq 0 (.slice A n c), .eq 1 (.int .i64 left), .w (Below w1.heap.size w1)] 12 [[6], [5], [1], [0, 2], [3]] [[], [], [], [], [6]] [4, 5, 7] hM hN hD (by kernel_rfl) ⟨s0, s1, ⟨Below.refl _ _, below_drew (Below.refl _ _)⟩, trivial⟩ ⟨fun _ _ hb h => below_step h hb, trivial⟩ (fun hgrow => ⟨fun _ _ h => rv rfl (x_move rfl h.1) rfl,
    fun _ _ h => rv rfl (x_move rfl h.1) rfl,
    fun _ _ h => rv rfl (x_len_slice rfl Try.underlying24 h.1) rfl,
    fun _ _ h => rv rfl (x_sub' rfl h.1 h.2.1 (by omega)) rfl,
    fun _ _ h => rv rfl (x_assign rfl h.1) rfl, trivial⟩) ?_
  clear s0 s1
  clear hN hD
  rintro a2 w2 hN hD ⟨s1, s0, hGR, -⟩
  replace HB := below_step HB hGR
  clear hGR
  show Code.wp _ _ _ _ _
  refine wp_seq ?_
  refine wp_seq ?_
  refine deedL [.eq 9 (.int .i64 (left - (n : Int))), .eq 10 (.bool (decide (left - (n : Int) < 0))), .eq 1 (.int .i64 (left - (n : Int))), .w (Below w2.heap.size w2)] 12 [[2], [0]] [] [1, 2, 3] hM hN hD (by kernel_rfl) ⟨s1, ⟨Below.refl _ _, below_drew (Below.refl _ _)⟩, trivial⟩ ⟨fun _ _ hb h => below_step h hb, trivial⟩ (fun hgrow => ⟨fun _ _ h => rv rfl (x_move rfl h.1) rfl,
    fun _ _ h => rv rfl (x_lss rfl h.1 rfl) rfl, trivial⟩) ?_
  clear s0 s1
  clear hN hD
  rintro a3 w3 hN hD ⟨s10, s1, hGR, -⟩
  replace HB := below_step HB hGR
  clear hGR
  show Code.wp _ _ _ _ _
  refine wp_cond (t := decide (left - (n : Int) < 0)) s10 ?_
  rcases Bool.eq_false_or_eq_true (decide (left - (n : Int) < 0)) with cd4 | cd4
  · rw [cd4]
    show Code.wp _ _ _ _ _
    have pd4 := of_decide_eq_true cd4
    refine wp_seq ?_
    refine deedL [.eq 4 (.int .i64 (-1)), .w (Below w3.heap.size w3)] 12 [[]] [] [0, 1] hM hN hD (by kernel_rfl) ⟨⟨Below.refl _ _, below_drew (Below.refl _ _)⟩, trivial⟩ ⟨fun _ _ hb h => below_step h hb, trivial⟩ (fun hgrow => ⟨fun _ _ _ => rv rfl (x_assign rfl rfl) rfl, trivial⟩) ?_
    clear s1 s10
    clear hN hD
    rintro a5 w5 hN hD ⟨s4, hGR, -⟩
    replace HB := below_step HB hGR
    clear hGR
    show Code.wp _ _ _ _ _
    refine wp_ret (then_ret ?_)
    refine bodyPost_ret (results_single rfl (vtmp s4 .nil)) hD ?_
    exact ⟨by simp only [szI, cd4, if_true, if_false, Bool.false_eq_true], HB⟩
  · rw [cd4]
    show Code.wp _ _ _ _ _
    have pd4 := of_decide_eq_false cd4
    refine wp_skip ?_
    show Code.wp _ _ _ _ _
    refine wp_seq ?_
    refine deedL [.eq 11 (.int .i64 (left - (n : Int))), .eq 4 (.int .i64 (left - (n : Int))), .eq 1 (.int .i64 (left - (n : Int))), .w (Below w3.heap.size w3)] 12 [[2], [0]] [] [1, 2, 3] hM hN hD (by kernel_rfl) ⟨s1, ⟨Below.refl _ _, below_drew (Below.refl _ _)⟩, trivial⟩ ⟨fun _ _ hb h => below_step h hb, trivial⟩ (fun hgrow => ⟨fun _ _ h => rv rfl (x_move rfl h.1) rfl,
      fun _ _ h => rv rfl (x_assign rfl h.1) rfl, trivial⟩) ?_
    clear s1 s10
    clear hN hD
    rintro a6 w6 hN hD ⟨s4, s1, hGR, -⟩
    replace HB := below_step HB hGR
    clear hGR
    show Code.wp _ _ _ _ _
    refine wp_ret ?_
    refine bodyPost_ret (results_single rfl (vtmp s4 .nil)) hD ?_
    exact ⟨by simp only [szI, cd4, if_true, if_false, Bool.false_eq_true], HB⟩
noncomputable def szV (n : Nat) (left : Int) : Int :=
 if (decide (szI n left < 0)) = true then (-1) else (szI n left)
set_option maxHeartbeats 2000000 in
theorem szV_calls (n : Nat) (left : Int) (w : World) (A : Option Addr) (c : Nat) (hl0 : 0 ≤ left) (hl1 : left ≤ 1048576) (hn : n ≤ 9223372036854775807) : Calls Try.prog 23 #[.agg #[Value.slice A n c], .int .i64 left] w fun e w' => e = .returned (.int .i64 (szV n left)) ∧ Below w.heap.size w w' := by
  refine calls_of_wp Try.func23 rfl ?_
  refine enter_ (N := 12) rfl ?_
  rintro a0 hN hD ⟨s0, s1, -⟩
  have HB : Below w.heap.size w w := Below.refl _ _
  refine wp_seq ?_
  refine deedL [.s1 2 (NewB w.heap.size [.slice A n c] 37), .eq 4 (.int .i64 0), .eq 0 (.agg #[Value.slice A n c]), .eq 1 (.int .i64 left), .w (Below w.heap.size w)] 12 [[4, 2], []] [] [0, 2, 3, 4] hM hN hD (by kernel_rfl) ⟨s0, s1, ⟨Below.refl _ _, below_drew (Below.refl _ _)⟩, trivial⟩ ⟨fun _ _ _ hb h => h.grow hb, fun _ _ hb h => below_step h hb, trivial⟩ (fun hgrow => ⟨fun _ _ h => rbox hgrow rfl (x_box rfl h.2.1) h.1.size (fun _ _ z => z),
    fun _ _ _ => rv rfl (x_assign rfl rfl) rfl, trivial⟩) ?_
  clear s0 s1
  clear hN hD
  rintro a1 w1 hN hD ⟨⟨g2, s2, lg2, HBX2⟩, s0, s1, hGR, -⟩
  replace HB := below_step HB hGR
  clear hGR
  show Code.wp _ _ _ _ _
  refine wp_seq ?_
  refine deedL [.eq 5 (.pointer (some ⟨g2, 0, none⟩)), .eq 6 (.slice A n c), .eq 7 (.int .i64 left), .eq 8 (.int .i64 (szI n left)), .eq 1 (.int .i64 (szI n left)), .eq 1 (.int .i64 left), .eq 2 (.pointer (some ⟨g2, 0, none⟩)), .w (Below w1.heap.size w1)] 12 [[6], [0, 7], [5], [1, 2], [3]] [[], [], [], [], [5]] [4, 6, 7] hM hN hD (by kernel_rfl) ⟨s1, s2, ⟨Below.refl _ _, below_drew (Below.refl _ _)⟩, trivial⟩ ⟨fun _ _ hb h => below_step h hb, trivial⟩ (fun hgrow => ⟨fun _ _ h => rv rfl (x_field rfl h.1 Try.underlying37 rfl sz24 (by decide) rfl) rfl,
    fun _ _ h => rv rfl (x_load1 rfl h.1 Try.underlying24 rfl (blk_one (L := [.slice A n c]) (blk_below HBX2 h.2.1) 0 rfl)) rfl,
    fun _ _ h => rv rfl (x_move rfl h.1) rfl,
    fun _ _ h => rc hgrow rfl Try.func56 (by kernel_rfl) rfl rfl (args2 h.1 h.2.1) (szI_calls n left _ A c hl0 hl1 hn) (fun _ _ h => ⟨_, h.1, h.2, rfl⟩),
    fun _ _ h => rv rfl (x_assign rfl h.1) rfl, trivial⟩) ?_
  clear s0 s1 s2
  clear hN hD
  rintro a2 w2 hN hD ⟨s1, s2, hGR, -⟩
  replace HB := below_step HB hGR
  replace HBX2 := blk_below HBX2 hGR
  clear hGR
  show Code.wp _ _ _ _ _
  refine wp_seq ?_
  refine wp_seq ?_
  refine deedL [.eq 9 (.int .i64 (szI n left)), .eq 10 (.bool (decide (szI n left < 0))), .eq 1 (.int .i64 (szI n left)), .w (Below w2.heap.size w2)] 12 [[2], [0]] [] [1, 2, 3] hM hN hD (by kernel_rfl) ⟨s1, ⟨Below.refl _ _, below_drew (Below.refl _ _)⟩, trivial⟩ ⟨fun _ _ hb h => below_step h hb, trivial⟩ (fun hgrow => ⟨fun _ _ h => rv rfl (x_move rfl h.1) rfl,
    fun _ _ h => rv rfl (x_lss rfl h.1 rfl) rfl, trivial⟩) ?_
  clear s2 s1
  clear hN hD
  rintro a3 w3 hN hD ⟨s10, s1, hGR, -⟩
  replace HB := below_step HB hGR
  replace HBX2 := blk_below HBX2 hGR
  clear hGR
  show Code.wp _ _ _ _ _
  refine wp_cond (t := decide (szI n left < 0)) s10 ?_
  rcases Bool.eq_false_or_eq_true (decide (szI n left < 0)) with cd4 | cd4
  · rw [cd4]
    show Code.wp _ _ _ _ _
    have pd4 := of_decide_eq_true cd4
    refine wp_seq ?_
    refine deedL [.eq 4 (.int .i64 (-1)), .w (Below w3.heap.size w3)] 12 [[]] [] [0, 1] hM hN hD (by kernel_rfl) ⟨⟨Below.refl _ _, below_drew (Below.refl _ _)⟩, trivial⟩ ⟨fun _ _ hb h => below_step h hb, trivial⟩ (fun hgrow => ⟨fun _ _ _ => rv rfl (x_assign rfl rfl) rfl, trivial⟩) ?_
    clear s1 s10
    clear hN hD
    rintro a5 w5 hN hD ⟨s4, hGR, -⟩
    replace HB := below_step HB hGR
    replace HBX2 := blk_below HBX2 hGR
    clear hGR
    show Code.wp _ _ _ _ _
    refine wp_ret (then_ret ?_)
    refine bodyPost_ret (results_single rfl (vtmp s4 .nil)) hD ?_
    exact ⟨by simp only [szV, cd4, if_true, if_false, Bool.false_eq_true], HB⟩
  · rw [cd4]
    show Code.wp _ _ _ _ _
    have pd4 := of_decide_eq_false cd4
    refine wp_skip ?_
    show Code.wp _ _ _ _ _
    refine wp_seq ?_
    refine deedL [.eq 11 (.int .i64 (szI n left)), .eq 4 (.int .i64 (szI n left)), .eq 1 (.int .i64 (szI n left)), .w (Below w3.heap.size w3)] 12 [[2], [0]] [] [1, 2, 3] hM hN hD (by kernel_rfl) ⟨s1, ⟨Below.refl _ _, below_drew (Below.refl _ _)⟩, trivial⟩ ⟨fun _ _ hb h => below_step h hb, trivial⟩ (fun hgrow => ⟨fun _ _ h => rv rfl (x_move rfl h.1) rfl,
      fun _ _ h => rv rfl (x_assign rfl h.1) rfl, trivial⟩) ?_
    clear s1 s10
    clear hN hD
    rintro a6 w6 hN hD ⟨s4, s1, hGR, -⟩
    replace HB := below_step HB hGR
    replace HBX2 := blk_below HBX2 hGR
    clear hGR
    show Code.wp _ _ _ _ _
    refine wp_ret ?_
    refine bodyPost_ret (results_single rfl (vtmp s4 .nil)) hD ?_
    exact ⟨by simp only [szV, cd4, if_true, if_false, Bool.false_eq_true], HB⟩
theorem szI_le {n : Nat} {left : Int} (hl : left ≤ 1048576) : szI n left ≤ 1048576 ∧ (0 ≤ szI n left → (n : Int) + szI n left ≤ left) := by
  unfold szI
  split <;> omega
theorem szV_le {n : Nat} {left : Int} (hl : left ≤ 1048576) : szV n left ≤ 1048576 ∧ (0 ≤ szV n left → (n : Int) + szV n left ≤ left) := by
  have := szI_le (n := n) hl
  unfold szV
  split
  · omega
  · exact this
noncomputable def szO (o : Op) (left : Int) : Int :=
 if (decide (szV o.deps.length left < 0)) = true then (-1) else (if (decide ((szV o.deps.length left) - (o.key.size : Int) < 0)) = true then (-1) else (if (decide (((szV o.deps.length left) - (o.key.size : Int)) - (o.text.size : Int) < 0)) = true then (-1) else (((szV o.deps.length left) - (o.key.size : Int)) - (o.text.size : Int))))
set_option maxHeartbeats 2000000 in
theorem szO_calls (o : Op) (left : Int) (w : World) (A : Option Addr) (c : Nat) (hl0 : 0 ≤ left) (hl1 : left ≤ 1048576) (hn : o.deps.length ≤ 9223372036854775807) (hk : o.key.size ≤ 9223372036854775807) (ht : o.text.size ≤ 9223372036854775807) : Calls Try.prog 46 #[.agg (opc o A c).toArray, .int .i64 left] w fun e w' => e = .returned (.int .i64 (szO o left)) ∧ Below w.heap.size w w' := by
  refine calls_of_wp Try.func46 rfl ?_
  refine enter_ (N := 26) rfl ?_
  rintro a0 hN hD ⟨s0, s1, -⟩
  have HB : Below w.heap.size w w := Below.refl _ _
  refine wp_seq ?_
  refine deedL [.s1 2 (NewB w.heap.size (opc o A c) 63), .eq 4 (.int .i64 0), .eq 0 (.agg (opc o A c).toArray), .eq 1 (.int .i64 left), .w (Below w.heap.size w)] 26 [[4, 2], []] [] [0, 2, 3, 4] hM hN hD (by kernel_rfl) ⟨s0, s1, ⟨Below.refl _ _, below_drew (Below.refl _ _)⟩, trivial⟩ ⟨fun _ _ _ hb h => h.grow hb, fun _ _ hb h => below_step h hb, trivial⟩ (fun hgrow => ⟨fun _ _ h => rbox hgrow rfl (x_box rfl h.2.1) h.1.size (fun _ _ z => z),
    fun _ _ _ => rv rfl (x_assign rfl rfl) rfl, trivial⟩) ?_
  clear s0 s1
  clear hN hD
  rintro a1 w1 hN hD ⟨⟨g2, s2, lg2, HBX2⟩, s0, s1, hGR, -⟩
  replace HB := below_step HB hGR
  clear hGR
  show Code.wp _ _ _ _ _
  refine wp_seq ?_
  have hv := szV_le (n := o.deps.length) hl1
  refine deedL [.eq 5 (.pointer (some ⟨g2, 3, none⟩)), .eq 6 (.agg #[Value.slice A o.deps.length c]), .eq 7 (.int .i64 left), .eq 8 (.int .i64 (szV o.deps.length left)), .eq 1 (.int .i64 (szV o.deps.length left)), .eq 1 (.int .i64 left), .eq 2 (.pointer (some ⟨g2, 0, none⟩)), .w (Below w1.heap.size w1)] 26 [[6], [0, 7], [5], [1, 2], [3]] [[], [], [], [], [5]] [4, 6, 7] hM hN hD (by kernel_rfl) ⟨s1, s2, ⟨Below.refl _ _, below_drew (Below.refl _ _)⟩, trivial⟩ ⟨fun _ _ hb h => below_step h hb, trivial⟩ (fun hgrow => ⟨fun _ _ h => rv rfl (x_field rfl h.1 Try.underlying63 rfl sz37 (by decide) rfl) rfl,
    fun _ _ h => rv rfl (x_loadS rfl h.1 Try.underlying37 [.slice A o.deps.length c] sz37 (blk_list (L := opc o A c) (blk_below HBX2 h.2.1) 3 rfl)) rfl,
    fun _ _ h => rv rfl (x_move rfl h.1) rfl,
    fun _ _ h => rc hgrow rfl Try.func23 (by kernel_rfl) rfl rfl (args2 h.1 h.2.1) (szV_calls o.deps.length left _ A c hl0 hl1 hn) (fun _ _ h => ⟨_, h.1, h.2, rfl⟩),
    fun _ _ h => rv rfl (x_assign rfl h.1) rfl, trivial⟩) ?_
  clear s0 s1 s2
  clear hN hD
  rintro a2 w2 hN hD ⟨s1, s2, hGR, -⟩
  replace HB := below_step HB hGR
  replace HBX2 := blk_below HBX2 hGR
  clear hGR
  show Code.wp _ _ _ _ _
  refine wp_seq ?_
  refine wp_seq ?_
  refine deedL [.eq 9 (.int .i64 (szV o.deps.length left)), .eq 10 (.bool (decide (szV o.deps.length left < 0))), .eq 1 (.int .i64 (szV o.deps.length left)), .eq 2 (.pointer (some ⟨g2, 0, none⟩)), .w (Below w2.heap.size w2)] 26 [[2], [0]] [] [1, 2, 3, 4] hM hN hD (by kernel_rfl) ⟨s1, s2, ⟨Below.refl _ _, below_drew (Below.refl _ _)⟩, trivial⟩ ⟨fun _ _ hb h => below_step h hb, trivial⟩ (fun hgrow => ⟨fun _ _ h => rv rfl (x_move rfl h.1) rfl,
    fun _ _ h => rv rfl (x_lss rfl h.1 rfl) rfl, trivial⟩) ?_
  clear s2 s1
  clear hN hD
  rintro a3 w3 hN hD ⟨s10, s1, s2, hGR, -⟩
  replace HB := below_step HB hGR
  replace HBX2 := blk_below HBX2 hGR
  clear hGR
  show Code.wp _ _ _ _ _
  refine wp_cond (t := decide (szV o.deps.length left < 0)) s10 ?_
  rcases Bool.eq_false_or_eq_true (decide (szV o.deps.length left < 0)) with cd4 | cd4
  · rw [cd4]
    show Code.wp _ _ _ _ _
    have pd4 := of_decide_eq_true cd4
    refine wp_seq ?_
    refine deedL [.eq 4 (.int .i64 (-1)), .w (Below w3.heap.size w3)] 26 [[]] [] [0, 1] hM hN hD (by kernel_rfl) ⟨⟨Below.refl _ _, below_drew (Below.refl _ _)⟩, trivial⟩ ⟨fun _ _ hb h => below_step h hb, trivial⟩ (fun hgrow => ⟨fun _ _ _ => rv rfl (x_assign rfl rfl) rfl, trivial⟩) ?_
    clear s1 s2 s10
    clear hN hD
    rintro a5 w5 hN hD ⟨s4, hGR, -⟩
    replace HB := below_step HB hGR
    replace HBX2 := blk_below HBX2 hGR
    clear hGR
    show Code.wp _ _ _ _ _
    refine wp_ret (then_ret ?_)
    refine bodyPost_ret (results_single rfl (vtmp s4 .nil)) hD ?_
    exact ⟨by simp only [szO, cd4, if_true, if_false, Bool.false_eq_true], HB⟩
  · rw [cd4]
    show Code.wp _ _ _ _ _
    have pd4 := of_decide_eq_false cd4
    refine wp_skip ?_
    show Code.wp _ _ _ _ _
    refine wp_seq ?_
    refine deedL [.eq 11 (.int .i64 (szV o.deps.length left)), .eq 12 (.pointer (some ⟨g2, 10, none⟩)), .eq 13 (.string o.key), .eq 14 (.int .i64 (o.key.size : Int)), .eq 15 (.int .i64 ((szV o.deps.length left) - (o.key.size : Int))), .eq 1 (.int .i64 ((szV o.deps.length left) - (o.key.size : Int))), .eq 1 (.int .i64 (szV o.deps.length left)), .eq 2 (.pointer (some ⟨g2, 0, none⟩)), .w (Below w3.heap.size w3)] 26 [[6], [7], [1, 8], [2], [0, 3], [4]] [[], [], [], [], [], [6]] [5, 7, 8] hM hN hD (by kernel_rfl) ⟨s1, s2, ⟨Below.refl _ _, below_drew (Below.refl _ _)⟩, trivial⟩ ⟨fun _ _ hb h => below_step h hb, trivial⟩ (fun hgrow => ⟨fun _ _ h => rv rfl (x_move rfl h.1) rfl,
      fun _ _ h => rv rfl (x_field rfl h.1 Try.underlying63 rfl sz9 (by decide) rfl) rfl,
      fun _ _ h => rv rfl (x_load1 rfl h.1 Try.underlying9 rfl (blk_one (L := opc o A c) (blk_below HBX2 h.2.1) 10 rfl)) rfl,
      fun _ _ h => rv rfl (x_len_string rfl Try.underlying9 h.1) rfl,
      fun _ _ h => rv rfl (x_sub' rfl h.1 h.2.1 (by omega)) rfl,
      fun _ _ h => rv rfl (x_assign rfl h.1) rfl, trivial⟩) ?_
    clear s1 s2 s10
    clear hN hD
    rintro a6 w6 hN hD ⟨s1, s2, hGR, -⟩
    replace HB := below_step HB hGR
    replace HBX2 := blk_below HBX2 hGR
    clear hGR
    show Code.wp _ _ _ _ _
    refine wp_seq ?_
    refine wp_seq ?_
    refine deedL [.eq 16 (.int .i64 ((szV o.deps.length left) - (o.key.size : Int))), .eq 17 (.bool (decide ((szV o.deps.length left) - (o.key.size : Int) < 0))), .eq 1 (.int .i64 ((szV o.deps.length left) - (o.key.size : Int))), .eq 2 (.pointer (some ⟨g2, 0, none⟩)), .w (Below w6.heap.size w6)] 26 [[2], [0]] [] [1, 2, 3, 4] hM hN hD (by kernel_rfl) ⟨s1, s2, ⟨Below.refl _ _, below_drew (Below.refl _ _)⟩, trivial⟩ ⟨fun _ _ hb h => below_step h hb, trivial⟩ (fun hgrow => ⟨fun _ _ h => rv rfl (x_move rfl h.1) rfl,
      fun _ _ h => rv rfl (x_lss rfl h.1 rfl) rfl, trivial⟩) ?_
    clear s2 s1
    clear hN hD
    rintro a7 w7 hN hD ⟨s17, s1, s2, hGR, -⟩
    replace HB := below_step HB hGR
    replace HBX2 := blk_below HBX2 hGR
    clear hGR
    show Code.wp _ _ _ _ _
    refine wp_cond (t := decide ((szV o.deps.length left) - (o.key.size : Int) < 0)) s17 ?_
    rcases Bool.eq_false_or_eq_true (decide ((szV o.deps.length left) - (o.key.size : Int) < 0)) with cd8 | cd8
    · rw [cd8]
      show Code.wp _ _ _ _ _
      have pd8 := of_decide_eq_true cd8
      refine wp_seq ?_
      refine deedL [.eq 4 (.int .i64 (-1)), .w (Below w7.heap.size w7)] 26 [[]] [] [0, 1] hM hN hD (by kernel_rfl) ⟨⟨Below.refl _ _, below_drew (Below.refl _ _)⟩, trivial⟩ ⟨fun _ _ hb h => below_step h hb, trivial⟩ (fun hgrow => ⟨fun _ _ _ => rv rfl (x_assign rfl rfl) rfl, trivial⟩) ?_
      clear s1 s2 s17
      clear hN hD
      rintro a9 w9 hN hD ⟨s4, hGR, -⟩
      replace HB := below_step HB hGR
      replace HBX2 := blk_below HBX2 hGR
      clear hGR
      show Code.wp _ _ _ _ _
      refine wp_ret (then_ret ?_)
      refine bodyPost_ret (results_single rfl (vtmp s4 .nil)) hD ?_
      exact ⟨by simp only [szO, cd4, cd8, if_true, if_false, Bool.false_eq_true], HB⟩
    · rw [cd8]
      show Code.wp _ _ _ _ _
      have pd8 := of_decide_eq_false cd8
      refine wp_skip ?_
      show Code.wp _ _ _ _ _
      refine wp_seq ?_
      refine deedL [.eq 18 (.int .i64 ((szV o.deps.length left) - (o.key.size : Int))), .eq 19 (.pointer (some ⟨g2, 11, none⟩)), .eq 20 (.string o.text), .eq 21 (.int .i64 (o.text.size : Int)), .eq 22 (.int .i64 (((szV o.deps.length left) - (o.key.size : Int)) - (o.text.size : Int))), .eq 1 (.int .i64 (((szV o.deps.length left) - (o.key.size : Int)) - (o.text.size : Int))), .eq 1 (.int .i64 ((szV o.deps.length left) - (o.key.size : Int))), .eq 2 (.pointer (some ⟨g2, 0, none⟩)), .w (Below w7.heap.size w7)] 26 [[6], [7], [1, 8], [2], [0, 3], [4]] [[], [], [], [], [], [6]] [5, 7, 8] hM hN hD (by kernel_rfl) ⟨s1, s2, ⟨Below.refl _ _, below_drew (Below.refl _ _)⟩, trivial⟩ ⟨fun _ _ hb h => below_step h hb, trivial⟩ (fun hgrow => ⟨fun _ _ h => rv rfl (x_move rfl h.1) rfl,
        fun _ _ h => rv rfl (x_field rfl h.1 Try.underlying63 rfl sz9 (by decide) rfl) rfl,
        fun _ _ h => rv rfl (x_load1 rfl h.1 Try.underlying9 rfl (blk_one (L := opc o A c) (blk_below HBX2 h.2.1) 11 rfl)) rfl,
        fun _ _ h => rv rfl (x_len_string rfl Try.underlying9 h.1) rfl,
        fun _ _ h => rv rfl (x_sub' rfl h.1 h.2.1 (by omega)) rfl,
        fun _ _ h => rv rfl (x_assign rfl h.1) rfl, trivial⟩) ?_
      clear s1 s2 s17
      clear hN hD
      rintro a10 w10 hN hD ⟨s1, s2, hGR, -⟩
      replace HB := below_step HB hGR
      replace HBX2 := blk_below HBX2 hGR
      clear hGR
      show Code.wp _ _ _ _ _
      refine wp_seq ?_
      refine wp_seq ?_
      refine deedL [.eq 23 (.int .i64 (((szV o.deps.length left) - (o.key.size : Int)) - (o.text.size : Int))), .eq 24 (.bool (decide (((szV o.deps.length left) - (o.key.size : Int)) - (o.text.size : Int) < 0))), .eq 1 (.int .i64 (((szV o.deps.length left) - (o.key.size : Int)) - (o.text.size : Int))), .w (Below w10.heap.size w10)] 26 [[2], [0]] [] [1, 2, 3] hM hN hD (by kernel_rfl) ⟨s1, ⟨Below.refl _ _, below_drew (Below.refl _ _)⟩, trivial⟩ ⟨fun _ _ hb h => below_step h hb, trivial⟩ (fun hgrow => ⟨fun _ _ h => rv rfl (x_move rfl h.1) rfl,
        fun _ _ h => rv rfl (x_lss rfl h.1 rfl) rfl, trivial⟩) ?_
      clear s2 s1
      clear hN hD
      rintro a11 w11 hN hD ⟨s24, s1, hGR, -⟩
      replace HB := below_step HB hGR
      replace HBX2 := blk_below HBX2 hGR
      clear hGR
      show Code.wp _ _ _ _ _
      refine wp_cond (t := decide (((szV o.deps.length left) - (o.key.size : Int)) - (o.text.size : Int) < 0)) s24 ?_
      rcases Bool.eq_false_or_eq_true (decide (((szV o.deps.length left) - (o.key.size : Int)) - (o.text.size : Int) < 0)) with cd12 | cd12
      · rw [cd12]
        show Code.wp _ _ _ _ _
        have pd12 := of_decide_eq_true cd12
        refine wp_seq ?_
        refine deedL [.eq 4 (.int .i64 (-1)), .w (Below w11.heap.size w11)] 26 [[]] [] [0, 1] hM hN hD (by kernel_rfl) ⟨⟨Below.refl _ _, below_drew (Below.refl _ _)⟩, trivial⟩ ⟨fun _ _ hb h => below_step h hb, trivial⟩ (fun hgrow => ⟨fun _ _ _ => rv rfl (x_assign rfl rfl) rfl, trivial⟩) ?_
        clear s1 s24
        clear hN hD
        rintro a13 w13 hN hD ⟨s4, hGR, -⟩
        replace HB := below_step HB hGR
        replace HBX2 := blk_below HBX2 hGR
        clear hGR
        show Code.wp _ _ _ _ _
        refine wp_ret (then_ret ?_)
        refine bodyPost_ret (results_single rfl (vtmp s4 .nil)) hD ?_
        exact ⟨by simp only [szO, cd4, cd8, cd12, if_true, if_false, Bool.false_eq_true], HB⟩
      · rw [cd12]
        show Code.wp _ _ _ _ _
        have pd12 := of_decide_eq_false cd12
        refine wp_skip ?_
        show Code.wp _ _ _ _ _
        refine wp_seq ?_
        refine deedL [.eq 25 (.int .i64 (((szV o.deps.length left) - (o.key.size : Int)) - (o.text.size : Int))), .eq 4 (.int .i64 (((szV o.deps.length left) - (o.key.size : Int)) - (o.text.size : Int))), .eq 1 (.int .i64 (((szV o.deps.length left) - (o.key.size : Int)) - (o.text.size : Int))), .w (Below w11.heap.size w11)] 26 [[2], [0]] [] [1, 2, 3] hM hN hD (by kernel_rfl) ⟨s1, ⟨Below.refl _ _, below_drew (Below.refl _ _)⟩, trivial⟩ ⟨fun _ _ hb h => below_step h hb, trivial⟩ (fun hgrow => ⟨fun _ _ h => rv rfl (x_move rfl h.1) rfl,
          fun _ _ h => rv rfl (x_assign rfl h.1) rfl, trivial⟩) ?_
        clear s1 s24
        clear hN hD
        rintro a14 w14 hN hD ⟨s4, s1, hGR, -⟩
        replace HB := below_step HB hGR
        replace HBX2 := blk_below HBX2 hGR
        clear hGR
        show Code.wp _ _ _ _ _
        refine wp_ret ?_
        refine bodyPost_ret (results_single rfl (vtmp s4 .nil)) hD ?_
        exact ⟨by simp only [szO, cd4, cd8, cd12, if_true, if_false, Bool.false_eq_true], HB⟩
theorem szO_le {o : Op} {left : Int} (hl : left ≤ 1048576) : szO o left ≤ 1048576 ∧ (0 ≤ szO o left → (o.deps.length : Int) + o.key.size + o.text.size + szO o left ≤ left) := by
  have hv := szV_le (n := o.deps.length) hl
  unfold szO
  simp only [decide_eq_true_eq]
  repeat' split
  all_goals omega
end Go.Proofs.Ytideafkiaipnoaa.Q

/- Functions walked. -/
namespace Go.Proofs.Ytideafkiaipnoaa.Q
open Go Go.RowKit Go.Proofs.YtideafkiaipnoaaW.PrintWords Go.Proofs.YtideafkiaipnoaaW.PrintLast Go.Proofs.Ytideafkiaipnoaa.Deed
set_option maxRecDepth 100000
set_option linter.unusedVariables false
set_option linter.unusedSimpArgs false
def wt (o : Op) : Int := (o.deps.length : Int) + o.key.size + o.text.size
def tot : List Op → Int
  | [] => 0
  | o :: r => wt o + tot r
theorem tot_snoc (l : List Op) (o : Op) : tot (l ++ [o]) = tot l + wt o := by
  induction l with
  | nil => simp [tot]
  | cons x r ih => simp only [List.cons_append, tot, ih]; omega
theorem tot_nn : ∀ l : List Op, 0 ≤ tot l
  | [] => by simp [tot]
  | o :: r => by have := tot_nn r; simp only [tot, wt]; omega
theorem wt_le_tot {l : List Op} {o : Op} (h : o ∈ l) : wt o ≤ tot l := by
  induction l with
  | nil => cases h
  | cons x r ih =>
    have hn := tot_nn r
    have hw : 0 ≤ wt x := by unfold wt; omega
    rcases List.mem_cons.1 h with e | e
    · subst e; simp only [tot]; omega
    · have := ih e; simp only [tot]; omega
/-- No length is past what the machine can hold. -/
def Held (os : List Op) : Prop := os.length ≤ 9223372036854775807 ∧ ∀ o ∈ os, o.deps.length ≤ 9223372036854775807 ∧ o.key.size ≤ 9223372036854775807 ∧ o.text.size ≤ 9223372036854775807
theorem Held.at_ {os : List Op} (h : Held os) {i : Int} (h0 : 0 ≤ i) (h1 : i < os.length) : (go_ os i).deps.length ≤ 9223372036854775807 ∧ (go_ os i).key.size ≤ 9223372036854775807 ∧ (go_ os i).text.size ≤ 9223372036854775807 := h.2 _ (List.mem_of_getElem? (go_of h0 h1))
set_option maxHeartbeats 2000000 in
theorem szOS_calls (A : Option Addr) (os : List Op) (D : Nat → Option Addr) (C : Nat → Nat) (c : Nat) (left : Int) (w : World) (HR : RO w A os D C) (HH : Held os) (hf0 : 0 ≤ left) (hf1 : left ≤ 1048576) : Calls Try.prog 12 #[.slice A os.length c, .int .i64 left] w fun e w' => ∃ r, e = .returned (.int .i64 r) ∧ (0 ≤ r → (os.length : Int) + tot os + r ≤ left) ∧ Below w.heap.size w w' := by
  refine calls_of_wp Try.func12 rfl ?_
  refine enter_ (N := 27) rfl ?_
  rintro a0 hN hD ⟨s0, s1, -⟩
  have HB : Below w.heap.size w w := Below.refl _ _
  refine wp_seq ?_
  refine deedL [.eq 4 (.int .i64 0), .eq 0 (.slice A os.length c), .eq 1 (.int .i64 left), .w (Below w.heap.size w)] 27 [[]] [] [1, 2, 3] hM hN hD (by kernel_rfl) ⟨s0, s1, ⟨Below.refl _ _, below_drew (Below.refl _ _)⟩, trivial⟩ ⟨fun _ _ hb h => below_step h hb, trivial⟩ (fun hgrow => ⟨fun _ _ _ => rv rfl (x_assign rfl rfl) rfl, trivial⟩) ?_
  clear s0 s1
  clear hN hD
  rintro a1 w1 hN hD ⟨s0, s1, hGR, -⟩
  replace HB := below_step HB hGR
  clear hGR
  show Code.wp _ _ _ _ _
  refine wp_seq ?_
  have hh1 := HH.1
  refine deedL [.eq 6 (.int .i64 left), .eq 7 (.slice A os.length c), .eq 8 (.int .i64 (os.length : Int)), .eq 9 (.int .i64 (left - (os.length : Int))), .eq 1 (.int .i64 (left - (os.length : Int))), .eq 0 (.slice A os.length c), .eq 1 (.int .i64 left), .w (Below w1.heap.size w1)] 27 [[6], [5], [1], [0, 2], [3]] [[], [], [], [], [6]] [4, 5, 7] hM hN hD (by kernel_rfl) ⟨s0, s1, ⟨Below.refl _ _, below_drew (Below.refl _ _)⟩, trivial⟩ ⟨fun _ _ hb h => below_step h hb, trivial⟩ (fun hgrow => ⟨fun _ _ h => rv rfl (x_move rfl h.1) rfl,
    fun _ _ h => rv rfl (x_move rfl h.1) rfl,
    fun _ _ h => rv rfl (x_len_slice rfl Try.underlying22 h.1) rfl,
    fun _ _ h => rv rfl (x_sub' rfl h.1 h.2.1 (by omega)) rfl,
    fun _ _ h => rv rfl (x_assign rfl h.1) rfl, trivial⟩) ?_
  clear s0 s1
  clear hN hD
  rintro a2 w2 hN hD ⟨s1, s0, hGR, -⟩
  replace HB := below_step HB hGR
  clear hGR
  show Code.wp _ _ _ _ _
  refine wp_seq ?_
  refine wp_seq ?_
  refine deedL [.eq 10 (.int .i64 (left - (os.length : Int))), .eq 11 (.bool (decide (left - (os.length : Int) < 0))), .eq 0 (.slice A os.length c), .eq 1 (.int .i64 (left - (os.length : Int))), .w (Below w2.heap.size w2)] 27 [[3], [0]] [] [1, 2, 3, 4] hM hN hD (by kernel_rfl) ⟨s0, s1, ⟨Below.refl _ _, below_drew (Below.refl _ _)⟩, trivial⟩ ⟨fun _ _ hb h => below_step h hb, trivial⟩ (fun hgrow => ⟨fun _ _ h => rv rfl (x_move rfl h.1) rfl,
    fun _ _ h => rv rfl (x_lss rfl h.1 rfl) rfl, trivial⟩) ?_
  clear s0 s1
  clear hN hD
  rintro a3 w3 hN hD ⟨s11, s0, s1, hGR, -⟩
  replace HB := below_step HB hGR
  clear hGR
  show Code.wp _ _ _ _ _
  refine wp_cond (t := decide (left - (os.length : Int) < 0)) s11 ?_
  rcases Bool.eq_false_or_eq_true (decide (left - (os.length : Int) < 0)) with cd4 | cd4
  · rw [cd4]
    show Code.wp _ _ _ _ _
    have pd4 := of_decide_eq_true cd4
    refine wp_seq ?_
    refine deedL [.eq 4 (.int .i64 (-1)), .w (Below w3.heap.size w3)] 27 [[]] [] [0, 1] hM hN hD (by kernel_rfl) ⟨⟨Below.refl _ _, below_drew (Below.refl _ _)⟩, trivial⟩ ⟨fun _ _ hb h => below_step h hb, trivial⟩ (fun hgrow => ⟨fun _ _ _ => rv rfl (x_assign rfl rfl) rfl, trivial⟩) ?_
    clear s0 s1 s11
    clear hN hD
    rintro a5 w5 hN hD ⟨s4, hGR, -⟩
    replace HB := below_step HB hGR
    clear hGR
    show Code.wp _ _ _ _ _
    refine wp_ret (then_ret ?_)
    refine bodyPost_ret (results_single rfl (vtmp s4 .nil)) hD ?_
    exact ⟨-1, rfl, fun h => by omega, HB⟩
  · rw [cd4]
    show Code.wp _ _ _ _ _
    have pd4 := of_decide_eq_false cd4
    refine wp_skip ?_
    show Code.wp _ _ _ _ _
    refine wp_seq ?_
    refine wp_seq ?_
    refine deedL [.eq 5 (.int .i64 0), .eq 0 (.slice A os.length c), .eq 1 (.int .i64 (left - (os.length : Int))), .w (Below w3.heap.size w3)] 27 [[]] [] [0, 1, 2, 3] hM hN hD (by kernel_rfl) ⟨s0, s1, ⟨Below.refl _ _, below_drew (Below.refl _ _)⟩, trivial⟩ ⟨fun _ _ hb h => below_step h hb, trivial⟩ (fun hgrow => ⟨fun _ _ _ => rv rfl (x_assign rfl rfl) rfl, trivial⟩) ?_
    clear s0 s1 s11
    clear hN hD
    rintro a6 w6 hN hD ⟨s5, s0, s1, hGR, -⟩
    replace HB := below_step HB hGR
    clear hGR
    show Code.wp _ _ _ _ _
    refine wp_block ?_
    refine wp_loopN (fun n_ q_ w_ => ∃ (i : Int) (l : Int), (q_.tmps.size = 27) ∧ (q_.defers = []) ∧ (sl q_ 0 = .slice A os.length c) ∧ (sl q_ 1 = .int .i64 l) ∧ (sl q_ 5 = .int .i64 i) ∧ (Below w.heap.size w w_) ∧ (0 ≤ i) ∧ (i ≤ os.length) ∧ (0 ≤ l) ∧ ((os.length : Int) + tot (os.take i.toNat) + l ≤ left) ∧ (n_ = (os.length - i).toNat)) ((fun (i : Int) (l : Int) => (os.length - i).toNat) 0 (left - os.length)) ?_ ?_
    · exact ⟨0, (left - os.length), hN, hD, s0, s1, s5, HB, (by omega), (by omega), (by omega), (by show (os.length : Int) + 0 + (left - os.length) ≤ left; omega), rfl⟩
    clear s0 s1 s5 HB hN hD
    rintro n_7 a7 w7 ⟨i, l, hN, hD, s0, s1, s5, HB, hi0, hi1, hl0, hl, hmeas⟩
    refine wp_seq ?_
    refine wp_seq ?_
    refine deedL [.eq 12 (.int .i64 i), .eq 13 (.slice A os.length c), .eq 14 (.int .i64 (os.length : Int)), .eq 15 (.bool (decide (i < (os.length : Int)))), .eq 0 (.slice A os.length c), .eq 1 (.int .i64 l), .eq 5 (.int .i64 i), .w (Below w7.heap.size w7)] 27 [[6], [4], [1], [0, 2]] [] [3, 4, 5, 6, 7] hM hN hD (by kernel_rfl) ⟨s0, s1, s5, ⟨Below.refl _ _, below_drew (Below.refl _ _)⟩, trivial⟩ ⟨fun _ _ hb h => below_step h hb, trivial⟩ (fun hgrow => ⟨fun _ _ h => rv rfl (x_move rfl h.1) rfl,
      fun _ _ h => rv rfl (x_move rfl h.1) rfl,
      fun _ _ h => rv rfl (x_len_slice rfl Try.underlying22 h.1) rfl,
      fun _ _ h => rv rfl (x_lss rfl h.1 h.2.1) rfl, trivial⟩) ?_
    clear s0 s1 s5
    clear hN hD
    rintro a8 w8 hN hD ⟨s15, s0, s1, s5, hGR, -⟩
    replace HB := below_step HB hGR
    clear hGR
    show Code.wp _ _ _ _ _
    refine wp_cond (t := decide (i < (os.length : Int))) s15 ?_
    rcases Bool.eq_false_or_eq_true (decide (i < (os.length : Int))) with cd9 | cd9
    · rw [cd9]
      show Code.wp _ _ _ _ _
      have pd9 := of_decide_eq_true cd9
      have hi2 := pd9
      refine wp_skip ?_
      show Code.wp _ _ _ _ _
      refine wp_seq ?_
      refine wp_block ?_
      refine wp_seq ?_
      have hh := HH.at_ hi0 hi2
      have hnn := tot_nn (os.take i.toNat)
      have hz := szO_le (o := go_ os i) (left := l) (by omega)
      refine deedL [.eq 18 (.slice A os.length c), .eq 19 (.int .i64 i), .eq 20 (.pointer (some ((adr A).add (i.toNat * 12)))), .eq 21 (.agg (opc (go_ os i) (D i.toNat) (C i.toNat)).toArray), .eq 22 (.int .i64 l), .eq 23 (.int .i64 (szO (go_ os i) l)), .eq 1 (.int .i64 (szO (go_ os i) l)), .eq 0 (.slice A os.length c), .eq 1 (.int .i64 l), .eq 5 (.int .i64 i), .w (Below w8.heap.size w8)] 27 [[7], [9], [0, 1], [2, 10], [8], [3, 4], [5]] [[], [], [], [], [], [], [8]] [6, 7, 9, 10] hM hN hD (by kernel_rfl) ⟨s0, s1, s5, ⟨Below.refl _ _, below_drew (Below.refl _ _)⟩, trivial⟩ ⟨fun _ _ hb h => below_step h hb, trivial⟩ (fun hgrow => ⟨fun _ _ h => rv rfl (x_move rfl h.1) rfl,
        fun _ _ h => rv rfl (x_move rfl h.1) rfl,
        fun _ _ h => rv rfl (x_index_at rfl h.1 h.2.1 Try.underlying22 sz63 (by omega) (by omega) (RO.ad HR i (by omega) (by omega))) rfl,
        fun _ _ h => rv rfl (x_loadS rfl h.1 Try.underlying63 (opc (go_ os i) (D i.toNat) (C i.toNat)) sz63 (RO.cells HR (below_step HB h.2.1) (by omega) (by omega))) rfl,
        fun _ _ h => rv rfl (x_move rfl h.1) rfl,
        fun _ _ h => rc hgrow rfl Try.func46 (by kernel_rfl) rfl rfl (args2 h.1 h.2.1) (szO_calls (go_ os i) l _ (D i.toNat) (C i.toNat) hl0 (by omega) hh.1 hh.2.1 hh.2.2) (fun _ _ h => ⟨_, h.1, h.2, rfl⟩),
        fun _ _ h => rv rfl (x_assign rfl h.1) rfl, trivial⟩) ?_
      clear s0 s1 s5 s15
      clear hN hD
      rintro a10 w10 hN hD ⟨s1, s0, s5, hGR, -⟩
      replace HB := below_step HB hGR
      clear hGR
      show Code.wp _ _ _ _ _
      refine wp_seq ?_
      refine deedL [.eq 24 (.int .i64 (szO (go_ os i) l)), .eq 25 (.bool (decide (szO (go_ os i) l < 0))), .eq 0 (.slice A os.length c), .eq 1 (.int .i64 (szO (go_ os i) l)), .eq 5 (.int .i64 i), .w (Below w10.heap.size w10)] 27 [[3], [0]] [] [1, 2, 3, 4, 5] hM hN hD (by kernel_rfl) ⟨s0, s1, s5, ⟨Below.refl _ _, below_drew (Below.refl _ _)⟩, trivial⟩ ⟨fun _ _ hb h => below_step h hb, trivial⟩ (fun hgrow => ⟨fun _ _ h => rv rfl (x_move rfl h.1) rfl,
        fun _ _ h => rv rfl (x_lss rfl h.1 rfl) rfl, trivial⟩) ?_
      clear s0 s5 s1
      clear hN hD
      rintro a11 w11 hN hD ⟨s25, s0, s1, s5, hGR, -⟩
      replace HB := below_step HB hGR
      clear hGR
      show Code.wp _ _ _ _ _
      refine wp_cond (t := decide (szO (go_ os i) l < 0)) s25 ?_
      rcases Bool.eq_false_or_eq_true (decide (szO (go_ os i) l < 0)) with cd12 | cd12
      · rw [cd12]
        show Code.wp _ _ _ _ _
        have pd12 := of_decide_eq_true cd12
        refine wp_seq ?_
        refine deedL [.eq 4 (.int .i64 (-1)), .w (Below w11.heap.size w11)] 27 [[]] [] [0, 1] hM hN hD (by kernel_rfl) ⟨⟨Below.refl _ _, below_drew (Below.refl _ _)⟩, trivial⟩ ⟨fun _ _ hb h => below_step h hb, trivial⟩ (fun hgrow => ⟨fun _ _ _ => rv rfl (x_assign rfl rfl) rfl, trivial⟩) ?_
        clear s0 s1 s5 s25
        clear hN hD
        rintro a13 w13 hN hD ⟨s4, hGR, -⟩
        replace HB := below_step HB hGR
        clear hGR
        show Code.wp _ _ _ _ _
        refine wp_ret (blk_ret (then_ret (then_ret (blk_ret (then_ret ?_)))))
        refine bodyPost_ret (results_single rfl (vtmp s4 .nil)) hD ?_
        exact ⟨-1, rfl, fun h => by omega, HB⟩
      · rw [cd12]
        show Code.wp _ _ _ _ _
        have pd12 := of_decide_eq_false cd12
        refine wp_skip ?_
        show Code.wp _ _ _ _ _
        refine deedL [.eq 16 (.int .i64 i), .eq 17 (.int .i64 (i + 1)), .eq 5 (.int .i64 (i + 1)), .eq 0 (.slice A os.length c), .eq 1 (.int .i64 (szO (go_ os i) l)), .eq 5 (.int .i64 i), .w (Below w11.heap.size w11)] 27 [[5], [0], [1]] [[], [], [5]] [2, 3, 4, 6] hM hN hD (by kernel_rfl) ⟨s0, s1, s5, ⟨Below.refl _ _, below_drew (Below.refl _ _)⟩, trivial⟩ ⟨fun _ _ hb h => below_step h hb, trivial⟩ (fun hgrow => ⟨fun _ _ h => rv rfl (x_move rfl h.1) rfl,
          fun _ _ h => rv rfl (x_add' rfl h.1 rfl (by omega)) rfl,
          fun _ _ h => rv rfl (x_assign rfl h.1) rfl, trivial⟩) ?_
        clear s0 s1 s5 s25
        clear hN hD
        rintro a14 w14 hN hD ⟨s5, s0, s1, hGR, -⟩
        replace HB := below_step HB hGR
        clear hGR
        show ∃ m, m < n_7 ∧ _
        exact ⟨_, (by omega), ⟨(i + 1), (szO (go_ os i) l), hN, hD, s0, s1, s5, HB, (by omega), (by omega), (by omega), (by rw [take_snoc hi0 hi2, tot_snoc]; unfold wt; omega), rfl⟩⟩
    · rw [cd9]
      show Code.wp _ _ _ _ _
      have pd9 := of_decide_eq_false cd9
      refine wp_exit (then_exit (then_exit (at_exit ?_)))
      show Code.wp _ _ _ _ _
      refine wp_seq ?_
      refine deedL [.eq 26 (.int .i64 l), .eq 4 (.int .i64 l), .eq 1 (.int .i64 l), .w (Below w8.heap.size w8)] 27 [[2], [0]] [] [1, 2, 3] hM hN hD (by kernel_rfl) ⟨s1, ⟨Below.refl _ _, below_drew (Below.refl _ _)⟩, trivial⟩ ⟨fun _ _ hb h => below_step h hb, trivial⟩ (fun hgrow => ⟨fun _ _ h => rv rfl (x_move rfl h.1) rfl,
        fun _ _ h => rv rfl (x_assign rfl h.1) rfl, trivial⟩) ?_
      clear s0 s1 s5 s15
      clear hN hD
      rintro a15 w15 hN hD ⟨s4, s1, hGR, -⟩
      replace HB := below_step HB hGR
      clear hGR
      show Code.wp _ _ _ _ _
      refine wp_ret ?_
      refine bodyPost_ret (results_single rfl (vtmp s4 .nil)) hD ?_
      exact ⟨_, rfl, fun _ => (by rw [show i.toNat = os.length by omega, List.take_length] at hl; exact hl), HB⟩
end Go.Proofs.Ytideafkiaipnoaa.Q

/- What the law asks of a log: its size, its marks. -/
namespace Go.Proofs.Ytideafkiaipnoaa.Q
set_option linter.unusedVariables false
set_option linter.unusedSimpArgs false
open Go Go.RowKit Go.Proofs.YtideafkiaipnoaaW.PrintWords Go.Proofs.Ytideafkiaipnoaa.Deed
theorem szOpS_L (A : Option Addr) (ys : List LO) (c : Nat) (left : Int) (w : World) (HR : RV eLO w A ys) (HC : Caps ys) (HH : Held (ys.map LO.o)) (h0 : 0 ≤ left) (h1 : left ≤ 1048576) :
    Calls Try.prog 12 #[.slice A ys.length c, .int .i64 left] w fun e w' => ∃ r, e = .returned (.int .i64 r) ∧ (0 ≤ r → (ys.length : Int) + tot (ys.map LO.o) + r ≤ left) ∧ Below w.heap.size w w' := by
  have := szOS_calls A (ys.map LO.o) (dA ys) (dC ys) c left w (RO_of HR HC) HH h0 h1
  rwa [List.length_map] at this
theorem dep_le {ys : List LO} {n : Int} (h : tot (ys.map LO.o) ≤ n) : ∀ x ∈ ys, (x.o.deps.length : Int) ≤ n := by
  intro x hx
  have := wt_le_tot (List.mem_map_of_mem (f := LO.o) hx)
  unfold wt at this
  omega
theorem dep_le' {ys : List LO} {n : Nat} (h : tot (ys.map LO.o) ≤ n) : ∀ x ∈ ys, x.o.deps.length ≤ n := fun x hx => by have := dep_le h x hx; omega
theorem cnt_tot (ys : List LO) : cntL mLO ys ≤ 11 * ys.length + tot (ys.map LO.o) := by
  induction ys with
  | nil => simp [cntL, tot]
  | cons x r ih =>
    have h1 : mLO.cnt x = 11 + (x.o.deps.length : Int) := rfl
    simp only [cntL, List.map_cons, tot, List.length_cons, wt, h1]
    omega
theorem len_of {ys ls : List LO} (h : ys.map LO.o = ls.map LO.o) : ys.length = ls.length := by simpa using congrArg List.length h
theorem len_of' {ys : List LO} {os : List Op} (h : ys.map LO.o = os) : ys.length = os.length := by rw [← h, List.length_map]
theorem toOpS_L (A : Option Addr) (xs : List LO) (c : Nat) (w : World) (HR : RV eLO w A xs) (hxn : xs.length ≤ 1048576) (hdl : ∀ x ∈ xs, x.o.deps.length ≤ 1048576) :
    Calls Try.prog 14 #[.slice A xs.length c] w fun e w' => ∃ A c ys, e = .returned (.slice A (xs.map LO.o).length c) ∧ OwnAt eLO w' A ys w.heap.size w'.heap.size ∧ ys.map LO.o = xs.map LO.o ∧ Caps ys ∧ Below w.heap.size w w' := by
  refine (toseLO_calls A xs c w HR hxn hdl).mono ?_
  rintro e w' ⟨A', c', ys, rfl, _, h1, h2, h3, hb⟩
  exact ⟨A', c', ys, by rw [len_of' h2], h1, h2, h3, hb⟩
theorem eqOpS_L (A : Option Addr) (xs : List LO) (c : Nat) (os : List Op) (E : Option Addr) (ys : List LO) (d : Nat) (ps : List Op) (w : World) (h1 : xs.map LO.o = os) (h2 : ys.map LO.o = ps) (HR1 : RV eLO w A xs) (HR2 : RV eLO w E ys) (hxn : os.length ≤ 1099511627776) (hn : ∀ o ∈ os, o.deps.length ≤ 1099511627776) :
    Calls Try.prog 17 #[.slice A os.length c, .slice E ps.length d] w fun e w' => e = .returned (.bool (eqB os ps)) ∧ Below w.heap.size w w' := by
  subst h1 h2
  have := eqseLO_calls A xs c E ys d w HR1 HR2 (by rwa [List.length_map] at hxn) (fun x hx => hn _ (List.mem_map_of_mem hx))
  rw [List.length_map, List.length_map]
  exact this
theorem markOpS_L (A : Option Addr) (xs : List LO) (c : Nat) (os : List Op) (k : Int) (lo hi : Nat) (w : World) (h1 : xs.map LO.o = os) (HOW : OwnAt eLO w A xs lo hi) (hk0 : 0 ≤ k) (hk1 : k + cntL mLO xs ≤ 4503599627370496) (hxn : os.length ≤ 1099511627776) :
    Calls Try.prog 18 #[.slice A os.length c, .int .i64 k] w fun e w' => e = .returned (.int .i64 (k + cntL mLO xs)) ∧ OwnAt eLO w' A (mkL mLO xs k) lo hi ∧ Kx (Mine lo hi) w w' := by
  subst h1
  rw [List.length_map] at hxn ⊢
  exact markeLO_calls A xs c k lo hi w HOW hk0 hk1 hxn
theorem markI_L (A : Option Addr) (xs : List Int) (c : Nat) (k : Int) (lo hi : Nat) (w : World) (HOW : OwnI w A xs lo hi) (hk0 : 0 ≤ k) (hk1 : k + xs.length ≤ 4503599627370496) :
    Calls Try.prog 19 #[.slice A xs.length c, .int .i64 k] w fun e w' => e = .returned (.int .i64 (k + xs.length)) ∧ OwnI w' A (mk k xs.length) lo hi ∧ Kx (Mine lo hi) w w' := by
  by_cases hne : xs = []
  · subst hne
    refine (markI_calls w.heap.size A 0 c k w (.inl rfl) hk0 hk1).mono ?_
    rintro e w' ⟨h1, _, h3⟩
    exact ⟨h1, .inl rfl, ⟨h3.os, h3.tape, h3.output, h3.size, fun j hj _ => h3.block j hj (by omega)⟩⟩
  · obtain ⟨g, hB, hlo, hhi, hWI⟩ := HOW.WI hne
    refine (markI_calls g A xs.length c k w hWI hk0 hk1).mono ?_
    rintro e w' ⟨h1, h2, h3⟩
    exact ⟨h1, h2.own hlo hhi, kx_wide h3 fun j e => by subst e; exact ⟨hlo, hhi⟩⟩
theorem cnt_mkL (ys : List LO) : ∀ k : Int, cntL mLO (mkL mLO ys k) = cntL mLO ys := by
  induction ys with
  | nil => intro k; rfl
  | cons x r ih => intro k; simp only [mkL, cntL, ih, mLO.same]
theorem heldOpS_L (A : Option Addr) (v : List LO) (c : Nat) (os : List Op) (k : Int) (w : World) (hm : v.map LO.o = os) (HR : RV eLO w A (mkL mLO v k)) (hk0 : 0 ≤ k) (hk1 : k + cntL mLO v ≤ 4503599627370496) (hxn : os.length ≤ 1099511627776) :
    Calls Try.prog 29 #[.slice A os.length c, .int .i64 k] w fun e w' => e = .returned (.int .i64 (k + cntL mLO v)) ∧ Below w.heap.size w w' := by
  subst hm
  rw [List.length_map] at hxn ⊢
  have := heldeLO_calls A (mkL mLO v k) c k w HR hk0 (by rwa [cnt_mkL]) (by rwa [mkL_length])
  rwa [mkL_length, held_mk] at this
end Go.Proofs.Ytideafkiaipnoaa.Q

/- What a vector does not count: plain. -/
namespace Go.Proofs.Ytideafkiaipnoaa.Q
set_option linter.unusedVariables false
set_option linter.unusedSimpArgs false
open Go Go.RowKit Go.Proofs.YtideafkiaipnoaaW.PrintWords Go.Proofs.Ytideafkiaipnoaa.Deed
theorem flat_upto {os : List Op} (h : os.Pairwise fun x y => x.actor ≤ y.actor) (h0 : ∀ o ∈ os, 0 ≤ o.actor) (n : Nat) : (List.range n).flatMap (fun (b : Nat) => oa os (b : Int)) = os.filter fun o => decide (o.actor < (n : Int)) := by
  induction n with
  | zero =>
    rw [List.range_zero, List.flatMap_nil, eq_comm, List.filter_eq_nil_iff]
    intro o ho
    have := h0 o ho
    simp; omega
  | succ n ih =>
    rw [List.range_succ, List.flatMap_append, ih, List.flatMap_cons, List.flatMap_nil, List.append_nil]
    have h1 := split_at h (n : Int)
    have h2 : os.filter (fun o => decide (o.actor < ((n + 1 : Nat) : Int))) = (os.filter (fun o => decide (o.actor < (n : Int))) ++ (os.filter (fun o => o.actor == (n : Int)) ++ os.filter (fun o => decide ((n : Int) < o.actor)))).filter (fun o => decide (o.actor < ((n + 1 : Nat) : Int))) := by rw [← h1]
    rw [h2, List.filter_append, List.filter_append, List.filter_filter, List.filter_filter, List.filter_filter]
    have e1 : os.filter (fun o => decide (o.actor < ((n + 1 : Nat) : Int)) && decide (o.actor < (n : Int))) = os.filter (fun o => decide (o.actor < (n : Int))) := by
      apply List.filter_congr; intro o _; simp; omega
    have e2 : os.filter (fun o => decide (o.actor < ((n + 1 : Nat) : Int)) && (o.actor == (n : Int))) = os.filter (fun o => o.actor == (n : Int)) := by
      apply List.filter_congr; intro o _
      by_cases e : o.actor = (n : Int)
      · simp [e]; omega
      · simp [e]
    have e3 : os.filter (fun o => decide (o.actor < ((n + 1 : Nat) : Int)) && decide ((n : Int) < o.actor)) = [] := by
      rw [List.filter_eq_nil_iff]; intro o _; simp; omega
    rw [e1, e2, e3, List.append_nil]
    rfl
theorem flat_all {os : List Op} (hf : Fit os) : (List.range 16).flatMap (fun (b : Nat) => oa os (b : Int)) = os := by
  rw [flat_upto hf.steps.sorted.pair (fun o ho => (hf.fine ho).a0) 16, List.filter_eq_self]
  intro o ho
  have := (hf.fine ho).a1
  simp; omega
theorem gd_go (ls : List LO) (i : Int) : (gd ls i).o = go_ (ls.map LO.o) i := by
  unfold gd go_
  rw [List.getD_eq_getElem?_getD, List.getD_eq_getElem?_getD, List.getElem?_map]
  cases ls[i.toNat]? <;> rfl
end Go.Proofs.Ytideafkiaipnoaa.Q

/- One vector covers the other; a log cut by a vector: plain. -/
namespace Go.Proofs.Ytideafkiaipnoaa.Q
set_option linter.unusedVariables false
set_option linter.unusedSimpArgs false
open Go Go.RowKit Go.Proofs.YtideafkiaipnoaaW.PrintWords Go.Proofs.Ytideafkiaipnoaa.Deed
def Covers (xs ys : List Int) : Prop := ∀ j : Int, 0 ≤ j → j < 16 → gi ys j ≤ gi xs j
noncomputable def covers (xs ys : List Int) : Bool := by classical exact decide (Covers xs ys)
theorem covers_true {xs ys : List Int} (h : Covers xs ys) : covers xs ys = true := by simp [covers, h]
theorem covers_false {xs ys : List Int} (h : ¬ Covers xs ys) : covers xs ys = false := by simp [covers, h]
theorem covers_iff {xs ys : List Int} : covers xs ys = true ↔ Covers xs ys := by simp [covers]
/-- What a vector counts. -/
def cutF (os : List Op) (xs : List Int) : List Op := os.filter fun o => !decide (gi xs o.actor < o.seq)
noncomputable def allCov (os : List Op) (xs : List Int) : Bool := (cutF os xs).all fun o => covers xs o.deps
noncomputable def sAtC (os : List Op) (xs : List Int) : Int := if sLogOK os = true ∧ vecOK xs = true then (if covers (cnt os) xs = true ∧ allCov os xs = true then 0 else 5) else 1
noncomputable def sAt (os : List Op) (xs : List Int) : List Op := if sAtC os xs = 0 then cutF os xs else []
theorem cutF_le (os : List Op) (xs : List Int) : (cutF os xs).length ≤ os.length := List.length_filter_le _ _
theorem cutF_t {os : List Op} {xs : List Int} {i : Int} (h0 : 0 ≤ i) (h1 : i < os.length) (h : decide (gi xs (go_ os i).actor < (go_ os i).seq) = true) : cutF (os.take (i + 1).toNat) xs = cutF (os.take i.toNat) xs := by
  rw [show (i + 1).toNat = i.toNat + 1 by omega, List.take_add_one, go_of h0 h1]
  have h' := of_decide_eq_true h
  simp [cutF, h']
theorem cutF_f {os : List Op} {xs : List Int} {i : Int} (h0 : 0 ≤ i) (h1 : i < os.length) (h : decide (gi xs (go_ os i).actor < (go_ os i).seq) = false) : cutF (os.take (i + 1).toNat) xs = cutF (os.take i.toNat) xs ++ [go_ os i] := by
  rw [show (i + 1).toNat = i.toNat + 1 by omega, List.take_add_one, go_of h0 h1]
  have h' := of_decide_eq_false h
  simp [cutF]
  omega
theorem allCov_not {os : List Op} {xs : List Int} {i : Int} (h0 : 0 ≤ i) (h1 : i < os.length) (h : decide (gi xs (go_ os i).actor < (go_ os i).seq) = false) (hc : covers xs (go_ os i).deps = false) : allCov os xs = false := by
  unfold allCov
  rw [Bool.eq_false_iff]
  intro ha
  have := List.all_eq_true.1 ha (go_ os i) (List.mem_filter.2 ⟨List.mem_of_getElem? (go_of h0 h1), by simpa using h⟩)
  rw [hc] at this
  cases this
theorem allCov_of {os : List Op} {xs : List Int} (h : ∀ j : Int, 0 ≤ j → j < os.length → decide (gi xs (go_ os j).actor < (go_ os j).seq) = false → covers xs (go_ os j).deps = true) : allCov os xs = true := by
  unfold allCov
  rw [List.all_eq_true]
  intro o ho
  obtain ⟨h1, h2⟩ := List.mem_filter.1 ho
  obtain ⟨k, hk, e⟩ := List.getElem_of_mem h1
  have e2 : go_ os (k : Int) = o := by simp [go_, List.getD_eq_getElem?_getD, hk, e]
  have := h k (by omega) (by omega)
  rw [e2] at this
  exact this (by simpa using h2)
end Go.Proofs.Ytideafkiaipnoaa.Q

/- Functions walked. -/
namespace Go.Proofs.Ytideafkiaipnoaa.Q
open Go Go.RowKit Go.Proofs.YtideafkiaipnoaaW.PrintWords Go.Proofs.YtideafkiaipnoaaW.PrintLast Go.Proofs.Ytideafkiaipnoaa.Deed
set_option maxRecDepth 100000
set_option linter.unusedVariables false
set_option linter.unusedSimpArgs false
set_option maxHeartbeats 2000000 in
theorem sCov_calls (A : Option Addr) (xs : List Int) (c : Nat) (E : Option Addr) (ys : List Int) (d : Nat) (w : World) (HR1 : RI w A xs) (HR2 : RI w E ys) (hx : xs.length = 16) (hy : ys.length = 16) : Calls Try.prog 68 #[.agg #[Value.slice A xs.length c], .agg #[Value.slice E ys.length d]] w fun e w' => e = .returned (.bool (covers xs ys)) ∧ Below w.heap.size w w' := by
  refine calls_of_wp Try.func68 rfl ?_
  refine enter_ (N := 21) rfl ?_
  rintro a0 hN hD ⟨s0, s1, -⟩
  have HB : Below w.heap.size w w := Below.refl _ _
  refine wp_seq ?_
  refine deedL [.s1 2 (NewB w.heap.size [.slice A xs.length c] 41), .s1 3 (NewB w.heap.size [.slice E ys.length d] 41), .eq 4 (.bool false), .eq 0 (.agg #[Value.slice A xs.length c]), .eq 1 (.agg #[Value.slice E ys.length d]), .w (Below w.heap.size w)] 21 [[5, 3], [5, 4], []] [] [0, 1, 3, 4, 5] hM hN hD (by kernel_rfl) ⟨s0, s1, ⟨Below.refl _ _, below_drew (Below.refl _ _)⟩, trivial⟩ ⟨fun _ _ _ hb h => h.grow hb, fun _ _ _ hb h => h.grow hb, fun _ _ hb h => below_step h hb, trivial⟩ (fun hgrow => ⟨fun _ _ h => rbox hgrow rfl (x_box rfl h.2.1) h.1.size (fun _ _ z => z),
    fun _ _ h => rbox hgrow rfl (x_box rfl h.2.1) h.1.size (fun _ _ z => z),
    fun _ _ _ => rv rfl (x_assign rfl rfl) rfl, trivial⟩) ?_
  clear s0 s1
  clear hN hD
  rintro a1 w1 hN hD ⟨⟨g2, s2, lg2, HBX2⟩, ⟨g3, s3, lg3, HBX3⟩, s0, s1, hGR, -⟩
  replace HB := below_step HB hGR
  clear hGR
  show Code.wp _ _ _ _ _
  refine wp_seq ?_
  refine wp_seq ?_
  refine deedL [.eq 5 (.int .i64 0), .eq 2 (.pointer (some ⟨g2, 0, none⟩)), .eq 3 (.pointer (some ⟨g3, 0, none⟩)), .w (Below w1.heap.size w1)] 21 [[]] [] [0, 1, 2, 3] hM hN hD (by kernel_rfl) ⟨s2, s3, ⟨Below.refl _ _, below_drew (Below.refl _ _)⟩, trivial⟩ ⟨fun _ _ hb h => below_step h hb, trivial⟩ (fun hgrow => ⟨fun _ _ _ => rv rfl (x_assign rfl rfl) rfl, trivial⟩) ?_
  clear s0 s1 s2 s3
  clear hN hD
  rintro a2 w2 hN hD ⟨s5, s2, s3, hGR, -⟩
  replace HB := below_step HB hGR
  replace HBX2 := blk_below HBX2 hGR
  replace HBX3 := blk_below HBX3 hGR
  clear hGR
  show Code.wp _ _ _ _ _
  refine wp_block ?_
  refine wp_loopN (fun n_ q_ w_ => ∃ (i : Int), (q_.tmps.size = 21) ∧ (q_.defers = []) ∧ (sl q_ 2 = .pointer (some ⟨g2, 0, none⟩)) ∧ (sl q_ 3 = .pointer (some ⟨g3, 0, none⟩)) ∧ (sl q_ 5 = .int .i64 i) ∧ (Below w.heap.size w w_) ∧ (w_.heap[g2]? = some (.cells ([.slice A xs.length c]).toArray 41 (0, 0))) ∧ (w_.heap[g3]? = some (.cells ([.slice E ys.length d]).toArray 41 (0, 0))) ∧ (0 ≤ i) ∧ (i ≤ 16) ∧ (∀ j : Int, 0 ≤ j → j < i → gi ys j ≤ gi xs j) ∧ (n_ = (16 - i).toNat)) ((fun (i : Int) => (16 - i).toNat) 0) ?_ ?_
  · exact ⟨0, hN, hD, s2, s3, s5, HB, HBX2, HBX3, (by omega), (by omega), (by intro j u v; omega), rfl⟩
  clear s2 s3 s5 HB HBX2 HBX3 hN hD
  rintro n_3 a3 w3 ⟨i, hN, hD, s2, s3, s5, HB, HBX2, HBX3, hi0, hi1, hi, hmeas⟩
  refine wp_seq ?_
  refine wp_seq ?_
  refine deedL [.eq 6 (.int .i64 i), .eq 7 (.bool (decide (i < 16))), .eq 2 (.pointer (some ⟨g2, 0, none⟩)), .eq 3 (.pointer (some ⟨g3, 0, none⟩)), .eq 5 (.int .i64 i), .w (Below w3.heap.size w3)] 21 [[4], [0]] [] [1, 2, 3, 4, 5] hM hN hD (by kernel_rfl) ⟨s2, s3, s5, ⟨Below.refl _ _, below_drew (Below.refl _ _)⟩, trivial⟩ ⟨fun _ _ hb h => below_step h hb, trivial⟩ (fun hgrow => ⟨fun _ _ h => rv rfl (x_move rfl h.1) rfl,
    fun _ _ h => rv rfl (x_lss rfl h.1 rfl) rfl, trivial⟩) ?_
  clear s2 s3 s5
  clear hN hD
  rintro a4 w4 hN hD ⟨s7, s2, s3, s5, hGR, -⟩
  replace HB := below_step HB hGR
  replace HBX2 := blk_below HBX2 hGR
  replace HBX3 := blk_below HBX3 hGR
  clear hGR
  show Code.wp _ _ _ _ _
  refine wp_cond (t := decide (i < 16)) s7 ?_
  rcases Bool.eq_false_or_eq_true (decide (i < 16)) with cd5 | cd5
  · rw [cd5]
    show Code.wp _ _ _ _ _
    have pd5 := of_decide_eq_true cd5
    refine wp_skip ?_
    show Code.wp _ _ _ _ _
    refine wp_seq ?_
    refine wp_block ?_
    refine wp_seq ?_
    refine deedL (.eq 10 (.pointer (some ⟨g3, 0, none⟩)) :: .eq 11 (.slice E ys.length d) :: .eq 12 (.int .i64 i) :: .eq 13 (.pointer (some ((adr E).add (i.toNat * 1)))) :: .eq 14 (.int .i64 (gi ys i)) :: .eq 15 (.pointer (some ⟨g2, 0, none⟩)) :: .eq 16 (.slice A xs.length c) :: .eq 17 (.int .i64 i) :: .eq 18 (.pointer (some ((adr A).add (i.toNat * 1)))) :: .eq 19 (.int .i64 (gi xs i)) :: .eq 20 (.bool (decide (gi xs i < gi ys i))) :: .eq 2 (.pointer (some ⟨g2, 0, none⟩)) :: .eq 3 (.pointer (some ⟨g3, 0, none⟩)) :: .eq 5 (.int .i64 i) :: .w (Below w4.heap.size w4) :: []) 21 [[12], [0, 14], [13], [1, 2], [3, 14], [11], [5, 14], [13], [6, 7], [8, 14], [4, 9]] [] [10, 11, 12, 13, 14] hM hN hD (by kernel_rfl) ⟨s2, s3, s5, ⟨Below.refl _ _, below_drew (Below.refl _ _)⟩, trivial⟩ ⟨fun _ _ hb h => below_step h hb, trivial⟩ (fun hgrow => ⟨fun _ _ h => rv rfl (x_field rfl h.1 Try.underlying41 rfl sz24 (by decide) rfl) rfl,
      fun _ _ h => rv rfl (x_load1 rfl h.1 Try.underlying24 rfl (blk_one (L := [.slice E ys.length d]) (blk_below HBX3 h.2.1) 0 rfl)) rfl,
      fun _ _ h => rv rfl (x_move rfl h.1) rfl,
      fun _ _ h => rv rfl (x_index_at rfl h.1 h.2.1 Try.underlying24 sz3 (by omega) (by omega) (RI.ad HR2 i (by omega) (by omega))) rfl,
      fun _ _ h => rv rfl (x_load1 rfl h.1 Try.underlying3 rfl (RI.at_ HR2 (below_step HB h.2.1) (by omega) (by omega))) rfl,
      fun _ _ h => rv rfl (x_field rfl h.1 Try.underlying41 rfl sz24 (by decide) rfl) rfl,
      fun _ _ h => rv rfl (x_load1 rfl h.1 Try.underlying24 rfl (blk_one (L := [.slice A xs.length c]) (blk_below HBX2 h.2.1) 0 rfl)) rfl,
      fun _ _ h => rv rfl (x_move rfl h.1) rfl,
      fun _ _ h => rv rfl (x_index_at rfl h.1 h.2.1 Try.underlying24 sz3 (by omega) (by omega) (RI.ad HR1 i (by omega) (by omega))) rfl,
      fun _ _ h => rv rfl (x_load1 rfl h.1 Try.underlying3 rfl (RI.at_ HR1 (below_step HB h.2.1) (by omega) (by omega))) rfl,
      fun _ _ h => rv rfl (x_gtr rfl h.1 h.2.1) rfl, trivial⟩) ?_
    clear s2 s3 s5 s7
    clear hN hD
    rintro a6 w6 hN hD ⟨s20, s2, s3, s5, hGR, -⟩
    replace HB := below_step HB hGR
    replace HBX2 := blk_below HBX2 hGR
    replace HBX3 := blk_below HBX3 hGR
    clear hGR
    show Code.wp _ _ _ _ _
    refine wp_cond (t := decide (gi xs i < gi ys i)) s20 ?_
    rcases Bool.eq_false_or_eq_true (decide (gi xs i < gi ys i)) with cd7 | cd7
    · rw [cd7]
      show Code.wp _ _ _ _ _
      have pd7 := of_decide_eq_true cd7
      have hs : ¬ gi ys i ≤ gi xs i := by have := pd7; omega
      refine wp_seq ?_
      refine deedL [.eq 4 (.bool false), .w (Below w6.heap.size w6)] 21 [[]] [] [0, 1] hM hN hD (by kernel_rfl) ⟨⟨Below.refl _ _, below_drew (Below.refl _ _)⟩, trivial⟩ ⟨fun _ _ hb h => below_step h hb, trivial⟩ (fun hgrow => ⟨fun _ _ _ => rv rfl (x_assign rfl rfl) rfl, trivial⟩) ?_
      clear s2 s3 s5 s20
      clear hN hD
      rintro a8 w8 hN hD ⟨s4, hGR, -⟩
      replace HB := below_step HB hGR
      replace HBX2 := blk_below HBX2 hGR
      replace HBX3 := blk_below HBX3 hGR
      clear hGR
      show Code.wp _ _ _ _ _
      refine wp_ret (blk_ret (then_ret (then_ret (blk_ret (then_ret ?_)))))
      refine bodyPost_ret (results_single rfl (vtmp s4 .nil)) hD ?_
      exact ⟨by rw [covers_false (fun h => hs (h i hi0 (by omega)))], HB⟩
    · rw [cd7]
      show Code.wp _ _ _ _ _
      have pd7 := of_decide_eq_false cd7
      have hs : gi ys i ≤ gi xs i := by have := pd7; omega
      refine wp_skip ?_
      show Code.wp _ _ _ _ _
      refine deedL [.eq 8 (.int .i64 i), .eq 9 (.int .i64 (i + 1)), .eq 5 (.int .i64 (i + 1)), .eq 2 (.pointer (some ⟨g2, 0, none⟩)), .eq 3 (.pointer (some ⟨g3, 0, none⟩)), .eq 5 (.int .i64 i), .w (Below w6.heap.size w6)] 21 [[5], [0], [1]] [[], [], [5]] [2, 3, 4, 6] hM hN hD (by kernel_rfl) ⟨s2, s3, s5, ⟨Below.refl _ _, below_drew (Below.refl _ _)⟩, trivial⟩ ⟨fun _ _ hb h => below_step h hb, trivial⟩ (fun hgrow => ⟨fun _ _ h => rv rfl (x_move rfl h.1) rfl,
        fun _ _ h => rv rfl (x_add' rfl h.1 rfl (by omega)) rfl,
        fun _ _ h => rv rfl (x_assign rfl h.1) rfl, trivial⟩) ?_
      clear s2 s3 s5 s20
      clear hN hD
      rintro a9 w9 hN hD ⟨s5, s2, s3, hGR, -⟩
      replace HB := below_step HB hGR
      replace HBX2 := blk_below HBX2 hGR
      replace HBX3 := blk_below HBX3 hGR
      clear hGR
      show ∃ m, m < n_3 ∧ _
      exact ⟨_, (by omega), ⟨(i + 1), hN, hD, s2, s3, s5, HB, HBX2, HBX3, (by omega), (by omega), (by intro j u v; by_cases e : j = i; (subst e; exact hs); exact hi j u (by omega)), rfl⟩⟩
  · rw [cd5]
    show Code.wp _ _ _ _ _
    have pd5 := of_decide_eq_false cd5
    refine wp_exit (then_exit (then_exit (at_exit ?_)))
    show Code.wp _ _ _ _ _
    refine wp_seq ?_
    refine deedL [.eq 4 (.bool true), .w (Below w4.heap.size w4)] 21 [[]] [] [0, 1] hM hN hD (by kernel_rfl) ⟨⟨Below.refl _ _, below_drew (Below.refl _ _)⟩, trivial⟩ ⟨fun _ _ hb h => below_step h hb, trivial⟩ (fun hgrow => ⟨fun _ _ _ => rv rfl (x_assign rfl rfl) rfl, trivial⟩) ?_
    clear s2 s3 s5 s7
    clear hN hD
    rintro a10 w10 hN hD ⟨s4, hGR, -⟩
    replace HB := below_step HB hGR
    replace HBX2 := blk_below HBX2 hGR
    replace HBX3 := blk_below HBX3 hGR
    clear hGR
    show Code.wp _ _ _ _ _
    refine wp_ret ?_
    refine bodyPost_ret (results_single rfl (vtmp s4 .nil)) hD ?_
    exact ⟨by rw [covers_true (fun j u v => hi j u (by omega))], HB⟩
theorem sCov_16 (A : Option Addr) (xs : List Int) (c : Nat) (E : Option Addr) (ys : List Int) (d : Nat) (w : World) (HR1 : RI w A xs) (HR2 : RI w E ys) (hx : xs.length = 16) (hy : ys.length = 16) : Calls Try.prog 68 #[.agg #[.slice A 16 c], .agg #[.slice E ys.length d]] w fun e w' => e = .returned (.bool (covers xs ys)) ∧ Below w.heap.size w w' := by
  have h := sCov_calls A xs c E ys d w HR1 HR2 hx hy
  rw [hx] at h
  exact h
set_option maxHeartbeats 2000000 in
theorem iLE_calls (A : Option Addr) (xs : List Int) (c : Nat) (E : Option Addr) (ys : List Int) (d : Nat) (w : World) (HR1 : RI w A xs) (HR2 : RI w E ys) (hx : xs.length = 16) (hy : ys.length = 16) : Calls Try.prog 115 #[.agg #[Value.slice A xs.length c], .agg #[Value.slice E ys.length d]] w fun e w' => e = .returned (.bool (covers ys xs)) ∧ Below w.heap.size w w' := by
  refine calls_of_wp Try.func115 rfl ?_
  refine enter_ (N := 23) rfl ?_
  rintro a0 hN hD ⟨s0, s1, -⟩
  have HB : Below w.heap.size w w := Below.refl _ _
  refine wp_seq ?_
  refine deedL [.s1 2 (NewB w.heap.size [.slice A xs.length c] 41), .s1 3 (NewB w.heap.size [.slice E ys.length d] 41), .eq 4 (.bool false), .eq 0 (.agg #[Value.slice A xs.length c]), .eq 1 (.agg #[Value.slice E ys.length d]), .w (Below w.heap.size w)] 23 [[5, 3], [5, 4], []] [] [0, 1, 3, 4, 5] hM hN hD (by kernel_rfl) ⟨s0, s1, ⟨Below.refl _ _, below_drew (Below.refl _ _)⟩, trivial⟩ ⟨fun _ _ _ hb h => h.grow hb, fun _ _ _ hb h => h.grow hb, fun _ _ hb h => below_step h hb, trivial⟩ (fun hgrow => ⟨fun _ _ h => rbox hgrow rfl (x_box rfl h.2.1) h.1.size (fun _ _ z => z),
    fun _ _ h => rbox hgrow rfl (x_box rfl h.2.1) h.1.size (fun _ _ z => z),
    fun _ _ _ => rv rfl (x_assign rfl rfl) rfl, trivial⟩) ?_
  clear s0 s1
  clear hN hD
  rintro a1 w1 hN hD ⟨⟨g2, s2, lg2, HBX2⟩, ⟨g3, s3, lg3, HBX3⟩, s0, s1, hGR, -⟩
  replace HB := below_step HB hGR
  clear hGR
  show Code.wp _ _ _ _ _
  refine wp_seq ?_
  refine wp_seq ?_
  refine deedL [.eq 7 (.pointer (some ⟨g2, 0, none⟩)), .eq 8 (.slice A xs.length c), .eq 9 (.int .i64 (xs.length : Int)), .eq 10 (.int .i64 0), .eq 2 (.pointer (some ⟨g2, 0, none⟩)), .eq 3 (.pointer (some ⟨g3, 0, none⟩)), .w (Below w1.heap.size w1)] 23 [[4], [0, 6], [1], []] [] [1, 2, 3, 4, 5, 6] hM hN hD (by kernel_rfl) ⟨s2, s3, ⟨Below.refl _ _, below_drew (Below.refl _ _)⟩, trivial⟩ ⟨fun _ _ hb h => below_step h hb, trivial⟩ (fun hgrow => ⟨fun _ _ h => rv rfl (x_field rfl h.1 Try.underlying41 rfl sz24 (by decide) rfl) rfl,
    fun _ _ h => rv rfl (x_load1 rfl h.1 Try.underlying24 rfl (blk_one (L := [.slice A xs.length c]) (blk_below HBX2 h.2.1) 0 rfl)) rfl,
    fun _ _ h => rv rfl (x_len_slice rfl Try.underlying24 h.1) rfl,
    fun _ _ _ => rv rfl (x_move rfl rfl) rfl, trivial⟩) ?_
  clear s0 s1 s2 s3
  clear hN hD
  rintro a2 w2 hN hD ⟨s8, s9, s10, s2, s3, hGR, -⟩
  replace HB := below_step HB hGR
  replace HBX2 := blk_below HBX2 hGR
  replace HBX3 := blk_below HBX3 hGR
  clear hGR
  show Code.wp _ _ _ _ _
  refine wp_block ?_
  refine wp_loopN (fun n_ q_ w_ => ∃ (i : Int), (q_.tmps.size = 23) ∧ (q_.defers = []) ∧ (sl q_ 3 = .pointer (some ⟨g3, 0, none⟩)) ∧ (sl q_ 8 = .slice A xs.length c) ∧ (sl q_ 9 = .int .i64 (xs.length : Int)) ∧ (sl q_ 10 = .int .i64 i) ∧ (Below w.heap.size w w_) ∧ (w_.heap[g2]? = some (.cells ([.slice A xs.length c]).toArray 41 (0, 0))) ∧ (w_.heap[g3]? = some (.cells ([.slice E ys.length d]).toArray 41 (0, 0))) ∧ (0 ≤ i) ∧ (i ≤ 16) ∧ (∀ j : Int, 0 ≤ j → j < i → gi xs j ≤ gi ys j) ∧ (n_ = (16 - i).toNat)) ((fun (i : Int) => (16 - i).toNat) 0) ?_ ?_
  · exact ⟨0, hN, hD, s3, s8, s9, s10, HB, HBX2, HBX3, (by omega), (by omega), (by intro j u v; omega), rfl⟩
  clear s2 s3 s8 s9 s10 HB HBX2 HBX3 hN hD
  rintro n_3 a3 w3 ⟨i, hN, hD, s3, s8, s9, s10, HB, HBX2, HBX3, hi0, hi1, hi, hmeas⟩
  refine wp_seq ?_
  refine deedL [.eq 11 (.bool (decide (i < (xs.length : Int)))), .eq 3 (.pointer (some ⟨g3, 0, none⟩)), .eq 8 (.slice A xs.length c), .eq 9 (.int .i64 (xs.length : Int)), .eq 10 (.int .i64 i), .w (Below w3.heap.size w3)] 23 [[4, 3]] [] [0, 1, 2, 3, 4, 5] hM hN hD (by kernel_rfl) ⟨s3, s8, s9, s10, ⟨Below.refl _ _, below_drew (Below.refl _ _)⟩, trivial⟩ ⟨fun _ _ hb h => below_step h hb, trivial⟩ (fun hgrow => ⟨fun _ _ h => rv rfl (x_lss rfl h.1 h.2.1) rfl, trivial⟩) ?_
  clear s3 s8 s9 s10
  clear hN hD
  rintro a4 w4 hN hD ⟨s11, s3, s8, s9, s10, hGR, -⟩
  replace HB := below_step HB hGR
  replace HBX2 := blk_below HBX2 hGR
  replace HBX3 := blk_below HBX3 hGR
  clear hGR
  show Code.wp _ _ _ _ _
  refine wp_seq ?_
  refine wp_cond (t := decide (i < (xs.length : Int))) s11 ?_
  rcases Bool.eq_false_or_eq_true (decide (i < (xs.length : Int))) with cd5 | cd5
  · rw [cd5]
    show Code.wp _ _ _ _ _
    have pd5 := of_decide_eq_true cd5
    refine wp_skip ?_
    show Code.wp _ _ _ _ _
    refine wp_seq ?_
    refine wp_block ?_
    refine wp_seq ?_
    refine deedL [.eq 12 (.int .i64 i), .eq 13 (.pointer (some ((adr A).add (i.toNat * 1)))), .eq 14 (.int .i64 (gi xs i)), .eq 5 (.int .i64 i), .eq 6 (.int .i64 (gi xs i)), .eq 3 (.pointer (some ⟨g3, 0, none⟩)), .eq 8 (.slice A xs.length c), .eq 9 (.int .i64 (xs.length : Int)), .eq 10 (.int .i64 i), .w (Below w4.heap.size w4)] 23 [[8], [6, 8], [1, 9], [0], [2]] [] [3, 4, 5, 6, 7, 8, 9] hM hN hD (by kernel_rfl) ⟨s3, s8, s9, s10, ⟨Below.refl _ _, below_drew (Below.refl _ _)⟩, trivial⟩ ⟨fun _ _ hb h => below_step h hb, trivial⟩ (fun hgrow => ⟨fun _ _ h => rv rfl (x_move rfl h.1) rfl,
      fun _ _ h => rv rfl (x_index_at rfl h.1 h.2.1 Try.underlying24 sz3 (by omega) (by omega) (RI.ad HR1 i (by omega) (by omega))) rfl,
      fun _ _ h => rv rfl (x_load1 rfl h.1 Try.underlying3 rfl (RI.at_ HR1 (below_step HB h.2.1) (by omega) (by omega))) rfl,
      fun _ _ h => rv rfl (x_assign rfl h.1) rfl,
      fun _ _ h => rv rfl (x_assign rfl h.1) rfl, trivial⟩) ?_
    clear s3 s8 s9 s10 s11
    clear hN hD
    rintro a6 w6 hN hD ⟨s5, s6, s3, s8, s9, s10, hGR, -⟩
    replace HB := below_step HB hGR
    replace HBX2 := blk_below HBX2 hGR
    replace HBX3 := blk_below HBX3 hGR
    clear hGR
    show Code.wp _ _ _ _ _
    refine wp_seq ?_
    refine deedL [.eq 15 (.int .i64 (gi xs i)), .eq 16 (.pointer (some ⟨g3, 0, none⟩)), .eq 17 (.slice E ys.length d), .eq 18 (.int .i64 i), .eq 19 (.pointer (some ((adr E).add (i.toNat * 1)))), .eq 20 (.int .i64 (gi ys i)), .eq 21 (.bool (decide (gi ys i < gi xs i))), .eq 3 (.pointer (some ⟨g3, 0, none⟩)), .eq 5 (.int .i64 i), .eq 6 (.int .i64 (gi xs i)), .eq 8 (.slice A xs.length c), .eq 9 (.int .i64 (xs.length : Int)), .eq 10 (.int .i64 i), .w (Below w6.heap.size w6)] 23 [[9], [7], [1, 13], [8], [2, 3], [4, 13], [0, 5]] [] [6, 7, 8, 9, 10, 11, 12, 13] hM hN hD (by kernel_rfl) ⟨s3, s5, s6, s8, s9, s10, ⟨Below.refl _ _, below_drew (Below.refl _ _)⟩, trivial⟩ ⟨fun _ _ hb h => below_step h hb, trivial⟩ (fun hgrow => ⟨fun _ _ h => rv rfl (x_move rfl h.1) rfl,
      fun _ _ h => rv rfl (x_field rfl h.1 Try.underlying41 rfl sz24 (by decide) rfl) rfl,
      fun _ _ h => rv rfl (x_load1 rfl h.1 Try.underlying24 rfl (blk_one (L := [.slice E ys.length d]) (blk_below HBX3 h.2.1) 0 rfl)) rfl,
      fun _ _ h => rv rfl (x_move rfl h.1) rfl,
      fun _ _ h => rv rfl (x_index_at rfl h.1 h.2.1 Try.underlying24 sz3 (by omega) (by omega) (RI.ad HR2 i (by omega) (by omega))) rfl,
      fun _ _ h => rv rfl (x_load1 rfl h.1 Try.underlying3 rfl (RI.at_ HR2 (below_step HB h.2.1) (by omega) (by omega))) rfl,
      fun _ _ h => rv rfl (x_gtr rfl h.1 h.2.1) rfl, trivial⟩) ?_
    clear s3 s8 s9 s10 s5 s6
    clear hN hD
    rintro a7 w7 hN hD ⟨s21, s3, s5, s6, s8, s9, s10, hGR, -⟩
    replace HB := below_step HB hGR
    replace HBX2 := blk_below HBX2 hGR
    replace HBX3 := blk_below HBX3 hGR
    clear hGR
    show Code.wp _ _ _ _ _
    refine wp_cond (t := decide (gi ys i < gi xs i)) s21 ?_
    rcases Bool.eq_false_or_eq_true (decide (gi ys i < gi xs i)) with cd8 | cd8
    · rw [cd8]
      show Code.wp _ _ _ _ _
      have pd8 := of_decide_eq_true cd8
      have hs : ¬ gi xs i ≤ gi ys i := by have := pd8; omega
      refine wp_seq ?_
      refine deedL [.eq 4 (.bool false), .w (Below w7.heap.size w7)] 23 [[]] [] [0, 1] hM hN hD (by kernel_rfl) ⟨⟨Below.refl _ _, below_drew (Below.refl _ _)⟩, trivial⟩ ⟨fun _ _ hb h => below_step h hb, trivial⟩ (fun hgrow => ⟨fun _ _ _ => rv rfl (x_assign rfl rfl) rfl, trivial⟩) ?_
      clear s3 s5 s6 s8 s9 s10 s21
      clear hN hD
      rintro a9 w9 hN hD ⟨s4, hGR, -⟩
      replace HB := below_step HB hGR
      replace HBX2 := blk_below HBX2 hGR
      replace HBX3 := blk_below HBX3 hGR
      clear hGR
      show Code.wp _ _ _ _ _
      refine wp_ret (blk_ret (then_ret (then_ret (blk_ret (then_ret ?_)))))
      refine bodyPost_ret (results_single rfl (vtmp s4 .nil)) hD ?_
      exact ⟨by rw [covers_false (fun h => hs (h i hi0 (by omega)))], HB⟩
    · rw [cd8]
      show Code.wp _ _ _ _ _
      have pd8 := of_decide_eq_false cd8
      have hs : gi xs i ≤ gi ys i := by have := pd8; omega
      refine wp_skip ?_
      show Code.wp _ _ _ _ _
      refine deedL [.eq 22 (.int .i64 (i + 1)), .eq 10 (.int .i64 (i + 1)), .eq 3 (.pointer (some ⟨g3, 0, none⟩)), .eq 8 (.slice A xs.length c), .eq 9 (.int .i64 (xs.length : Int)), .eq 10 (.int .i64 i), .w (Below w7.heap.size w7)] 23 [[5], [0]] [[], [5]] [1, 2, 3, 4, 6] hM hN hD (by kernel_rfl) ⟨s3, s8, s9, s10, ⟨Below.refl _ _, below_drew (Below.refl _ _)⟩, trivial⟩ ⟨fun _ _ hb h => below_step h hb, trivial⟩ (fun hgrow => ⟨fun _ _ h => rv rfl (x_add' rfl h.1 rfl (by omega)) rfl,
        fun _ _ h => rv rfl (x_move rfl h.1) rfl, trivial⟩) ?_
      clear s3 s5 s6 s8 s9 s10 s21
      clear hN hD
      rintro a10 w10 hN hD ⟨s10, s3, s8, s9, hGR, -⟩
      replace HB := below_step HB hGR
      replace HBX2 := blk_below HBX2 hGR
      replace HBX3 := blk_below HBX3 hGR
      clear hGR
      show ∃ m, m < n_3 ∧ _
      exact ⟨_, (by omega), ⟨(i + 1), hN, hD, s3, s8, s9, s10, HB, HBX2, HBX3, (by omega), (by omega), (by intro j u v; by_cases e : j = i; (subst e; exact hs); exact hi j u (by omega)), rfl⟩⟩
  · rw [cd5]
    show Code.wp _ _ _ _ _
    have pd5 := of_decide_eq_false cd5
    refine wp_exit (then_exit (then_exit (at_exit ?_)))
    show Code.wp _ _ _ _ _
    refine wp_seq ?_
    refine deedL [.eq 4 (.bool true), .w (Below w4.heap.size w4)] 23 [[]] [] [0, 1] hM hN hD (by kernel_rfl) ⟨⟨Below.refl _ _, below_drew (Below.refl _ _)⟩, trivial⟩ ⟨fun _ _ hb h => below_step h hb, trivial⟩ (fun hgrow => ⟨fun _ _ _ => rv rfl (x_assign rfl rfl) rfl, trivial⟩) ?_
    clear s3 s8 s9 s10 s11
    clear hN hD
    rintro a11 w11 hN hD ⟨s4, hGR, -⟩
    replace HB := below_step HB hGR
    replace HBX2 := blk_below HBX2 hGR
    replace HBX3 := blk_below HBX3 hGR
    clear hGR
    show Code.wp _ _ _ _ _
    refine wp_ret ?_
    refine bodyPost_ret (results_single rfl (vtmp s4 .nil)) hD ?_
    exact ⟨by rw [covers_true (fun j u v => hi j u (by omega))], HB⟩
end Go.Proofs.Ytideafkiaipnoaa.Q

/- Functions walked. -/
namespace Go.Proofs.Ytideafkiaipnoaa.Q
open Go Go.RowKit Go.Proofs.YtideafkiaipnoaaW.PrintWords Go.Proofs.YtideafkiaipnoaaW.PrintLast Go.Proofs.Ytideafkiaipnoaa.Deed
set_option maxRecDepth 100000
set_option linter.unusedVariables false
set_option linter.unusedSimpArgs false
set_option maxHeartbeats 2000000 in
theorem sAt_calls (A : Option Addr) (os : List Op) (D : Nat → Option Addr) (C : Nat → Nat) (c : Nat) (E : Option Addr) (xs : List Int) (d : Nat) (w : World) (HR : RO w A os D C) (HV : RI w E xs) : Calls Try.prog 33 #[.slice A os.length c, .agg #[Value.slice E xs.length d]] w fun e w' => ∃ A' c' ys, e = .returned (.tuple #[.slice A' (sAt os xs).length c', .int .i64 (sAtC os xs)]) ∧ OwnAt eLO w' A' ys w.heap.size w'.heap.size ∧ ys.map LO.o = sAt os xs ∧ Below w.heap.size w w' := by
  refine calls_of_wp Try.func33 rfl ?_
  refine enter_ (N := 63) rfl ?_
  rintro a0 hN hD ⟨s0, s1, -⟩
  have HB : Below w.heap.size w w := Below.refl _ _
  refine wp_seq ?_
  refine deedL [.s1 3 (NewB w.heap.size [.slice E xs.length d] 41), .eq 4 (.slice none 0 0), .eq 5 (.int .i64 0), .eq 0 (.slice A os.length c), .eq 1 (.agg #[Value.slice E xs.length d]), .w (Below w.heap.size w)] 63 [[5, 4], [], []] [] [0, 3, 4, 5] hM hN hD (by kernel_rfl) ⟨s0, s1, ⟨Below.refl _ _, below_drew (Below.refl _ _)⟩, trivial⟩ ⟨fun _ _ _ hb h => h.grow hb, fun _ _ hb h => below_step h hb, trivial⟩ (fun hgrow => ⟨fun _ _ h => rbox hgrow rfl (x_box rfl h.2.1) h.1.size (fun _ _ z => z),
    fun _ _ _ => rv rfl (x_assign rfl rfl) rfl,
    fun _ _ _ => rv rfl (x_assign rfl rfl) rfl, trivial⟩) ?_
  clear s0 s1
  clear hN hD
  rintro a1 w1 hN hD ⟨⟨g3, s3, lg3, HBX3⟩, s0, s1, hGR, -⟩
  replace HB := below_step HB hGR
  clear hGR
  show Code.wp _ _ _ _ _
  refine wp_seq ?_
  refine wp_seq ?_
  refine deedL [.eq 8 (.slice A os.length c), .eq 9 (.bool (sLogOK os)), .eq 10 (.bool (!(sLogOK os))), .eq 11 (.bool (!(sLogOK os))), .gv (((!(sLogOK os)) == false)) 12 (.agg #[Value.slice E xs.length d]), .gv (((!(sLogOK os)) == false)) 13 (.bool (vecOK xs)), .gv (((!(sLogOK os)) == false)) 14 (.bool (!(vecOK xs))), .eq 15 (.bool ((!(sLogOK os)) || (!(vecOK xs)))), .eq 0 (.slice A os.length c), .eq 3 (.pointer (some ⟨g3, 0, none⟩)), .w (Below w1.heap.size w1)] 63 [[8], [0, 10], [1], [2], [3, 9, 10], [3, 4, 10], [3, 5], [3, 6]] [] [7, 8, 9, 10] hM hN hD (by kernel_rfl) ⟨s0, s3, ⟨Below.refl _ _, below_drew (Below.refl _ _)⟩, trivial⟩ ⟨fun _ _ hb h => below_step h hb, trivial⟩ (fun hgrow => ⟨fun _ _ h => rv rfl (x_move rfl h.1) rfl,
    fun _ _ h => rc hgrow rfl Try.func47 (by kernel_rfl) rfl rfl (args1 h.1) (sLog_calls A os D C c _ (RO.below HR (below_step HB h.2.1))) (fun _ _ h => ⟨_, h.1, h.2, rfl⟩),
    fun _ _ h => rv rfl (x_not rfl h.1) rfl,
    fun _ _ h => rv rfl (x_move rfl h.1) rfl,
    fun _ _ h => rb rfl rfl h.1 (fun hgt => x_loadS rfl h.2.1 Try.underlying41 [.slice E xs.length d] sz41 (blk_list (L := [.slice E xs.length d]) (blk_below HBX3 h.2.2.1) 0 rfl)) (fun _ z => z),
    fun _ _ h => rcb hgrow rfl rfl h.1 Try.func57 (by kernel_rfl) rfl rfl (fun hgt => args1 (h.2.1.1 hgt)) (fun hgt => sVecOK_calls E xs d _ (RI.below HV (below_step HB h.2.2.1))) (fun _ _ _ h => h) (fun _ _ z => z),
    fun _ _ h => rb rfl rfl h.1 (fun hgt => x_not rfl (h.2.1.1 hgt)) (fun _ z => z),
    fun _ _ h => rv rfl (x_or rfl rfl h.1 (fun hc => h.2.1.1 (beq_iff_eq.2 hc))) rfl, trivial⟩) ?_
  clear s0 s1 s3
  clear hN hD
  rintro a2 w2 hN hD ⟨s15, s0, s3, hGR, -⟩
  replace HB := below_step HB hGR
  replace HBX3 := blk_below HBX3 hGR
  clear hGR
  show Code.wp _ _ _ _ _
  refine wp_cond (t := (!(sLogOK os)) || (!(vecOK xs))) s15 ?_
  rcases Bool.eq_false_or_eq_true ((!(sLogOK os)) || (!(vecOK xs))) with cd3 | cd3
  · rw [cd3]
    show Code.wp _ _ _ _ _
    refine wp_seq ?_
    refine deedL [.s1 16 fun x_ W => ∃ (v16 : Value), x_ = v16 ∧ OwnRow RL 67 12 W 0 v16 [] ∧ Above w2.heap.size v16, .s2 16 4 fun x_ y_ _ => ∃ (v16 : Value), x_ = v16 ∧ y_ = v16, .eq 5 (.int .i64 1), .w (Below w2.heap.size w2)] 63 [[3], [0], []] [] [2, 0, 1, 3] hM hN hD (by kernel_rfl) ⟨⟨Below.refl _ _, below_drew (Below.refl _ _)⟩, trivial⟩ ⟨fun _ _ _ hb h => by obtain ⟨v16, e_, h1_, h2_⟩ := h; exact ⟨v16, e_, h1_.below hb, h2_⟩, fun _ _ _ _ hb h => h, fun _ _ hb h => below_step h hb, trivial⟩ (fun hgrow => ⟨fun _ _ h => rbuild0 hgrow rfl rfl Try.underlying27 sz67 h.1.size (fun y_ _ u_ v_ => ⟨y_, rfl, u_, v_⟩),
      ?_,
      fun _ _ _ => rv rfl (x_assign rfl rfl) rfl, trivial⟩) ?_
    · rintro a_ W ⟨h0, -⟩
      obtain ⟨v16, e0, ho0, hb0⟩ := h0
      exact rv rfl (x_assign rfl e0) ⟨_, e0, rfl⟩
    clear s0 s3 s15
    clear hN hD
    rintro a4 w4 hN hD ⟨s5, ⟨v16, s16, HOV, bv16⟩, q4, hGR, -⟩
    obtain ⟨v16_, e_, s4⟩ := q4
    cases s16.symm.trans e_
    replace bv16 := Above.le bv16 HB.size
    replace HB := below_step HB hGR
    replace HBX3 := blk_below HBX3 hGR
    clear hGR
    show Code.wp _ _ _ _ _
    refine wp_ret (then_ret ?_)
    refine bodyPost_ret (fn := Try.f33) (results_list (rs := [.tmp 4, .tmp 5]) (vs := [v16, .int .i64 1]) rfl (by simp) (vtmp s4 (vtmp s5 .nil))) hD ?_
    have hC : sAtC os xs = 1 := by unfold sAtC; rw [if_neg (by have := cd3; simp at this ⊢; intro h; simpa [h] using this)]
    have hA : sAt os xs = [] := by unfold sAt; rw [hC]; rfl
    have HIN9 := Inn.nil w4 w.heap.size
    obtain ⟨A9, c9, hv9, _, ho9⟩ := own_L HOV bv16 HIN9
    rw [hv9, hC, hA]
    exact ⟨A9, c9, [], rfl, ho9, rfl, HB⟩
  · rw [cd3]
    show Code.wp _ _ _ _ _
    have hgd := cd3
    have hsl : sLogOK os = true := by cases h : sLogOK os <;> simp [h] at hgd ⊢
    have hvo : vecOK xs = true := by cases h : vecOK xs <;> simp [h] at hgd ⊢
    have hfit : Fit os := Fit.of os (log_same os ▸ hsl)
    have hx16 := (vecOK_iff.1 hvo).1
    have hol := hfit.len
    have hac : Actors os := Steps.actors (fun i u v => (hfit.steps i u v).1)
    refine wp_skip ?_
    show Code.wp _ _ _ _ _
    refine wp_seq ?_
    refine wp_seq ?_
    refine deedL [.eq 17 (.slice A os.length c), .s1 18 fun x_ W => ∃ (gc : Nat), x_ = .agg #[Value.slice (some ⟨gc, 0, none⟩) 16 16] ∧ w2.heap.size ≤ gc ∧ IB W gc (cnt os) 3, .eq 19 (.agg #[Value.slice E xs.length d]), .eq 20 (.bool (covers (cnt os) xs)), .eq 21 (.bool (!(covers (cnt os) xs))), .eq 0 (.slice A os.length c), .eq 3 (.pointer (some ⟨g3, 0, none⟩)), .w (Below w2.heap.size w2)] 63 [[5], [0, 7], [6, 7], [1, 2, 7], [3]] [] [4, 1, 5, 6, 7] hM hN hD (by kernel_rfl) ⟨s0, s3, ⟨Below.refl _ _, below_drew (Below.refl _ _)⟩, trivial⟩ ⟨fun _ _ _ hb h => by obtain ⟨gc, e_, z0, z1⟩ := h; exact ⟨_, e_, z0, z1.below hb⟩, fun _ _ hb h => below_step h hb, trivial⟩ (fun hgrow => ⟨fun _ _ h => rv rfl (x_move rfl h.1) rfl,
      fun _ _ h => rc hgrow rfl Try.func64 (by kernel_rfl) rfl rfl (args1 h.1) (sCounts_calls A os D C c _ (RO.below HR (below_step HB h.2.1)) hac (Nat.le_trans hol (by decide))) (fun _ _ hR => by obtain ⟨gc, e_, z0, z1, hb⟩ := hR; exact ⟨_, e_, hb, gc, rfl, (Nat.le_trans h.2.1.size z0), z1⟩),
      fun _ _ h => rv rfl (x_loadS rfl h.1 Try.underlying41 [.slice E xs.length d] sz41 (blk_list (L := [.slice E xs.length d]) (blk_below HBX3 h.2.1) 0 rfl)) rfl,
      ?_,
      fun _ _ h => rv rfl (x_not rfl h.1) rfl, trivial⟩) ?_
    · rintro a_ W ⟨h1, h2, h7, -⟩
      obtain ⟨gc, e1, HLgc, HCgc⟩ := h1
      exact rc hgrow rfl Try.func68 (by kernel_rfl) rfl rfl (args2 e1 h2) (sCov_16 (some ⟨gc, 0, none⟩) (cnt os) 16 E xs d _ (IB.RI HCgc) (RI.below HV (below_step HB h7)) (cnt_length os) hx16) (fun _ _ h => ⟨_, h.1, h.2, rfl⟩)
    clear s0 s3 s15
    clear hN hD
    rintro a5 w5 hN hD ⟨s21, ⟨gc, s18, HLgc, HCgc⟩, s0, s3, hGR, -⟩
    have lgc := HLgc
    clear HLgc
    replace lgc := Nat.le_trans HB.size lgc
    replace HB := below_step HB hGR
    replace HBX3 := blk_below HBX3 hGR
    clear hGR
    show Code.wp _ _ _ _ _
    refine wp_cond (t := !(covers (cnt os) xs)) s21 ?_
    rcases Bool.eq_false_or_eq_true (!(covers (cnt os) xs)) with cd6 | cd6
    · rw [cd6]
      show Code.wp _ _ _ _ _
      have pd6 := cd6
      simp at pd6
      refine wp_seq ?_
      refine deedL [.s1 22 fun x_ W => ∃ (v22 : Value), x_ = v22 ∧ OwnRow RL 67 12 W 0 v22 [] ∧ Above w5.heap.size v22, .s2 22 4 fun x_ y_ _ => ∃ (v22 : Value), x_ = v22 ∧ y_ = v22, .eq 5 (.int .i64 5), .w (Below w5.heap.size w5)] 63 [[3], [0], []] [] [2, 0, 1, 3] hM hN hD (by kernel_rfl) ⟨⟨Below.refl _ _, below_drew (Below.refl _ _)⟩, trivial⟩ ⟨fun _ _ _ hb h => by obtain ⟨v22, e_, h1_, h2_⟩ := h; exact ⟨v22, e_, h1_.below hb, h2_⟩, fun _ _ _ _ hb h => h, fun _ _ hb h => below_step h hb, trivial⟩ (fun hgrow => ⟨fun _ _ h => rbuild0 hgrow rfl rfl Try.underlying27 sz67 h.1.size (fun y_ _ u_ v_ => ⟨y_, rfl, u_, v_⟩),
        ?_,
        fun _ _ _ => rv rfl (x_assign rfl rfl) rfl, trivial⟩) ?_
      · rintro a_ W ⟨h0, -⟩
        obtain ⟨v22, e0, ho0, hb0⟩ := h0
        exact rv rfl (x_assign rfl e0) ⟨_, e0, rfl⟩
      clear s0 s3 s21
      clear hN hD
      rintro a7 w7 hN hD ⟨s5, ⟨v22, s22, HOV, bv22⟩, q4, hGR, -⟩
      obtain ⟨v22_, e_, s4⟩ := q4
      cases s22.symm.trans e_
      replace bv22 := Above.le bv22 HB.size
      replace HB := below_step HB hGR
      replace HBX3 := blk_below HBX3 hGR
      replace HCgc := HCgc.below hGR
      clear hGR
      show Code.wp _ _ _ _ _
      refine wp_ret (then_ret ?_)
      refine bodyPost_ret (fn := Try.f33) (results_list (rs := [.tmp 4, .tmp 5]) (vs := [v22, .int .i64 5]) rfl (by simp) (vtmp s4 (vtmp s5 .nil))) hD ?_
      have hC : sAtC os xs = 5 := by unfold sAtC; rw [if_pos ⟨hsl, hvo⟩, if_neg (fun h => by have := cd6; rw [h.1] at this; cases this)]
      have hA : sAt os xs = [] := by unfold sAt; rw [hC]; rfl
      have HIN9 := Inn.nil w7 w.heap.size
      obtain ⟨A9, c9, hv9, _, ho9⟩ := own_L HOV bv22 HIN9
      rw [hv9, hC, hA]
      exact ⟨A9, c9, [], rfl, ho9, rfl, HB⟩
    · rw [cd6]
      show Code.wp _ _ _ _ _
      have pd6 := cd6
      simp at pd6
      have hcc : covers (cnt os) xs = true := by simpa using cd6
      refine wp_skip ?_
      show Code.wp _ _ _ _ _
      refine wp_seq ?_
      refine deedL [.s1 23 fun x_ W => ∃ (v23 : Value), x_ = v23 ∧ OwnRow RL 67 12 W 0 v23 [] ∧ Above w5.heap.size v23, .s2 23 6 fun x_ y_ _ => ∃ (v23 : Value), x_ = v23 ∧ y_ = v23, .eq 0 (.slice A os.length c), .eq 3 (.pointer (some ⟨g3, 0, none⟩)), .w (Below w5.heap.size w5)] 63 [[4], [0]] [] [0, 1, 2, 3, 4] hM hN hD (by kernel_rfl) ⟨s0, s3, ⟨Below.refl _ _, below_drew (Below.refl _ _)⟩, trivial⟩ ⟨fun _ _ _ hb h => by obtain ⟨v23, e_, h1_, h2_⟩ := h; exact ⟨v23, e_, h1_.below hb, h2_⟩, fun _ _ _ _ hb h => h, fun _ _ hb h => below_step h hb, trivial⟩ (fun hgrow => ⟨fun _ _ h => rbuild0 hgrow rfl rfl Try.underlying27 sz67 h.1.size (fun y_ _ u_ v_ => ⟨y_, rfl, u_, v_⟩),
        ?_, trivial⟩) ?_
      · rintro a_ W ⟨h0, -⟩
        obtain ⟨v23, e0, ho0, hb0⟩ := h0
        exact rv rfl (x_assign rfl e0) ⟨_, e0, rfl⟩
      clear s0 s3 s21
      clear hN hD
      rintro a8 w8 hN hD ⟨⟨v23, s23, HOV, bv23⟩, q6, s0, s3, hGR, -⟩
      obtain ⟨v23_, e_, s6⟩ := q6
      cases s23.symm.trans e_
      replace bv23 := Above.le bv23 HB.size
      replace HB := below_step HB hGR
      replace HBX3 := blk_below HBX3 hGR
      replace HCgc := HCgc.below hGR
      clear hGR
      show Code.wp _ _ _ _ _
      refine wp_seq ?_
      refine wp_seq ?_
      refine deedL [.eq 7 (.int .i64 0), .eq 0 (.slice A os.length c), .eq 3 (.pointer (some ⟨g3, 0, none⟩)), .eq 6 v23, .w (Below w8.heap.size w8)] 63 [[]] [] [0, 1, 2, 3, 4] hM hN hD (by kernel_rfl) ⟨s0, s3, s6, ⟨Below.refl _ _, below_drew (Below.refl _ _)⟩, trivial⟩ ⟨fun _ _ hb h => below_step h hb, trivial⟩ (fun hgrow => ⟨fun _ _ _ => rv rfl (x_assign rfl rfl) rfl, trivial⟩) ?_
      clear s0 s3 s6
      clear hN hD
      rintro a9 w9 hN hD ⟨s7, s0, s3, s6, hGR, -⟩
      replace HB := below_step HB hGR
      replace HBX3 := blk_below HBX3 hGR
      replace HCgc := HCgc.below hGR
      replace HOV := HOV.below hGR
      clear hGR
      show Code.wp _ _ _ _ _
      refine wp_block ?_
      have HIN := Inn.nil w9 w.heap.size
      have HLW : w.heap.size ≤ w.heap.size := Nat.le_refl _
      refine wp_loopN (fun n_ q_ w_ => ∃ (i : Int) (v : Value) (ys : List LO), (q_.tmps.size = 63) ∧ (q_.defers = []) ∧ (sl q_ 0 = .slice A os.length c) ∧ (sl q_ 3 = .pointer (some ⟨g3, 0, none⟩)) ∧ (sl q_ 6 = v) ∧ (sl q_ 7 = .int .i64 i) ∧ (Below w.heap.size w w_) ∧ (w_.heap[g3]? = some (.cells ([.slice E xs.length d]).toArray 41 (0, 0))) ∧ (IB w_ gc (cnt os) 3) ∧ (OwnRow RL 67 12 w_ 0 v ys) ∧ (Inn w_ ys (w.heap.size)) ∧ (0 ≤ i) ∧ (i ≤ os.length) ∧ (Above w.heap.size v) ∧ (Above w.heap.size v) ∧ (ys.map LO.o = cutF (os.take i.toNat) xs) ∧ (∀ j : Int, 0 ≤ j → j < i → decide (gi xs (go_ os j).actor < (go_ os j).seq) = false → covers xs (go_ os j).deps = true) ∧ (n_ = (os.length - i).toNat)) ((fun (i : Int) (v : Value) (ys : List LO) => (os.length - i).toNat) 0 v23 []) ?_ ?_
      · exact ⟨0, v23, [], hN, hD, s0, s3, s6, s7, HB, HBX3, HCgc, HOV, HIN, (by omega), (by omega), bv23, bv23, (by simp [cutF]), (by intro j u v; omega), rfl⟩
      clear s0 s3 s6 s7 HB HBX3 HCgc HOV HIN hN hD
      rintro n_10 a10 w10 ⟨i, v, ys, hN, hD, s0, s3, s6, s7, HB, HBX3, HCgc, HOV, HIN, hi0, hi1, bv, cv, hym, hcv, hmeas⟩
      refine wp_seq ?_
      refine wp_seq ?_
      refine deedL [.eq 24 (.int .i64 i), .eq 25 (.slice A os.length c), .eq 26 (.int .i64 (os.length : Int)), .eq 27 (.bool (decide (i < (os.length : Int)))), .eq 0 (.slice A os.length c), .eq 3 (.pointer (some ⟨g3, 0, none⟩)), .eq 6 v, .eq 7 (.int .i64 i), .w (Below w10.heap.size w10)] 63 [[7], [4], [1], [0, 2]] [] [3, 4, 5, 6, 7, 8] hM hN hD (by kernel_rfl) ⟨s0, s3, s6, s7, ⟨Below.refl _ _, below_drew (Below.refl _ _)⟩, trivial⟩ ⟨fun _ _ hb h => below_step h hb, trivial⟩ (fun hgrow => ⟨fun _ _ h => rv rfl (x_move rfl h.1) rfl,
        fun _ _ h => rv rfl (x_move rfl h.1) rfl,
        fun _ _ h => rv rfl (x_len_slice rfl Try.underlying27 h.1) rfl,
        fun _ _ h => rv rfl (x_lss rfl h.1 h.2.1) rfl, trivial⟩) ?_
      clear s0 s3 s6 s7
      clear hN hD
      rintro a11 w11 hN hD ⟨s27, s0, s3, s6, s7, hGR, -⟩
      replace HB := below_step HB hGR
      replace HBX3 := blk_below HBX3 hGR
      replace HCgc := HCgc.below hGR
      replace HOV := HOV.below hGR
      replace HIN := HIN.below hGR
      clear hGR
      show Code.wp _ _ _ _ _
      refine wp_cond (t := decide (i < (os.length : Int))) s27 ?_
      rcases Bool.eq_false_or_eq_true (decide (i < (os.length : Int))) with cd12 | cd12
      · rw [cd12]
        show Code.wp _ _ _ _ _
        have pd12 := of_decide_eq_true cd12
        have hi2 := pd12
        refine wp_skip ?_
        show Code.wp _ _ _ _ _
        refine wp_seq ?_
        refine wp_block ?_
        refine wp_seq ?_
        refine wp_seq ?_
        have hfo := hfit.fine (List.mem_of_getElem? (go_of hi0 hi2))
        refine deedL (.eq 30 (.slice A os.length c) :: .eq 31 (.int .i64 i) :: .eq 32 (.pointer (some ((adr A).add (i.toNat * 12)))) :: .eq 33 (.pointer (some (((adr A).add (i.toNat * 12)).add 1))) :: .eq 34 (.int .i64 ((go_ os i).seq)) :: .eq 35 (.pointer (some ⟨g3, 0, none⟩)) :: .eq 36 (.slice E xs.length d) :: .eq 37 (.slice A os.length c) :: .eq 38 (.int .i64 i) :: .eq 39 (.pointer (some ((adr A).add (i.toNat * 12)))) :: .eq 40 (.pointer (some ((adr A).add (i.toNat * 12)))) :: .eq 41 (.int .i64 ((go_ os i).actor)) :: .eq 42 (.pointer (some ((adr E).add (((go_ os i).actor).toNat * 1)))) :: .eq 43 (.int .i64 (gi xs ((go_ os i).actor))) :: .eq 44 (.bool (decide (gi xs ((go_ os i).actor) < (go_ os i).seq))) :: .eq 0 (.slice A os.length c) :: .eq 3 (.pointer (some ⟨g3, 0, none⟩)) :: .eq 6 v :: .eq 7 (.int .i64 i) :: .w (Below w11.heap.size w11) :: []) 63 ([15] :: [18] :: [0, 1] :: [2] :: [3, 19] :: [16] :: [5, 19] :: [15] :: [18] :: [7, 8] :: [9] :: [10, 19] :: [6, 11] :: [12, 19] :: [4, 13] :: []) [] [14, 15, 16, 17, 18, 19] hM hN hD (by kernel_rfl) ⟨s0, s3, s6, s7, ⟨Below.refl _ _, below_drew (Below.refl _ _)⟩, trivial⟩ ⟨fun _ _ hb h => below_step h hb, trivial⟩ (fun hgrow => ⟨fun _ _ h => rv rfl (x_move rfl h.1) rfl,
          fun _ _ h => rv rfl (x_move rfl h.1) rfl,
          fun _ _ h => rv rfl (x_index_at rfl h.1 h.2.1 Try.underlying27 sz67 (by omega) (by omega) (RO.ad HR i (by omega) (by omega))) rfl,
          fun _ _ h => rv rfl (x_field rfl h.1 Try.underlying67 rfl sz3 (by decide) rfl) rfl,
          fun _ _ h => rv rfl (x_load1 rfl h.1 Try.underlying3 rfl (RO.cell HR (below_step HB h.2.1) (by omega) (by omega) (j := 1) rfl)) rfl,
          fun _ _ h => rv rfl (x_field rfl h.1 Try.underlying41 rfl sz24 (by decide) rfl) rfl,
          fun _ _ h => rv rfl (x_load1 rfl h.1 Try.underlying24 rfl (blk_one (L := [.slice E xs.length d]) (blk_below HBX3 h.2.1) 0 rfl)) rfl,
          fun _ _ h => rv rfl (x_move rfl h.1) rfl,
          fun _ _ h => rv rfl (x_move rfl h.1) rfl,
          fun _ _ h => rv rfl (x_index_at rfl h.1 h.2.1 Try.underlying27 sz67 (by omega) (by omega) (RO.ad HR i (by omega) (by omega))) rfl,
          fun _ _ h => rv rfl (x_field rfl h.1 Try.underlying67 rfl sz3 (by decide) rfl) rfl,
          fun _ _ h => rv rfl (x_load1 rfl h.1 Try.underlying3 rfl (RO.cell0 HR (below_step HB h.2.1) (by omega) (by omega))) rfl,
          fun _ _ h => rv rfl (x_index_at rfl h.1 h.2.1 Try.underlying24 sz3 hfo.a0 (by have := hfo.a1; omega) (RI.ad HV ((go_ os i).actor) hfo.a0 (by have := hfo.a1; omega))) rfl,
          fun _ _ h => rv rfl (x_load1 rfl h.1 Try.underlying3 rfl (RI.at_ HV (below_step HB h.2.1) hfo.a0 (by have := hfo.a1; omega))) rfl,
          fun _ _ h => rv rfl (x_gtr rfl h.1 h.2.1) rfl, trivial⟩) ?_
        clear s0 s3 s6 s7 s27
        clear hN hD
        rintro a13 w13 hN hD ⟨s44, s0, s3, s6, s7, hGR, -⟩
        replace HB := below_step HB hGR
        replace HBX3 := blk_below HBX3 hGR
        replace HCgc := HCgc.below hGR
        replace HOV := HOV.below hGR
        replace HIN := HIN.below hGR
        clear hGR
        show Code.wp _ _ _ _ _
        refine wp_cond (t := decide (gi xs ((go_ os i).actor) < (go_ os i).seq)) s44 ?_
        rcases Bool.eq_false_or_eq_true (decide (gi xs ((go_ os i).actor) < (go_ os i).seq)) with cd14 | cd14
        · rw [cd14]
          show Code.wp _ _ _ _ _
          have pd14 := of_decide_eq_true cd14
          have hd := cd14
          refine wp_exit (then_exit (at_exit ?_))
          show Code.wp _ _ _ _ _
          refine deedL [.eq 28 (.int .i64 i), .eq 29 (.int .i64 (i + 1)), .eq 7 (.int .i64 (i + 1)), .eq 0 (.slice A os.length c), .eq 3 (.pointer (some ⟨g3, 0, none⟩)), .eq 6 v, .eq 7 (.int .i64 i), .w (Below w13.heap.size w13)] 63 [[6], [0], [1]] [[], [], [6]] [2, 3, 4, 5, 7] hM hN hD (by kernel_rfl) ⟨s0, s3, s6, s7, ⟨Below.refl _ _, below_drew (Below.refl _ _)⟩, trivial⟩ ⟨fun _ _ hb h => below_step h hb, trivial⟩ (fun hgrow => ⟨fun _ _ h => rv rfl (x_move rfl h.1) rfl,
            fun _ _ h => rv rfl (x_add' rfl h.1 rfl (by omega)) rfl,
            fun _ _ h => rv rfl (x_assign rfl h.1) rfl, trivial⟩) ?_
          clear s0 s3 s6 s7 s44
          clear hN hD
          rintro a15 w15 hN hD ⟨s7, s0, s3, s6, hGR, -⟩
          replace HB := below_step HB hGR
          replace HBX3 := blk_below HBX3 hGR
          replace HCgc := HCgc.below hGR
          replace HOV := HOV.below hGR
          replace HIN := HIN.below hGR
          clear hGR
          show ∃ m, m < n_10 ∧ _
          exact ⟨_, (by omega), ⟨(i + 1), v, ys, hN, hD, s0, s3, s6, s7, HB, HBX3, HCgc, HOV, HIN, (by omega), (by omega), bv, cv, (by rw [cutF_t hi0 hi2 hd]; exact hym), (by intro j u v z; by_cases e : j = i; (subst e; (rw [z] at hd; cases hd)); exact hcv j u (by omega) z), rfl⟩⟩
        · rw [cd14]
          show Code.wp _ _ _ _ _
          have pd14 := of_decide_eq_false cd14
          have hd := cd14
          refine wp_skip ?_
          show Code.wp _ _ _ _ _
          refine wp_seq ?_
          refine wp_seq ?_
          refine deedL [.eq 45 (.agg #[Value.slice E xs.length d]), .eq 46 (.slice A os.length c), .eq 47 (.int .i64 i), .eq 48 (.pointer (some ((adr A).add (i.toNat * 12)))), .eq 49 (.pointer (some (((adr A).add (i.toNat * 12)).add 3))), .eq 50 (.agg #[Value.slice (D i.toNat) ((go_ os i).deps.length) (C i.toNat)]), .eq 51 (.bool (covers xs ((go_ os i).deps))), .eq 52 (.bool (!(covers xs ((go_ os i).deps)))), .eq 0 (.slice A os.length c), .eq 3 (.pointer (some ⟨g3, 0, none⟩)), .eq 6 v, .eq 7 (.int .i64 i), .w (Below w13.heap.size w13)] 63 [[9, 12], [8], [11], [1, 2], [3], [4, 12], [0, 5, 12], [6]] [] [7, 8, 9, 10, 11, 12] hM hN hD (by kernel_rfl) ⟨s0, s3, s6, s7, ⟨Below.refl _ _, below_drew (Below.refl _ _)⟩, trivial⟩ ⟨fun _ _ hb h => below_step h hb, trivial⟩ (fun hgrow => ⟨fun _ _ h => rv rfl (x_loadS rfl h.1 Try.underlying41 [.slice E xs.length d] sz41 (blk_list (L := [.slice E xs.length d]) (blk_below HBX3 h.2.1) 0 rfl)) rfl,
            fun _ _ h => rv rfl (x_move rfl h.1) rfl,
            fun _ _ h => rv rfl (x_move rfl h.1) rfl,
            fun _ _ h => rv rfl (x_index_at rfl h.1 h.2.1 Try.underlying27 sz67 (by omega) (by omega) (RO.ad HR i (by omega) (by omega))) rfl,
            fun _ _ h => rv rfl (x_field rfl h.1 Try.underlying67 rfl sz41 (by decide) rfl) rfl,
            fun _ _ h => rv rfl (x_loadS rfl h.1 Try.underlying41 [.slice (D i.toNat) ((go_ os i).deps.length) (C i.toNat)] sz41 (RO.sub HR (below_step HB h.2.1) (by omega) (by omega) 3 rfl)) rfl,
            fun _ _ h => rc hgrow rfl Try.func68 (by kernel_rfl) rfl rfl (args2 h.1 h.2.1) (sCov_calls E xs d (D i.toNat) ((go_ os i).deps) (C i.toNat) _ (RI.below HV (below_step HB h.2.2.1)) (RI.below (RO.deps HR (by omega) (by omega)) (below_step HB h.2.2.1)) hx16 hfo.vec.1) (fun _ _ h => ⟨_, h.1, h.2, rfl⟩),
            fun _ _ h => rv rfl (x_not rfl h.1) rfl, trivial⟩) ?_
          clear s0 s3 s6 s7 s44
          clear hN hD
          rintro a16 w16 hN hD ⟨s52, s0, s3, s6, s7, hGR, -⟩
          replace HB := below_step HB hGR
          replace HBX3 := blk_below HBX3 hGR
          replace HCgc := HCgc.below hGR
          replace HOV := HOV.below hGR
          replace HIN := HIN.below hGR
          clear hGR
          show Code.wp _ _ _ _ _
          refine wp_cond (t := !(covers xs ((go_ os i).deps))) s52 ?_
          rcases Bool.eq_false_or_eq_true (!(covers xs ((go_ os i).deps))) with cd17 | cd17
          · rw [cd17]
            show Code.wp _ _ _ _ _
            have pd17 := cd17
            simp at pd17
            have hc9 : covers xs (go_ os i).deps = false := by simpa using cd17
            refine wp_seq ?_
            refine deedL [.s1 53 fun x_ W => ∃ (v53 : Value), x_ = v53 ∧ OwnRow RL 67 12 W 0 v53 [] ∧ Above w16.heap.size v53, .s2 53 4 fun x_ y_ _ => ∃ (v53 : Value), x_ = v53 ∧ y_ = v53, .eq 5 (.int .i64 5), .w (Below w16.heap.size w16)] 63 [[3], [0], []] [] [2, 0, 1, 3] hM hN hD (by kernel_rfl) ⟨⟨Below.refl _ _, below_drew (Below.refl _ _)⟩, trivial⟩ ⟨fun _ _ _ hb h => by obtain ⟨v53, e_, h1_, h2_⟩ := h; exact ⟨v53, e_, h1_.below hb, h2_⟩, fun _ _ _ _ hb h => h, fun _ _ hb h => below_step h hb, trivial⟩ (fun hgrow => ⟨fun _ _ h => rbuild0 hgrow rfl rfl Try.underlying27 sz67 h.1.size (fun y_ _ u_ v_ => ⟨y_, rfl, u_, v_⟩),
              ?_,
              fun _ _ _ => rv rfl (x_assign rfl rfl) rfl, trivial⟩) ?_
            · rintro a_ W ⟨h0, -⟩
              obtain ⟨v53, e0, ho0, hb0⟩ := h0
              exact rv rfl (x_assign rfl e0) ⟨_, e0, rfl⟩
            clear s0 s3 s6 s7 s52
            clear hN hD
            rintro a18 w18 hN hD ⟨s5, ⟨v53, s53, HOV2, bv53⟩, q4, hGR, -⟩
            obtain ⟨v53_, e_, s4⟩ := q4
            cases s53.symm.trans e_
            replace bv53 := Above.le bv53 HB.size
            replace HB := below_step HB hGR
            replace HBX3 := blk_below HBX3 hGR
            replace HCgc := HCgc.below hGR
            replace HOV := HOV.below hGR
            replace HIN := HIN.below hGR
            clear hGR
            show Code.wp _ _ _ _ _
            refine wp_ret (then_ret (blk_ret (then_ret (then_ret (blk_ret (then_ret ?_))))))
            refine bodyPost_ret (fn := Try.f33) (results_list (rs := [.tmp 4, .tmp 5]) (vs := [v53, .int .i64 5]) rfl (by simp) (vtmp s4 (vtmp s5 .nil))) hD ?_
            have hC : sAtC os xs = 5 := by unfold sAtC; rw [if_pos ⟨hsl, hvo⟩, if_neg (fun h => by have := allCov_not hi0 hi2 hd hc9; rw [h.2] at this; cases this)]
            have hA : sAt os xs = [] := by unfold sAt; rw [hC]; rfl
            have HIN9 := Inn.nil w18 w.heap.size
            obtain ⟨A9, c9, hv9, _, ho9⟩ := own_L HOV2 bv53 HIN9
            rw [hv9, hC, hA]
            exact ⟨A9, c9, [], rfl, ho9, rfl, HB⟩
          · rw [cd17]
            show Code.wp _ _ _ _ _
            have pd17 := cd17
            simp at pd17
            have hc9 : covers xs (go_ os i).deps = true := by simpa using cd17
            refine wp_skip ?_
            show Code.wp _ _ _ _ _
            have hdl := hfit.deps (List.mem_of_getElem? (go_of hi0 hi2))
            have hyl := congrArg List.length hym
            rw [List.length_map] at hyl
            have hyl2 := cutF_le (os.take i.toNat) xs
            have hyl3 : (os.take i.toNat).length ≤ os.length := by rw [List.length_take]; omega
            have HLO := HB.size
            refine deedL (.eq 54 v :: .eq 55 (.slice A os.length c) :: .eq 56 (.int .i64 i) :: .eq 57 (.pointer (some ((adr A).add (i.toNat * 12)))) :: .eq 58 (.agg (opc (go_ os i) (D i.toNat) (C i.toNat)).toArray) :: (.s1 59 fun x_ W => ∃ (A59 : Option Addr) (c59 : Nat), x_ = .agg (opc (go_ os i) A59 c59).toArray ∧ OwnI W A59 ((go_ os i).deps) (w16.heap.size) W.heap.size ∧ (go_ os i).deps.length ≤ c59) :: (.s2 59 60 fun x_ y_ W => ∃ (A59 : Option Addr) (c59 : Nat), x_ = .agg (opc (go_ os i) A59 c59).toArray ∧ NewL (opc (go_ os i) A59 c59) 67 y_ W) :: (.s1 61 fun x_ W => ∃ (v61 : Value) (A59 : Option Addr) (c59 : Nat), x_ = v61 ∧ OwnRow RL 67 12 W 0 v61 (ys ++ [LO.mk (go_ os i) A59 c59]) ∧ Inn W (ys ++ [LO.mk (go_ os i) A59 c59]) (w.heap.size) ∧ Above (w.heap.size) v61) :: (.s2 61 6 fun x_ y_ _ => ∃ (v61 : Value), x_ = v61 ∧ y_ = v61) :: .eq 0 (.slice A os.length c) :: .eq 3 (.pointer (some ⟨g3, 0, none⟩)) :: .eq 6 v :: .eq 7 (.int .i64 i) :: (.w (Kx (fun k => some k = v.ownBlock) w16)) :: (.w fun W => OwnRow RL 67 12 W 0 v ys) :: []) 63 [[11], [9], [12], [1, 2], [3, 13], [4, 13], [5], [0, 5, 6, 14, 13], [7]] [[], [], [], [], [], [], [], [5, 6, 8, 14], [11]] [7, 8, 9, 10, 12, 13] hM hN hD (by kernel_rfl) ⟨s0, s3, s6, s7, ⟨Kx.refl _ _, Kx.drew _ _⟩, ⟨HOV, HOV.below (below_drew (Below.refl _ _))⟩, trivial⟩ ⟨fun _ _ _ hb h => by obtain ⟨A59, c59, e_, z0, z1⟩ := h; exact ⟨_, _, e_, (z0.below hb).wide (Nat.le_refl _) hb.size, z1⟩, fun _ _ _ _ hb h => by obtain ⟨a_, b_, e_, z⟩ := h; exact ⟨a_, b_, e_, z.grow hb⟩, fun _ _ _ hb h => by obtain ⟨a_, b_, c_, e_, h1_, h2_, h3_⟩ := h; exact ⟨a_, b_, c_, e_, h1_.below hb, h2_.below hb, h3_⟩, fun _ _ _ _ hb h => h, fun _ _ hb h => h.step hb, fun _ _ hb h => h.below hb, trivial⟩ (fun hgrow => ⟨fun _ _ h => rv rfl (x_move rfl h.1) rfl,
              fun _ _ h => rv rfl (x_move rfl h.1) rfl,
              fun _ _ h => rv rfl (x_move rfl h.1) rfl,
              fun _ _ h => rv rfl (x_index_at rfl h.1 h.2.1 Try.underlying27 sz67 (by omega) (by omega) (RO.ad HR i (by omega) (by omega))) rfl,
              fun _ _ h => rv rfl (x_loadS rfl h.1 Try.underlying67 (opc (go_ os i) (D i.toNat) (C i.toNat)) sz67 (RO.cells HR (Kx.below HB h.2.1 HB.size (fun k e => bv k e.symm)) (by omega) (by omega))) rfl,
              fun _ _ h => rc hgrow rfl Try.func58 (by kernel_rfl) rfl rfl (args1 h.1) (sCopy_calls (go_ os i) (D i.toNat) (C i.toNat) _ (RI.below (RO.deps HR (by omega) (by omega)) (Kx.below HB h.2.1 HB.size (fun k e => bv k e.symm))) (by omega) (by omega)) (fun _ _ hR => by obtain ⟨A59, c59, e_, z0, z1, hb⟩ := hR; exact ⟨_, e_, hb, A59, c59, rfl, (z0.wide h.2.1.size (Nat.le_refl _)), z1⟩),
              ?_,
              ?_,
              ?_, trivial⟩) ?_
            · rintro a_ W ⟨h5, -⟩
              obtain ⟨A59, c59, e5, HOI_, HCC_⟩ := h5
              exact rbuild1 hgrow rfl rfl Try.underlying27 zi67 (by decide) (by decide) e5 rfl rfl (fun _ _ z => ⟨_, _, e5, z⟩)
            · rintro a_ W ⟨h0, h5, h6, h14, h13, -⟩
              obtain ⟨A59, c59, ec_, HOI_, HCC_⟩ := h5
              obtain ⟨A2_, c2_, ed_, hn_⟩ := h6
              cases ec_.symm.trans ed_
              exact rappCopy (lo := w.heap.size) (p := (go_ os i)) (A := A59) (c := c59) rfl rfl Try.underlying27 inf67 rfl (by decide) (by decide) h0 hn_ HOV h14 HIN HOI_ HCC_ (by omega) cv HLO h13 (fun v1_ W2_ u1 u2 u3 u4 => owe_keep ⟨fun h => u4, trivial⟩ ⟨v1_, A59, c59, rfl, u1, u2, u3⟩)
            · rintro a_ W ⟨h7, -⟩
              obtain ⟨v61, A59, c59, e7, HO_, HI_, hb7⟩ := h7
              exact rv rfl (x_assign rfl e7) ⟨_, e7, rfl⟩
            clear s0 s3 s6 s7 s52
            clear hN hD
            rintro a19 w19 hN hD ⟨⟨v61, A59, c59, s61, HOVN, HINN, cv61⟩, q6, s0, s3, s7, hGR, -⟩
            obtain ⟨v61_, e_, s6⟩ := q6
            cases s61.symm.trans e_
            have NB := Kx.below HB hGR HB.size (fun k e => bv k e.symm)
            have NBX3 := blk_kx HBX3 hGR (own_blk HOV HBX3 rfl)
            have NCgc : IB w19 gc (cnt os) 3 := blk_kx HCgc hGR (own_blk HOV HCgc rfl)
            clear HIN
            replace HB := NB
            replace HBX3 := NBX3
            replace HCgc := NCgc
            clear NB NBX3 NCgc
            replace HOV := HOVN
            clear HOVN
            have HIN := HINN
            clear HINN
            have bv61 := Above.le cv61 HLW
            clear hGR
            show Code.wp _ _ _ _ _
            refine deedL [.eq 28 (.int .i64 i), .eq 29 (.int .i64 (i + 1)), .eq 7 (.int .i64 (i + 1)), .eq 0 (.slice A os.length c), .eq 3 (.pointer (some ⟨g3, 0, none⟩)), .eq 6 v61, .eq 7 (.int .i64 i), .w (Below w19.heap.size w19)] 63 [[6], [0], [1]] [[], [], [6]] [2, 3, 4, 5, 7] hM hN hD (by kernel_rfl) ⟨s0, s3, s6, s7, ⟨Below.refl _ _, below_drew (Below.refl _ _)⟩, trivial⟩ ⟨fun _ _ hb h => below_step h hb, trivial⟩ (fun hgrow => ⟨fun _ _ h => rv rfl (x_move rfl h.1) rfl,
              fun _ _ h => rv rfl (x_add' rfl h.1 rfl (by omega)) rfl,
              fun _ _ h => rv rfl (x_assign rfl h.1) rfl, trivial⟩) ?_
            clear s0 s3 s7 s6
            clear hN hD
            rintro a20 w20 hN hD ⟨s7, s0, s3, s6, hGR, -⟩
            replace HB := below_step HB hGR
            replace HBX3 := blk_below HBX3 hGR
            replace HCgc := HCgc.below hGR
            replace HOV := HOV.below hGR
            replace HIN := HIN.below hGR
            clear hGR
            show ∃ m, m < n_10 ∧ _
            exact ⟨_, (by omega), ⟨(i + 1), v61, (ys ++ [LO.mk (go_ os i) A59 c59]), hN, hD, s0, s3, s6, s7, HB, HBX3, HCgc, HOV, HIN, (by omega), (by omega), bv61, cv61, (by rw [cutF_f hi0 hi2 hd, List.map_append, hym]; rfl), (by intro j u v z; by_cases e : j = i; (subst e; exact hc9); exact hcv j u (by omega) z), rfl⟩⟩
      · rw [cd12]
        show Code.wp _ _ _ _ _
        have pd12 := of_decide_eq_false cd12
        refine wp_exit (then_exit (then_exit (at_exit ?_)))
        show Code.wp _ _ _ _ _
        refine wp_seq ?_
        refine deedL [.eq 62 v, .eq 4 v, .eq 5 (.int .i64 0), .eq 6 v, .w (Below w11.heap.size w11)] 63 [[3], [0], []] [] [1, 2, 3, 4] hM hN hD (by kernel_rfl) ⟨s6, ⟨Below.refl _ _, below_drew (Below.refl _ _)⟩, trivial⟩ ⟨fun _ _ hb h => below_step h hb, trivial⟩ (fun hgrow => ⟨fun _ _ h => rv rfl (x_move rfl h.1) rfl,
          fun _ _ h => rv rfl (x_assign rfl h.1) rfl,
          fun _ _ _ => rv rfl (x_assign rfl rfl) rfl, trivial⟩) ?_
        clear s0 s3 s6 s7 s27
        clear hN hD
        rintro a21 w21 hN hD ⟨s4, s5, s6, hGR, -⟩
        replace HB := below_step HB hGR
        replace HBX3 := blk_below HBX3 hGR
        replace HCgc := HCgc.below hGR
        replace HOV := HOV.below hGR
        replace HIN := HIN.below hGR
        clear hGR
        show Code.wp _ _ _ _ _
        refine wp_ret ?_
        refine bodyPost_ret (fn := Try.f33) (results_list (rs := [.tmp 4, .tmp 5]) (vs := [v, .int .i64 0]) rfl (by simp) (vtmp s4 (vtmp s5 .nil))) hD ?_
        have hC : sAtC os xs = 0 := by unfold sAtC; rw [if_pos ⟨hsl, hvo⟩, if_pos ⟨hcc, allCov_of (fun j u v => hcv j u (by omega))⟩]
        obtain ⟨A9, c9, hv9, hc9, ho9⟩ := own_L HOV cv HIN
        have hq9 : ys.map LO.o = sAt os xs := by unfold sAt; rw [hC, if_pos rfl, hym, List.take_of_length_le (by omega)]
        rw [hv9, hC]
        exact ⟨A9, c9, ys, by rw [len_of' hq9], ho9, hq9, HB⟩
end Go.Proofs.Ytideafkiaipnoaa.Q

/- The book cut by a vector: plain. -/
namespace Go.Proofs.Ytideafkiaipnoaa.Q
set_option linter.unusedVariables false
set_option linter.unusedSimpArgs false
open Go Go.RowKit Go.Proofs.YtideafkiaipnoaaW.PrintWords Go.Proofs.Ytideafkiaipnoaa.Deed
theorem x_slice_hi {P : Program} {ρ : Operand → Value} {o : Oper} {w : World} {x y : Operand} {t e : TypeId} {A : Option Addr} {n c m : Nat} {k : IntKind} {h : Int} (ho : o.op = .slice t x none (some y) none) (hx : ρ x = .slice A n c) (hy : ρ y = .int k h) (ht : P.underlying t = some (.slice e)) (hi : (P.info? e).map (·.size) = some m) (h0 : 0 ≤ h) (h1 : h ≤ c) :
    (execOp ρ o).run P w = .ok (.value (.slice A h.toNat c)) w := by
  obtain ⟨i, hi1, hi2⟩ := Option.map_eq_some_iff.1 hi
  unfold execOp
  have e0 : (A.map fun a => a.add 0) = A := by cases A <;> rfl
  simp [ho, hx, hy, Instr.sliceAt, Instr.slice, Instr.sliceBounds, Instr.sliceBound, asIntOf, run_underlying ht, sizeOf, typeInfo, hi1, h0, h1, e0]
theorem RV.take {α : Type} {E : Enc α} {w : World} {A : Option Addr} {xs : List α} (h : RV E w A xs) (n : Nat) : RV E w A (xs.take n) := fun i x hx => by
  rw [List.getElem?_take] at hx
  split at hx
  · exact h i x hx
  · cases hx
/-- An actor's operations are counted from 1 on. -/
theorem oa_seq_take {os : List Op} (hc : Counted os) (a : Int) (n : Nat) (hn : n ≤ os.length) : ∀ (j : Nat) (o : Op), (oa (os.take n) a)[j]? = some o → o.seq = j + 1 := by
  induction n with
  | zero => intro j o h; simp [oa] at h
  | succ n ih =>
    intro j o h
    have hi : n < os.length := by omega
    have h1 := hc (n : Int) (by omega) (by omega)
    have e : go_ os (n : Int) = os[n] := go_nat hi
    rw [e] at h1
    simp only [Int.toNat_natCast] at h1
    rw [List.take_add_one, List.getElem?_eq_getElem hi] at h
    unfold oa at h
    rw [List.filter_append] at h
    by_cases hl : j < ((os.take n).filter fun o => o.actor == a).length
    · rw [List.getElem?_append_left hl] at h
      exact ih (by omega) j o h
    · rw [List.getElem?_append_right (by omega)] at h
      have hm := List.mem_of_getElem? h
      have hm2 := (List.mem_filter.1 hm)
      have ho : o = os[n] := by simpa using hm2.1
      have hj := (List.getElem?_eq_some_iff.1 h).1
      have hl2 : ([os[n]].filter fun o => o.actor == a).length ≤ 1 := Nat.le_trans (List.length_filter_le _ _) (by simp)
      have hact : os[n].actor = a := by rw [← ho]; simpa using hm2.2
      have hj2 : j = ((os.take n).filter fun o => o.actor == a).length := by simp at hj hl2 ⊢; omega
      rw [ho, h1, hact]
      unfold num
      omega
theorem oa_seq {os : List Op} (hf : Fit os) (a : Int) {j : Nat} {o : Op} (h : (oa os a)[j]? = some o) : o.seq = j + 1 := by
  have := oa_seq_take hf.steps.counted a os.length (Nat.le_refl _) j o
  rw [List.take_length] at this
  exact this h
theorem filter_seq : ∀ (l : List Op) (k : Nat) (m : Int), (∀ (j : Nat) (o : Op), l[j]? = some o → o.seq = k + j + 1) → l.filter (fun o => !decide (m < o.seq)) = l.take (m.toNat - k)
  | [], _, _, _ => by simp
  | o :: r, k, m, h => by
    have h0 := h 0 o rfl
    have ih := filter_seq r (k + 1) m fun j o' ho => by have := h (j + 1) o' ho; omega
    by_cases hm : m < o.seq
    · rw [List.filter_cons_of_neg (by simpa using hm)]
      have h2 : m.toNat - k = 0 := by omega
      rw [h2, List.take_zero]
      rw [ih, show m.toNat - (k + 1) = 0 by omega, List.take_zero]
    · rw [List.filter_cons_of_pos (by simpa using hm), ih]
      have h2 : m.toNat - k = (m.toNat - (k + 1)) + 1 := by omega
      rw [h2, List.take_succ_cons]
theorem oa_cut {os : List Op} (hf : Fit os) (xs : List Int) (b : Int) : (oa os b).take (gi xs b).toNat = cutF (oa os b) xs := by
  have h := filter_seq (oa os b) 0 (gi xs b) fun j o ho => by have := oa_seq hf b ho; omega
  rw [Nat.sub_zero] at h
  rw [← h]
  unfold cutF
  apply List.filter_congr
  intro o ho
  have : o.actor = b := by have := (List.mem_filter.1 ho).2; simpa using this
  rw [this]
/-- What stays of a log, located. -/
def cutL (os : List Op) (D : Nat → Option Addr) (C : Nat → Nat) (xs : List Int) (n : Nat) : List LO := (List.range n).flatMap fun (b : Nat) => (la os D C (b : Int)).take (gi xs (b : Int)).toNat
theorem cutL_step {os : List Op} {D : Nat → Option Addr} {C : Nat → Nat} {xs : List Int} {a : Int} (h0 : 0 ≤ a) : cutL os D C xs (a + 1).toNat = cutL os D C xs a.toNat ++ (la os D C a).take (gi xs a).toNat := by
  have e : ((a.toNat : Nat) : Int) = a := by omega
  rw [show (a + 1).toNat = a.toNat + 1 by omega]
  simp only [cutL, List.range_succ, List.flatMap_append, List.flatMap_cons, List.flatMap_nil, List.append_nil, e]
theorem cutL_o {os : List Op} {D : Nat → Option Addr} {C : Nat → Nat} {xs : List Int} (hf : Fit os) : (cutL os D C xs 16).map LO.o = cutF os xs := by
  have h1 : (cutL os D C xs 16).map LO.o = (List.range 16).flatMap fun (b : Nat) => cutF (oa os (b : Int)) xs := by
    unfold cutL
    rw [List.map_flatMap]
    congr 1
    funext b
    rw [List.map_take, la_o, oa_cut hf]
  rw [h1]
  conv => rhs; rw [← flat_all hf]
  unfold cutF
  rw [List.filter_flatMap]
theorem cutL_sub (os : List Op) (D : Nat → Option Addr) (C : Nat → Nat) (xs : List Int) (n : Nat) : ∀ x ∈ cutL os D C xs n, x ∈ los os D C os.length := by
  intro x hx
  obtain ⟨b, _, hb⟩ := List.mem_flatMap.1 hx
  exact (List.mem_filter.1 (List.mem_of_mem_take hb)).1
end Go.Proofs.Ytideafkiaipnoaa.Q

/- Functions walked. -/
namespace Go.Proofs.Ytideafkiaipnoaa.Q
open Go Go.RowKit Go.Proofs.YtideafkiaipnoaaW.PrintWords Go.Proofs.YtideafkiaipnoaaW.PrintLast Go.Proofs.Ytideafkiaipnoaa.Deed
set_option maxRecDepth 100000
set_option linter.unusedVariables false
set_option linter.unusedSimpArgs false
theorem gd_mem {α : Type} [Inhabited α] {l : List α} {z : α} (h : z ∈ l) : ∃ q : Int, 0 ≤ q ∧ q < l.length ∧ gd l q = z := by
  obtain ⟨k, hk, e⟩ := List.getElem_of_mem h
  exact ⟨k, by omega, by omega, by simp [gd, List.getD_eq_getElem?_getD, hk, e]⟩
theorem take_gd {α : Type} [Inhabited α] {xs : List α} {j : Int} (h0 : 0 ≤ j) (h1 : j < xs.length) : xs.take (j + 1).toNat = xs.take j.toNat ++ [gd xs j] := gd_take h0 h1
theorem cutL_small {os : List Op} {D : Nat → Option Addr} {C : Nat → Nat} (hf : Fit os) (xs : List Int) {a : Int} (h0 : 0 ≤ a) (h1 : a < 16) (j : Nat) : (cutL os D C xs a.toNat ++ ((la os D C a).take (gi xs a).toNat).take j).length ≤ 1024 := by
  have h1 : (cutL os D C xs a.toNat).length ≤ ((List.range a.toNat).flatMap fun (b : Nat) => oa os (b : Int)).length := by
    unfold cutL
    rw [List.length_flatMap, List.length_flatMap]
    have : ∀ l : List Nat, (l.map fun (b : Nat) => ((la os D C (b : Int)).take (gi xs (b : Int)).toNat).length).sum ≤ (l.map fun (b : Nat) => (oa os (b : Int)).length).sum := by
      intro l
      induction l with
      | nil => simp
      | cons x r ih =>
        simp only [List.map_cons, List.sum_cons]
        have h2 := la_len os D C (x : Int)
        have h3 : ((la os D C (x : Int)).take (gi xs (x : Int)).toNat).length ≤ (la os D C (x : Int)).length := by rw [List.length_take]; omega
        omega
    exact this _
  have h2 : (((la os D C a).take (gi xs a).toNat).take j).length ≤ (oa os a).length := by
    rw [List.length_take, List.length_take, la_len]; omega
  have e : ((a.toNat : Nat) : Int) = a := by omega
  have h3 := flat_upto hf.steps.sorted.pair (fun o ho => (hf.fine ho).a0) (a.toNat + 1)
  rw [List.range_succ, List.flatMap_append, List.flatMap_cons, List.flatMap_nil, List.append_nil, e] at h3
  have h4 := congrArg List.length h3
  rw [List.length_append] at h4
  have h5 := List.length_filter_le (fun o : Op => decide (o.actor < ((a.toNat + 1 : Nat) : Int))) os
  have h6 := hf.len
  rw [List.length_append]
  omega
theorem allCov_la {os : List Op} {D : Nat → Option Addr} {C : Nat → Nat} {xs : List Int} (hf : Fit os) (h : allCov os xs = true) {a : Int} (h0 : 0 ≤ a) (h1 : a < 16) {z : LO} (hz : z ∈ (la os D C a).take (gi xs a).toNat) : covers xs z.o.deps = true := by
  have h2 : z.o ∈ cutF (oa os a) xs := by
    rw [← oa_cut hf, ← la_o os D C a, ← List.map_take]
    exact List.mem_map_of_mem hz
  have h3 : z.o ∈ cutF os xs := List.mem_filter.2 ⟨(List.mem_filter.1 (List.mem_filter.1 h2).1).1, (List.mem_filter.1 h2).2⟩
  exact List.all_eq_true.1 h _ h3
theorem allCov_of_la {os : List Op} {D : Nat → Option Addr} {C : Nat → Nat} {xs : List Int} (hf : Fit os) (h : ∀ b : Int, 0 ≤ b → b < 16 → ∀ z ∈ (la os D C b).take (gi xs b).toNat, covers xs z.o.deps = true) : allCov os xs = true := by
  unfold allCov
  rw [List.all_eq_true]
  intro o ho
  have h1 := (List.mem_filter.1 ho).1
  have h2 : o ∈ cutF (oa os o.actor) xs := List.mem_filter.2 ⟨List.mem_filter.2 ⟨h1, by simp⟩, (List.mem_filter.1 ho).2⟩
  rw [← oa_cut hf, ← la_o os D C o.actor, ← List.map_take] at h2
  obtain ⟨z, hz, rfl⟩ := List.mem_map.1 h2
  exact h _ (hf.fine h1).a0 (hf.fine h1).a1 z hz
set_option maxHeartbeats 2000000 in
theorem kat_calls (w9 : World) (ok : Nat → Prop) (g : Nat) (vs : List Value) (A : Option Addr) (os : List Op) (D : Nat → Option Addr) (C : Nat → Nat) (E : Option Addr) (xs : List Int) (d : Nat) (w : World) (HBK0 : BookAt w9 ok w g vs (bk (los os D C os.length))) (HR : RO w A os D C) (HV : RI w E xs) (hfit : Fit os) (hvx : VecOK xs) : Calls Try.prog 100 #[.pointer (some ⟨g, 0, none⟩), .agg #[Value.slice E xs.length d]] w fun e w' => ∃ p, e = .returned (.tuple #[p, .int .i64 (if covers (cnt os) xs = true ∧ allCov os xs = true then 0 else 5)]) ∧ ((if covers (cnt os) xs = true ∧ allCov os xs = true then 0 else 5) = (0 : Int) → ∃ g' vs', p = .pointer (some ⟨g', 0, none⟩) ∧ BookAt w (okW w w') w' g' vs' (bk (cutL os D C xs 16))) ∧ Below w.heap.size w w' := by
  refine calls_of_wp Try.func100 rfl ?_
  refine enter_ (N := 65) rfl ?_
  rintro a0 hN hD ⟨s0, s1, -⟩
  have HB : Below w.heap.size w w := Below.refl _ _
  obtain ⟨wb, hwb⟩ : ∃ wb, wb = w := ⟨_, rfl⟩
  have HBP : BookAt w9 ok wb g vs (bk (los os D C os.length)) := by rw [hwb]; exact HBK0
  have HB1 : Below wb.heap.size wb w := by rw [hwb]; exact Below.refl _ _
  have HBW : Below w.heap.size w wb := by rw [hwb]; exact Below.refl _ _
  have hx16 := hvx.1
  have hol := hfit.len
  have hac : Actors os := Steps.actors (fun i u v => (hfit.steps i u v).1)
  clear HBK0
  refine wp_seq ?_
  refine deedL [.s1 3 (NewB w.heap.size [.slice E xs.length d] 41), .eq 4 (.pointer none), .eq 5 (.int .i64 0), .eq 0 (.pointer (some ⟨g, 0, none⟩)), .eq 1 (.agg #[Value.slice E xs.length d]), .w (Below w.heap.size w)] 65 [[5, 4], [], []] [] [0, 3, 4, 5] hM hN hD (by kernel_rfl) ⟨s0, s1, ⟨Below.refl _ _, below_drew (Below.refl _ _)⟩, trivial⟩ ⟨fun _ _ _ hb h => h.grow hb, fun _ _ hb h => below_step h hb, trivial⟩ (fun hgrow => ⟨fun _ _ h => rbox hgrow rfl (x_box rfl h.2.1) h.1.size (fun _ _ z => z),
    fun _ _ _ => rv rfl (x_assign rfl rfl) rfl,
    fun _ _ _ => rv rfl (x_assign rfl rfl) rfl, trivial⟩) ?_
  clear s0 s1
  clear hN hD
  rintro a1 w1 hN hD ⟨⟨g3, s3, lg3, HBX3⟩, s0, s1, hGR, -⟩
  replace HB := below_step HB hGR
  replace HB1 := below_step HB1 hGR
  clear hGR
  show Code.wp _ _ _ _ _
  refine wp_seq ?_
  obtain ⟨wz, hwz⟩ : ∃ wz, wz = w1 := ⟨_, rfl⟩
  have ub3 : g3 < wz.heap.size := by rw [hwz]; exact blk_lt HBX3
  have hwzl : w.heap.size ≤ wz.heap.size := by rw [hwz]; exact HB.size
  have HBZ : Below wz.heap.size wz w1 := by rw [hwz]; exact Below.refl _ _
  refine deedL [.eq 13 (.agg (bookCells (List.replicate 16 (.slice none 0 0)) Bk.zero).toArray), .s1 14 (NewB w1.heap.size (bookCells (List.replicate 16 (.slice none 0 0)) Bk.zero) 75), .s2 14 6 fun x_ y_ _ => ∃ (g14 : Nat), x_ = .pointer (some ⟨g14, 0, none⟩) ∧ y_ = .pointer (some ⟨g14, 0, none⟩), .eq 0 (.pointer (some ⟨g, 0, none⟩)), .eq 3 (.pointer (some ⟨g3, 0, none⟩)), .w (Below w1.heap.size w1)] 65 [[], [5, 0], [1]] [] [1, 2, 3, 4, 5] hM hN hD (by kernel_rfl) ⟨s0, s3, ⟨Below.refl _ _, below_drew (Below.refl _ _)⟩, trivial⟩ ⟨fun _ _ _ hb h => h.grow hb, fun _ _ _ _ hb h => h, fun _ _ hb h => below_step h hb, trivial⟩ (fun hgrow => ⟨fun _ _ _ => rv rfl (x_build rfl Try.underlying75 zb75 pb75 rfl rfl (ps := []) (vs := []) (L := bookCells (List.replicate 16 (.slice none 0 0)) Bk.zero)) rfl,
    fun _ _ h => rbox hgrow rfl (x_box rfl h.2.1) h.1.size (fun _ _ z => z),
    ?_, trivial⟩) ?_
  · rintro a_ W ⟨h1, -⟩
    obtain ⟨g14, e1, l1, hb1⟩ := h1
    exact rv rfl (x_assign rfl e1) ⟨_, e1, rfl⟩
  clear s0 s1 s3
  clear hN hD
  rintro a2 w2 hN hD ⟨⟨g14, s14, lg14, HBX14⟩, q6, s0, s3, hGR, -⟩
  obtain ⟨g14_, e_, s6⟩ := q6
  cases s14.symm.trans e_
  have lz14 := lg14
  replace lg14 := Nat.le_trans HB.size lg14
  replace HB := below_step HB hGR
  replace HB1 := below_step HB1 hGR
  replace HBX3 := blk_below HBX3 hGR
  replace HBZ := below_step HBZ hGR
  have HBK : BookAt w (okW wz w2) w2 g14 (List.replicate 16 (.slice none 0 0)) Bk.zero := BookAt.zero HBX14 ⟨by rw [hwz]; exact lz14, blk_lt HBX14⟩
  clear HBX14
  clear hGR
  show Code.wp _ _ _ _ _
  refine wp_seq ?_
  refine wp_seq ?_
  refine deedL [.eq 15 (.pointer (some ⟨g3, 0, none⟩)), .eq 16 (.slice E xs.length d), .eq 17 (.int .i64 (xs.length : Int)), .eq 18 (.int .i64 0), .eq 0 (.pointer (some ⟨g, 0, none⟩)), .eq 3 (.pointer (some ⟨g3, 0, none⟩)), .eq 6 (.pointer (some ⟨g14, 0, none⟩)), .w (Below w2.heap.size w2)] 65 [[5], [0, 7], [1], []] [] [1, 2, 3, 4, 5, 6, 7] hM hN hD (by kernel_rfl) ⟨s0, s3, s6, ⟨Below.refl _ _, below_drew (Below.refl _ _)⟩, trivial⟩ ⟨fun _ _ hb h => below_step h hb, trivial⟩ (fun hgrow => ⟨fun _ _ h => rv rfl (x_field rfl h.1 Try.underlying41 rfl sz24 (by decide) rfl) rfl,
    fun _ _ h => rv rfl (x_load1 rfl h.1 Try.underlying24 rfl (blk_one (L := [.slice E xs.length d]) (blk_below HBX3 h.2.1) 0 rfl)) rfl,
    fun _ _ h => rv rfl (x_len_slice rfl Try.underlying24 h.1) rfl,
    fun _ _ _ => rv rfl (x_move rfl rfl) rfl, trivial⟩) ?_
  clear s0 s3 s6
  clear hN hD
  rintro a3 w3 hN hD ⟨s16, s17, s18, s0, s3, s6, hGR, -⟩
  replace HB := below_step HB hGR
  replace HB1 := below_step HB1 hGR
  replace HBX3 := blk_below HBX3 hGR
  replace HBZ := below_step HBZ hGR
  replace HBK := HBK.stepW hGR
  clear hGR
  show Code.wp _ _ _ _ _
  refine wp_block ?_
  refine wp_loopN (fun n_ q_ w_ => ∃ (i : Int), (q_.tmps.size = 65) ∧ (q_.defers = []) ∧ (sl q_ 0 = .pointer (some ⟨g, 0, none⟩)) ∧ (sl q_ 3 = .pointer (some ⟨g3, 0, none⟩)) ∧ (sl q_ 6 = .pointer (some ⟨g14, 0, none⟩)) ∧ (sl q_ 16 = .slice E xs.length d) ∧ (sl q_ 17 = .int .i64 (xs.length : Int)) ∧ (sl q_ 18 = .int .i64 i) ∧ (Below w.heap.size w w_) ∧ (Below wb.heap.size wb w_) ∧ (w_.heap[g3]? = some (.cells ([.slice E xs.length d]).toArray 41 (0, 0))) ∧ (Below wz.heap.size wz w_) ∧ (BookAt w (okW wz w_) w_ g14 (List.replicate 16 (.slice none 0 0)) Bk.zero) ∧ (0 ≤ i) ∧ (i ≤ 16) ∧ (∀ j : Int, 0 ≤ j → j < i → gi xs j ≤ num os j) ∧ (n_ = (16 - i).toNat)) ((fun (i : Int) => (16 - i).toNat) 0) ?_ ?_
  · exact ⟨0, hN, hD, s0, s3, s6, s16, s17, s18, HB, HB1, HBX3, HBZ, HBK, (by omega), (by omega), (by intro j u v; omega), rfl⟩
  clear s0 s3 s6 s16 s17 s18 HB HB1 HBX3 HBZ HBK hN hD
  rintro n_4 a4 w4 ⟨i, hN, hD, s0, s3, s6, s16, s17, s18, HB, HB1, HBX3, HBZ, HBK, hi0, hi1, hi, hmeas⟩
  refine wp_seq ?_
  refine deedL [.eq 19 (.bool (decide (i < (xs.length : Int)))), .eq 0 (.pointer (some ⟨g, 0, none⟩)), .eq 3 (.pointer (some ⟨g3, 0, none⟩)), .eq 6 (.pointer (some ⟨g14, 0, none⟩)), .eq 16 (.slice E xs.length d), .eq 17 (.int .i64 (xs.length : Int)), .eq 18 (.int .i64 i), .w (Below w4.heap.size w4)] 65 [[6, 5]] [] [0, 1, 2, 3, 4, 5, 6, 7] hM hN hD (by kernel_rfl) ⟨s0, s3, s6, s16, s17, s18, ⟨Below.refl _ _, below_drew (Below.refl _ _)⟩, trivial⟩ ⟨fun _ _ hb h => below_step h hb, trivial⟩ (fun hgrow => ⟨fun _ _ h => rv rfl (x_lss rfl h.1 h.2.1) rfl, trivial⟩) ?_
  clear s0 s3 s6 s16 s17 s18
  clear hN hD
  rintro a5 w5 hN hD ⟨s19, s0, s3, s6, s16, s17, s18, hGR, -⟩
  replace HB := below_step HB hGR
  replace HB1 := below_step HB1 hGR
  replace HBX3 := blk_below HBX3 hGR
  replace HBZ := below_step HBZ hGR
  replace HBK := HBK.stepW hGR
  clear hGR
  show Code.wp _ _ _ _ _
  refine wp_seq ?_
  refine wp_cond (t := decide (i < (xs.length : Int))) s19 ?_
  rcases Bool.eq_false_or_eq_true (decide (i < (xs.length : Int))) with cd6 | cd6
  · rw [cd6]
    show Code.wp _ _ _ _ _
    have pd6 := of_decide_eq_true cd6
    have hi2 := pd6
    refine wp_skip ?_
    show Code.wp _ _ _ _ _
    refine wp_seq ?_
    refine wp_block ?_
    refine wp_seq ?_
    refine deedL [.eq 20 (.int .i64 i), .eq 21 (.pointer (some ((adr E).add (i.toNat * 1)))), .eq 22 (.int .i64 (gi xs i)), .eq 7 (.int .i64 i), .eq 8 (.int .i64 (gi xs i)), .eq 0 (.pointer (some ⟨g, 0, none⟩)), .eq 3 (.pointer (some ⟨g3, 0, none⟩)), .eq 6 (.pointer (some ⟨g14, 0, none⟩)), .eq 16 (.slice E xs.length d), .eq 17 (.int .i64 (xs.length : Int)), .eq 18 (.int .i64 i), .w (Below w5.heap.size w5)] 65 [[10], [8, 10], [1, 11], [0], [2]] [] [3, 4, 5, 6, 7, 8, 9, 10, 11] hM hN hD (by kernel_rfl) ⟨s0, s3, s6, s16, s17, s18, ⟨Below.refl _ _, below_drew (Below.refl _ _)⟩, trivial⟩ ⟨fun _ _ hb h => below_step h hb, trivial⟩ (fun hgrow => ⟨fun _ _ h => rv rfl (x_move rfl h.1) rfl,
      fun _ _ h => rv rfl (x_index_at rfl h.1 h.2.1 Try.underlying24 sz3 (by omega) (by omega) (RI.ad HV i (by omega) (by omega))) rfl,
      fun _ _ h => rv rfl (x_load1 rfl h.1 Try.underlying3 rfl (RI.at_ HV (below_step HB h.2.1) (by omega) (by omega))) rfl,
      fun _ _ h => rv rfl (x_assign rfl h.1) rfl,
      fun _ _ h => rv rfl (x_assign rfl h.1) rfl, trivial⟩) ?_
    clear s0 s3 s6 s16 s17 s18 s19
    clear hN hD
    rintro a7 w7 hN hD ⟨s7, s8, s0, s3, s6, s16, s17, s18, hGR, -⟩
    replace HB := below_step HB hGR
    replace HB1 := below_step HB1 hGR
    replace HBX3 := blk_below HBX3 hGR
    replace HBZ := below_step HBZ hGR
    replace HBK := HBK.stepW hGR
    clear hGR
    show Code.wp _ _ _ _ _
    refine wp_seq ?_
    obtain ⟨Aa, ca, hva, HRa, HCa, hca⟩ := book_rv HBP HR HBW hfit hi0 (by omega)
    have hlna : ((la os D C i).length : Int) = num os i := by rw [la_len]; rfl
    have hnle := num_le os i
    refine deedL (.eq 23 (.int .i64 (gi xs i)) :: .eq 24 (.pointer (some ⟨g, 0, none⟩)) :: .eq 25 (.int .i64 i) :: .eq 26 (.pointer (some ⟨g, 0, none⟩)) :: .eq 27 (.pointer (some ⟨g, 0, none⟩)) :: .eq 28 (.pointer (some ⟨g, i.toNat, none⟩)) :: .eq 29 (.slice Aa ((la os D C i).length) ca) :: .eq 30 (.int .i64 ((la os D C i).length)) :: .eq 31 (.bool (decide ((la os D C i).length < gi xs i))) :: .eq 0 (.pointer (some ⟨g, 0, none⟩)) :: .eq 3 (.pointer (some ⟨g3, 0, none⟩)) :: .eq 6 (.pointer (some ⟨g14, 0, none⟩)) :: .eq 7 (.int .i64 i) :: .eq 8 (.int .i64 (gi xs i)) :: .eq 16 (.slice E xs.length d) :: .eq 17 (.int .i64 (xs.length : Int)) :: .eq 18 (.int .i64 i) :: .w (Below w7.heap.size w7) :: []) 65 [[13], [9], [12], [1], [3], [4, 2], [5, 17], [6], [0, 7]] [] [8, 9, 10, 11, 12, 13, 14, 15, 16, 17] hM hN hD (by kernel_rfl) ⟨s0, s3, s6, s7, s8, s16, s17, s18, ⟨Below.refl _ _, below_drew (Below.refl _ _)⟩, trivial⟩ ⟨fun _ _ hb h => below_step h hb, trivial⟩ (fun hgrow => ⟨fun _ _ h => rv rfl (x_move rfl h.1) rfl,
      fun _ _ h => rv rfl (x_move rfl h.1) rfl,
      fun _ _ h => rv rfl (x_move rfl h.1) rfl,
      fun _ _ h => rv rfl (x_nil rfl h.1) rfl,
      fun _ _ h => rv rfl (x_field rfl h.1 Try.underlying75 rfl sz72 (by decide) rfl) rfl,
      fun _ _ h => rv rfl (x_index_array rfl h.1 h.2.1 Try.underlying72 sz27 (by omega) (by omega) (by rw [add_mk]; first | rfl | simp)) rfl,
      fun _ _ h => rv rfl (x_load1 rfl h.1 Try.underlying27 rfl (by have h_ := HBP.cof (i := i.toNat) (by omega); rw [hva] at h_; exact cell_below h_ (below_step HB1 h.2.1))) rfl,
      fun _ _ h => rv rfl (x_len_slice rfl Try.underlying27 h.1) rfl,
      fun _ _ h => rv rfl (x_gtr rfl h.1 h.2.1) rfl, trivial⟩) ?_
    clear s0 s3 s6 s16 s17 s18 s7 s8
    clear hN hD
    rintro a8 w8 hN hD ⟨s31, s0, s3, s6, s7, s8, s16, s17, s18, hGR, -⟩
    replace HB := below_step HB hGR
    replace HB1 := below_step HB1 hGR
    replace HBX3 := blk_below HBX3 hGR
    replace HBZ := below_step HBZ hGR
    replace HBK := HBK.stepW hGR
    clear hGR
    show Code.wp _ _ _ _ _
    refine wp_cond (t := decide ((la os D C i).length < gi xs i)) s31 ?_
    rcases Bool.eq_false_or_eq_true (decide ((la os D C i).length < gi xs i)) with cd9 | cd9
    · rw [cd9]
      show Code.wp _ _ _ _ _
      have pd9 := of_decide_eq_true cd9
      have hs : ¬ gi xs i ≤ num os i := by have := pd9; omega
      refine wp_seq ?_
      refine deedL [.eq 4 (.pointer none), .eq 5 (.int .i64 5), .w (Below w8.heap.size w8)] 65 [[], []] [] [0, 1, 2] hM hN hD (by kernel_rfl) ⟨⟨Below.refl _ _, below_drew (Below.refl _ _)⟩, trivial⟩ ⟨fun _ _ hb h => below_step h hb, trivial⟩ (fun hgrow => ⟨fun _ _ _ => rv rfl (x_assign rfl rfl) rfl,
        fun _ _ _ => rv rfl (x_assign rfl rfl) rfl, trivial⟩) ?_
      clear s0 s3 s6 s7 s8 s16 s17 s18 s31
      clear hN hD
      rintro a10 w10 hN hD ⟨s4, s5, hGR, -⟩
      replace HB := below_step HB hGR
      replace HB1 := below_step HB1 hGR
      replace HBX3 := blk_below HBX3 hGR
      replace HBZ := below_step HBZ hGR
      replace HBK := HBK.stepW hGR
      clear hGR
      show Code.wp _ _ _ _ _
      refine wp_ret (blk_ret (then_ret (then_ret (blk_ret (then_ret ?_)))))
      refine bodyPost_ret (fn := Try.f100) (results_list (rs := [.tmp 4, .tmp 5]) (vs := [.pointer none, .int .i64 5]) rfl (by simp) (vtmp s4 (vtmp s5 .nil))) hD ?_
      have hC : (if covers (cnt os) xs = true ∧ allCov os xs = true then 0 else 5) = (5 : Int) := if_neg (fun h => hs (by have := covers_iff.1 h.1 i hi0 (by omega); rw [gi_cnt hac hi0 (by omega)] at this; exact this))
      rw [hC]
      exact ⟨_, rfl, (fun h => absurd h (by decide)), HB⟩
    · rw [cd9]
      show Code.wp _ _ _ _ _
      have pd9 := of_decide_eq_false cd9
      have hs : gi xs i ≤ num os i := by have := pd9; omega
      refine wp_skip ?_
      show Code.wp _ _ _ _ _
      refine deedL [.eq 32 (.int .i64 (i + 1)), .eq 18 (.int .i64 (i + 1)), .eq 0 (.pointer (some ⟨g, 0, none⟩)), .eq 3 (.pointer (some ⟨g3, 0, none⟩)), .eq 6 (.pointer (some ⟨g14, 0, none⟩)), .eq 16 (.slice E xs.length d), .eq 17 (.int .i64 (xs.length : Int)), .eq 18 (.int .i64 i), .w (Below w8.heap.size w8)] 65 [[7], [0]] [[], [7]] [1, 2, 3, 4, 5, 6, 8] hM hN hD (by kernel_rfl) ⟨s0, s3, s6, s16, s17, s18, ⟨Below.refl _ _, below_drew (Below.refl _ _)⟩, trivial⟩ ⟨fun _ _ hb h => below_step h hb, trivial⟩ (fun hgrow => ⟨fun _ _ h => rv rfl (x_add' rfl h.1 rfl (by omega)) rfl,
        fun _ _ h => rv rfl (x_move rfl h.1) rfl, trivial⟩) ?_
      clear s0 s3 s6 s7 s8 s16 s17 s18 s31
      clear hN hD
      rintro a11 w11 hN hD ⟨s18, s0, s3, s6, s16, s17, hGR, -⟩
      replace HB := below_step HB hGR
      replace HB1 := below_step HB1 hGR
      replace HBX3 := blk_below HBX3 hGR
      replace HBZ := below_step HBZ hGR
      replace HBK := HBK.stepW hGR
      clear hGR
      show ∃ m, m < n_4 ∧ _
      exact ⟨_, (by omega), ⟨(i + 1), hN, hD, s0, s3, s6, s16, s17, s18, HB, HB1, HBX3, HBZ, HBK, (by omega), (by omega), (by intro j u v; by_cases e : j = i; (subst e; exact hs); exact hi j u (by omega)), rfl⟩⟩
  · rw [cd6]
    show Code.wp _ _ _ _ _
    have pd6 := of_decide_eq_false cd6
    refine wp_exit (then_exit (then_exit (at_exit ?_)))
    show Code.wp _ _ _ _ _
    refine wp_seq ?_
    refine wp_seq ?_
    have hcov : ∀ j : Int, 0 ≤ j → j < 16 → gi xs j ≤ num os j := fun j u v => hi j u (by omega)
    refine deedL [.eq 33 (.pointer (some ⟨g3, 0, none⟩)), .eq 34 (.slice E xs.length d), .eq 35 (.int .i64 (xs.length : Int)), .eq 36 (.int .i64 0), .eq 0 (.pointer (some ⟨g, 0, none⟩)), .eq 3 (.pointer (some ⟨g3, 0, none⟩)), .eq 6 (.pointer (some ⟨g14, 0, none⟩)), .w (Below w5.heap.size w5)] 65 [[5], [0, 7], [1], []] [] [1, 2, 3, 4, 5, 6, 7] hM hN hD (by kernel_rfl) ⟨s0, s3, s6, ⟨Below.refl _ _, below_drew (Below.refl _ _)⟩, trivial⟩ ⟨fun _ _ hb h => below_step h hb, trivial⟩ (fun hgrow => ⟨fun _ _ h => rv rfl (x_field rfl h.1 Try.underlying41 rfl sz24 (by decide) rfl) rfl,
      fun _ _ h => rv rfl (x_load1 rfl h.1 Try.underlying24 rfl (blk_one (L := [.slice E xs.length d]) (blk_below HBX3 h.2.1) 0 rfl)) rfl,
      fun _ _ h => rv rfl (x_len_slice rfl Try.underlying24 h.1) rfl,
      fun _ _ _ => rv rfl (x_move rfl rfl) rfl, trivial⟩) ?_
    clear s0 s3 s6 s16 s17 s18 s19
    clear hN hD
    rintro a12 w12 hN hD ⟨s34, s35, s36, s0, s3, s6, hGR, -⟩
    replace HB := below_step HB hGR
    replace HB1 := below_step HB1 hGR
    replace HBX3 := blk_below HBX3 hGR
    replace HBZ := below_step HBZ hGR
    replace HBK := HBK.stepW hGR
    clear hGR
    show Code.wp _ _ _ _ _
    refine wp_block ?_
    refine wp_loopN (fun n_ q_ w_ => ∃ (a : Int) (vs2 : List Value), (q_.tmps.size = 65) ∧ (q_.defers = []) ∧ (sl q_ 0 = .pointer (some ⟨g, 0, none⟩)) ∧ (sl q_ 3 = .pointer (some ⟨g3, 0, none⟩)) ∧ (sl q_ 6 = .pointer (some ⟨g14, 0, none⟩)) ∧ (sl q_ 34 = .slice E xs.length d) ∧ (sl q_ 35 = .int .i64 (xs.length : Int)) ∧ (sl q_ 36 = .int .i64 a) ∧ (Below w.heap.size w w_) ∧ (Below wb.heap.size wb w_) ∧ (w_.heap[g3]? = some (.cells ([.slice E xs.length d]).toArray 41 (0, 0))) ∧ (Below wz.heap.size wz w_) ∧ (BookAt w (okW wz w_) w_ g14 vs2 (bk (cutL os D C xs a.toNat))) ∧ (0 ≤ a) ∧ (a ≤ 16) ∧ (∀ b : Int, 0 ≤ b → b < a → ∀ z ∈ (la os D C b).take (gi xs b).toNat, covers xs z.o.deps = true) ∧ (n_ = (16 - a).toNat)) ((fun (a : Int) (vs2 : List Value) => (16 - a).toNat) 0 (List.replicate 16 (.slice none 0 0))) ?_ ?_
    · exact ⟨0, (List.replicate 16 (.slice none 0 0)), hN, hD, s0, s3, s6, s34, s35, s36, HB, HB1, HBX3, HBZ, HBK, (by omega), (by omega), (by intro b u v; omega), rfl⟩
    clear s0 s3 s6 s34 s35 s36 HB HB1 HBX3 HBZ HBK hN hD
    rintro n_13 a13 w13 ⟨a, vs2, hN, hD, s0, s3, s6, s34, s35, s36, HB, HB1, HBX3, HBZ, HBK, ha0, ha1, hca2, hmeas⟩
    refine wp_seq ?_
    refine deedL [.eq 37 (.bool (decide (a < (xs.length : Int)))), .eq 0 (.pointer (some ⟨g, 0, none⟩)), .eq 3 (.pointer (some ⟨g3, 0, none⟩)), .eq 6 (.pointer (some ⟨g14, 0, none⟩)), .eq 34 (.slice E xs.length d), .eq 35 (.int .i64 (xs.length : Int)), .eq 36 (.int .i64 a), .w (Below w13.heap.size w13)] 65 [[6, 5]] [] [0, 1, 2, 3, 4, 5, 6, 7] hM hN hD (by kernel_rfl) ⟨s0, s3, s6, s34, s35, s36, ⟨Below.refl _ _, below_drew (Below.refl _ _)⟩, trivial⟩ ⟨fun _ _ hb h => below_step h hb, trivial⟩ (fun hgrow => ⟨fun _ _ h => rv rfl (x_lss rfl h.1 h.2.1) rfl, trivial⟩) ?_
    clear s0 s3 s6 s34 s35 s36
    clear hN hD
    rintro a14 w14 hN hD ⟨s37, s0, s3, s6, s34, s35, s36, hGR, -⟩
    replace HB := below_step HB hGR
    replace HB1 := below_step HB1 hGR
    replace HBX3 := blk_below HBX3 hGR
    replace HBZ := below_step HBZ hGR
    replace HBK := HBK.stepW hGR
    clear hGR
    show Code.wp _ _ _ _ _
    refine wp_seq ?_
    refine wp_cond (t := decide (a < (xs.length : Int))) s37 ?_
    rcases Bool.eq_false_or_eq_true (decide (a < (xs.length : Int))) with cd15 | cd15
    · rw [cd15]
      show Code.wp _ _ _ _ _
      have pd15 := of_decide_eq_true cd15
      have ha2 := pd15
      refine wp_skip ?_
      show Code.wp _ _ _ _ _
      refine wp_seq ?_
      refine wp_block ?_
      refine wp_seq ?_
      refine deedL [.eq 38 (.int .i64 a), .eq 39 (.pointer (some ((adr E).add (a.toNat * 1)))), .eq 40 (.int .i64 (gi xs a)), .eq 9 (.int .i64 a), .eq 10 (.int .i64 (gi xs a)), .eq 0 (.pointer (some ⟨g, 0, none⟩)), .eq 3 (.pointer (some ⟨g3, 0, none⟩)), .eq 6 (.pointer (some ⟨g14, 0, none⟩)), .eq 34 (.slice E xs.length d), .eq 35 (.int .i64 (xs.length : Int)), .eq 36 (.int .i64 a), .w (Below w14.heap.size w14)] 65 [[10], [8, 10], [1, 11], [0], [2]] [] [3, 4, 5, 6, 7, 8, 9, 10, 11] hM hN hD (by kernel_rfl) ⟨s0, s3, s6, s34, s35, s36, ⟨Below.refl _ _, below_drew (Below.refl _ _)⟩, trivial⟩ ⟨fun _ _ hb h => below_step h hb, trivial⟩ (fun hgrow => ⟨fun _ _ h => rv rfl (x_move rfl h.1) rfl,
        fun _ _ h => rv rfl (x_index_at rfl h.1 h.2.1 Try.underlying24 sz3 (by omega) (by omega) (RI.ad HV a (by omega) (by omega))) rfl,
        fun _ _ h => rv rfl (x_load1 rfl h.1 Try.underlying3 rfl (RI.at_ HV (below_step HB h.2.1) (by omega) (by omega))) rfl,
        fun _ _ h => rv rfl (x_assign rfl h.1) rfl,
        fun _ _ h => rv rfl (x_assign rfl h.1) rfl, trivial⟩) ?_
      clear s0 s3 s6 s34 s35 s36 s37
      clear hN hD
      rintro a16 w16 hN hD ⟨s9, s10, s0, s3, s6, s34, s35, s36, hGR, -⟩
      replace HB := below_step HB hGR
      replace HB1 := below_step HB1 hGR
      replace HBX3 := blk_below HBX3 hGR
      replace HBZ := below_step HBZ hGR
      replace HBK := HBK.stepW hGR
      clear hGR
      show Code.wp _ _ _ _ _
      refine wp_seq ?_
      obtain ⟨Aa, ca, hva, HRa, HCa, hca⟩ := book_rv HBP HR HBW hfit ha0 (by omega)
      have hlna : ((la os D C a).length : Int) = num os a := by rw [la_len]; rfl
      have hnle := num_le os a
      have hge := (hvx.2 a ha0 (by omega)).1
      have hcl := hcov a ha0 (by omega)
      have hlt : ((la os D C a).take (gi xs a).toNat).length = (gi xs a).toNat := by rw [List.length_take]; omega
      refine deedL (.eq 41 (.pointer (some ⟨g, 0, none⟩)) :: .eq 42 (.int .i64 a) :: .eq 43 (.pointer (some ⟨g, 0, none⟩)) :: .eq 44 (.pointer (some ⟨g, 0, none⟩)) :: .eq 45 (.pointer (some ⟨g, a.toNat, none⟩)) :: .eq 46 (.slice Aa ((la os D C a).length) ca) :: .eq 47 (.int .i64 (gi xs a)) :: .eq 48 (.slice Aa ((gi xs a).toNat) ca) :: .eq 49 (.int .i64 ((gi xs a).toNat)) :: .eq 50 (.int .i64 0) :: .eq 0 (.pointer (some ⟨g, 0, none⟩)) :: .eq 3 (.pointer (some ⟨g3, 0, none⟩)) :: .eq 6 (.pointer (some ⟨g14, 0, none⟩)) :: .eq 9 (.int .i64 a) :: .eq 10 (.int .i64 (gi xs a)) :: .eq 34 (.slice E xs.length d) :: .eq 35 (.int .i64 (xs.length : Int)) :: .eq 36 (.int .i64 a) :: .w (Below w16.heap.size w16) :: []) 65 [[10], [13], [0], [2], [3, 1], [4, 18], [14], [5, 6], [7], []] [] [7, 8, 9, 10, 11, 12, 13, 14, 15, 16, 17, 18] hM hN hD (by kernel_rfl) ⟨s0, s3, s6, s9, s10, s34, s35, s36, ⟨Below.refl _ _, below_drew (Below.refl _ _)⟩, trivial⟩ ⟨fun _ _ hb h => below_step h hb, trivial⟩ (fun hgrow => ⟨fun _ _ h => rv rfl (x_move rfl h.1) rfl,
        fun _ _ h => rv rfl (x_move rfl h.1) rfl,
        fun _ _ h => rv rfl (x_nil rfl h.1) rfl,
        fun _ _ h => rv rfl (x_field rfl h.1 Try.underlying75 rfl sz72 (by decide) rfl) rfl,
        fun _ _ h => rv rfl (x_index_array rfl h.1 h.2.1 Try.underlying72 sz27 (by omega) (by omega) (by rw [add_mk]; first | rfl | simp)) rfl,
        fun _ _ h => rv rfl (x_load1 rfl h.1 Try.underlying27 rfl (by have h_ := HBP.cof (i := a.toNat) (by omega); rw [hva] at h_; exact cell_below h_ (below_step HB1 h.2.1))) rfl,
        fun _ _ h => rv rfl (x_move rfl h.1) rfl,
        fun _ _ h => rv rfl (x_slice_hi rfl h.1 h.2.1 Try.underlying27 sz67 hge (by omega)) rfl,
        fun _ _ h => rv rfl (x_len_slice rfl Try.underlying27 h.1) rfl,
        fun _ _ _ => rv rfl (x_move rfl rfl) rfl, trivial⟩) ?_
      clear s0 s3 s6 s34 s35 s36 s9 s10
      clear hN hD
      rintro a17 w17 hN hD ⟨s48, s49, s50, s0, s3, s6, s9, s10, s34, s35, s36, hGR, -⟩
      replace HB := below_step HB hGR
      replace HB1 := below_step HB1 hGR
      replace HBX3 := blk_below HBX3 hGR
      replace HBZ := below_step HBZ hGR
      replace HBK := HBK.stepW hGR
      clear hGR
      show Code.wp _ _ _ _ _
      refine wp_block ?_
      refine wp_loopN (fun n_ q_ w_ => ∃ (j : Int) (vs2 : List Value), (q_.tmps.size = 65) ∧ (q_.defers = []) ∧ (sl q_ 0 = .pointer (some ⟨g, 0, none⟩)) ∧ (sl q_ 3 = .pointer (some ⟨g3, 0, none⟩)) ∧ (sl q_ 6 = .pointer (some ⟨g14, 0, none⟩)) ∧ (sl q_ 34 = .slice E xs.length d) ∧ (sl q_ 35 = .int .i64 (xs.length : Int)) ∧ (sl q_ 36 = .int .i64 a) ∧ (sl q_ 48 = .slice Aa ((gi xs a).toNat) ca) ∧ (sl q_ 49 = .int .i64 ((gi xs a).toNat)) ∧ (sl q_ 50 = .int .i64 j) ∧ (Below w.heap.size w w_) ∧ (Below wb.heap.size wb w_) ∧ (w_.heap[g3]? = some (.cells ([.slice E xs.length d]).toArray 41 (0, 0))) ∧ (Below wz.heap.size wz w_) ∧ (BookAt w (okW wz w_) w_ g14 vs2 (bk (cutL os D C xs a.toNat ++ ((la os D C a).take (gi xs a).toNat).take j.toNat))) ∧ (0 ≤ j) ∧ (j ≤ (gi xs a).toNat) ∧ (∀ q : Int, 0 ≤ q → q < j → covers xs (gd ((la os D C a).take (gi xs a).toNat) q).o.deps = true) ∧ (n_ = ((gi xs a).toNat - j).toNat)) ((fun (j : Int) (vs2 : List Value) => ((gi xs a).toNat - j).toNat) 0 vs2) ?_ ?_
      · exact ⟨0, vs2, hN, hD, s0, s3, s6, s34, s35, s36, s48, s49, s50, HB, HB1, HBX3, HBZ, (by simpa using HBK), (by omega), (by omega), (by intro q u v; omega), rfl⟩
      clear s0 s3 s6 s9 s10 s34 s35 s36 s48 s49 s50 HB HB1 HBX3 HBZ HBK hN hD
      rintro n_18 a18 w18 ⟨j, vs2, hN, hD, s0, s3, s6, s34, s35, s36, s48, s49, s50, HB, HB1, HBX3, HBZ, HBK, hj0, hj1, hcj, hmeas⟩
      refine wp_seq ?_
      refine deedL [.eq 51 (.bool (decide (j < (gi xs a).toNat))), .eq 0 (.pointer (some ⟨g, 0, none⟩)), .eq 3 (.pointer (some ⟨g3, 0, none⟩)), .eq 6 (.pointer (some ⟨g14, 0, none⟩)), .eq 34 (.slice E xs.length d), .eq 35 (.int .i64 (xs.length : Int)), .eq 36 (.int .i64 a), .eq 48 (.slice Aa ((gi xs a).toNat) ca), .eq 49 (.int .i64 ((gi xs a).toNat)), .eq 50 (.int .i64 j), .w (Below w18.heap.size w18)] 65 [[9, 8]] [] [0, 1, 2, 3, 4, 5, 6, 7, 8, 9, 10] hM hN hD (by kernel_rfl) ⟨s0, s3, s6, s34, s35, s36, s48, s49, s50, ⟨Below.refl _ _, below_drew (Below.refl _ _)⟩, trivial⟩ ⟨fun _ _ hb h => below_step h hb, trivial⟩ (fun hgrow => ⟨fun _ _ h => rv rfl (x_lss rfl h.1 h.2.1) rfl, trivial⟩) ?_
      clear s0 s3 s6 s34 s35 s36 s48 s49 s50
      clear hN hD
      rintro a19 w19 hN hD ⟨s51, s0, s3, s6, s34, s35, s36, s48, s49, s50, hGR, -⟩
      replace HB := below_step HB hGR
      replace HB1 := below_step HB1 hGR
      replace HBX3 := blk_below HBX3 hGR
      replace HBZ := below_step HBZ hGR
      replace HBK := HBK.stepW hGR
      clear hGR
      show Code.wp _ _ _ _ _
      refine wp_seq ?_
      refine wp_cond (t := decide (j < (gi xs a).toNat)) s51 ?_
      rcases Bool.eq_false_or_eq_true (decide (j < (gi xs a).toNat)) with cd20 | cd20
      · rw [cd20]
        show Code.wp _ _ _ _ _
        have pd20 := of_decide_eq_true cd20
        have hj2 := pd20
        have hj2b : j < ((la os D C a).take (gi xs a).toNat).length := by rw [hlt]; exact hj2
        refine wp_skip ?_
        show Code.wp _ _ _ _ _
        refine wp_seq ?_
        refine wp_block ?_
        refine wp_seq ?_
        have hxm : gd ((la os D C a).take (gi xs a).toNat) j ∈ los os D C os.length := (List.mem_filter.1 (List.mem_of_mem_take (List.mem_of_getElem? (gd_of hj0 hj2b)))).1
        obtain ⟨ix, hix, hxA, hxC⟩ := lo_mem hxm
        have hom := List.mem_of_getElem? hix
        have hfo := hfit.fine hom
        have hxR : RI w (gd ((la os D C a).take (gi xs a).toNat) j).A (gd ((la os D C a).take (gi xs a).toNat) j).o.deps ∧ (gd ((la os D C a).take (gi xs a).toNat) j).o.deps.length ≤ (gd ((la os D C a).take (gi xs a).toNat) j).c := by rw [hxA, hxC]; exact ⟨(HR ix _ hix).2.2.1, (HR ix _ hix).2.2.2⟩
        refine deedL [.eq 52 (.pointer (some ((adr Aa).add (j.toNat * 12)))), .eq 53 (.agg (ecLO (gd ((la os D C a).take (gi xs a).toNat) j)).toArray), .s1 12 (NewB w19.heap.size [.int .i64 0, .int .i64 0, .int .i64 0, .slice none 0 0, .int .i64 0, .int .i64 0, .int .i64 0, .int .i64 0, .int .i64 0, .int .i64 0, .string ⟨#[]⟩, .string ⟨#[]⟩] 67), .s1 12 (NewB w19.heap.size (ecLO (gd ((la os D C a).take (gi xs a).toNat) j)) 67), .eq 0 (.pointer (some ⟨g, 0, none⟩)), .eq 3 (.pointer (some ⟨g3, 0, none⟩)), .eq 6 (.pointer (some ⟨g14, 0, none⟩)), .eq 34 (.slice E xs.length d), .eq 35 (.int .i64 (xs.length : Int)), .eq 36 (.int .i64 a), .eq 48 (.slice Aa ((gi xs a).toNat) ca), .eq 49 (.int .i64 ((gi xs a).toNat)), .eq 50 (.int .i64 j), .w (Below w19.heap.size w19)] 65 [[10, 12], [0, 13], [13], [2, 1, 13]] [[], [], [], [2]] [3, 4, 5, 6, 7, 8, 9, 10, 11, 12, 13] hM hN hD (by kernel_rfl) ⟨s0, s3, s6, s34, s35, s36, s48, s49, s50, ⟨Below.refl _ _, below_drew (Below.refl _ _)⟩, trivial⟩ ⟨fun _ _ _ hb h => h.grow hb, fun _ _ _ hb h => h.grow hb, fun _ _ hb h => below_step h hb, trivial⟩ (fun hgrow => ⟨fun _ _ h => rv rfl (x_index_at rfl h.1 h.2.1 Try.underlying27 sz67 (by omega) (by omega) (RV.ad (RV.take HRa (gi xs a).toNat) j (by omega) (by omega))) rfl,
          fun _ _ h => rv rfl (x_loadS rfl h.1 Try.underlying67 (ecLO (gd ((la os D C a).take (gi xs a).toNat) j)) sz67 (RV.cells (RV.take HRa (gi xs a).toNat) (below_step HB1 h.2.1) (by omega) (by omega))) rfl,
          fun _ _ h => rbox hgrow rfl (x_alloc rfl zr67) h.1.size (fun _ _ z => z),
          ?_, trivial⟩) ?_
        · rintro a_ W ⟨h2, h1, h13, -⟩
          obtain ⟨g12, e3, l3, hb3⟩ := h2
          exact rstoreS rfl rfl e3 h1 (by simp [Value.oneCell']) sz67 hb3 rfl ⟨_, e3, l3, blk_stored (cs := (ecLO (gd ((la os D C a).take (gi xs a).toNat) j))) 0 _ [.int .i64 0, .int .i64 0, .int .i64 0, .slice none 0 0, .int .i64 0, .int .i64 0, .int .i64 0, .int .i64 0, .int .i64 0, .int .i64 0, .string ⟨#[]⟩, .string ⟨#[]⟩] hb3 (of_decide_eq_true rfl)⟩ ⟨fun h => below_cells h l3, trivial⟩
        clear s0 s3 s6 s34 s35 s36 s48 s49 s50 s51
        clear hN hD
        rintro a21 w21 hN hD ⟨⟨g12, s12, lg12, HBX12⟩, s0, s3, s6, s34, s35, s36, s48, s49, s50, hGR, -⟩
        replace lg12 := Nat.le_trans HB.size lg12
        replace HB := below_step HB hGR
        replace HB1 := below_step HB1 hGR
        replace HBX3 := blk_below HBX3 hGR
        replace HBZ := below_step HBZ hGR
        replace HBK := HBK.stepW hGR
        clear hGR
        show Code.wp _ _ _ _ _
        refine wp_seq ?_
        refine wp_seq ?_
        refine deedL (.eq 54 (.pointer (some ⟨g12, 3, none⟩)) :: .eq 55 (.agg #[Value.slice ((gd ((la os D C a).take (gi xs a).toNat) j).A) ((gd ((la os D C a).take (gi xs a).toNat) j).o.deps.length) ((gd ((la os D C a).take (gi xs a).toNat) j).c)]) :: .eq 56 (.agg #[Value.slice E xs.length d]) :: .eq 57 (.bool (covers xs ((gd ((la os D C a).take (gi xs a).toNat) j).o.deps))) :: .eq 58 (.bool (!(covers xs ((gd ((la os D C a).take (gi xs a).toNat) j).o.deps)))) :: .eq 0 (.pointer (some ⟨g, 0, none⟩)) :: .eq 3 (.pointer (some ⟨g3, 0, none⟩)) :: .eq 6 (.pointer (some ⟨g14, 0, none⟩)) :: .eq 12 (.pointer (some ⟨g12, 0, none⟩)) :: .eq 34 (.slice E xs.length d) :: .eq 35 (.int .i64 (xs.length : Int)) :: .eq 36 (.int .i64 a) :: .eq 48 (.slice Aa ((gi xs a).toNat) ca) :: .eq 49 (.int .i64 ((gi xs a).toNat)) :: .eq 50 (.int .i64 j) :: .w (Below w21.heap.size w21) :: []) 65 [[8], [0, 15], [6, 15], [1, 2, 15], [3]] [] [4, 5, 6, 7, 8, 9, 10, 11, 12, 13, 14, 15] hM hN hD (by kernel_rfl) ⟨s0, s3, s6, s12, s34, s35, s36, s48, s49, s50, ⟨Below.refl _ _, below_drew (Below.refl _ _)⟩, trivial⟩ ⟨fun _ _ hb h => below_step h hb, trivial⟩ (fun hgrow => ⟨fun _ _ h => rv rfl (x_field rfl h.1 Try.underlying67 rfl sz41 (by decide) rfl) rfl,
          fun _ _ h => rv rfl (x_loadS rfl h.1 Try.underlying41 [.slice ((gd ((la os D C a).take (gi xs a).toNat) j).A) ((gd ((la os D C a).take (gi xs a).toNat) j).o.deps.length) ((gd ((la os D C a).take (gi xs a).toNat) j).c)] sz41 (blk_list (L := ecLO (gd ((la os D C a).take (gi xs a).toNat) j)) (blk_below HBX12 h.2.1) 3 rfl)) rfl,
          fun _ _ h => rv rfl (x_loadS rfl h.1 Try.underlying41 [.slice E xs.length d] sz41 (blk_list (L := [.slice E xs.length d]) (blk_below HBX3 h.2.1) 0 rfl)) rfl,
          fun _ _ h => rc hgrow rfl Try.func115 (by kernel_rfl) rfl rfl (args2 h.1 h.2.1) (iLE_calls ((gd ((la os D C a).take (gi xs a).toNat) j).A) ((gd ((la os D C a).take (gi xs a).toNat) j).o.deps) ((gd ((la os D C a).take (gi xs a).toNat) j).c) E xs d _ (RI.below (RV.inn (RV.take HRa (gi xs a).toNat) (by omega) (by omega) rfl) (below_step HB1 h.2.2.1)) (RI.below HV (below_step HB h.2.2.1)) hfo.vec.1 hx16) (fun _ _ h => ⟨_, h.1, h.2, rfl⟩),
          fun _ _ h => rv rfl (x_not rfl h.1) rfl, trivial⟩) ?_
        clear s0 s3 s6 s34 s35 s36 s48 s49 s50 s12
        clear hN hD
        rintro a22 w22 hN hD ⟨s58, s0, s3, s6, s12, s34, s35, s36, s48, s49, s50, hGR, -⟩
        replace HB := below_step HB hGR
        replace HB1 := below_step HB1 hGR
        replace HBX3 := blk_below HBX3 hGR
        replace HBZ := below_step HBZ hGR
        replace HBK := HBK.stepW hGR
        replace HBX12 := blk_below HBX12 hGR
        clear hGR
        show Code.wp _ _ _ _ _
        refine wp_cond (t := !(covers xs ((gd ((la os D C a).take (gi xs a).toNat) j).o.deps))) s58 ?_
        rcases Bool.eq_false_or_eq_true (!(covers xs ((gd ((la os D C a).take (gi xs a).toNat) j).o.deps))) with cd23 | cd23
        · rw [cd23]
          show Code.wp _ _ _ _ _
          have pd23 := cd23
          simp at pd23
          have hs : covers xs (gd ((la os D C a).take (gi xs a).toNat) j).o.deps = false := by simpa using cd23
          refine wp_seq ?_
          refine deedL [.eq 4 (.pointer none), .eq 5 (.int .i64 5), .w (Below w22.heap.size w22)] 65 [[], []] [] [0, 1, 2] hM hN hD (by kernel_rfl) ⟨⟨Below.refl _ _, below_drew (Below.refl _ _)⟩, trivial⟩ ⟨fun _ _ hb h => below_step h hb, trivial⟩ (fun hgrow => ⟨fun _ _ _ => rv rfl (x_assign rfl rfl) rfl,
            fun _ _ _ => rv rfl (x_assign rfl rfl) rfl, trivial⟩) ?_
          clear s0 s3 s6 s12 s34 s35 s36 s48 s49 s50 s58
          clear hN hD
          rintro a24 w24 hN hD ⟨s4, s5, hGR, -⟩
          replace HB := below_step HB hGR
          replace HB1 := below_step HB1 hGR
          replace HBX3 := blk_below HBX3 hGR
          replace HBZ := below_step HBZ hGR
          replace HBK := HBK.stepW hGR
          replace HBX12 := blk_below HBX12 hGR
          clear hGR
          show Code.wp _ _ _ _ _
          refine wp_ret (then_ret (blk_ret (then_ret (then_ret (blk_ret (blk_ret (then_ret (then_ret (blk_ret (then_ret ?_))))))))))
          refine bodyPost_ret (fn := Try.f100) (results_list (rs := [.tmp 4, .tmp 5]) (vs := [.pointer none, .int .i64 5]) rfl (by simp) (vtmp s4 (vtmp s5 .nil))) hD ?_
          have hC : (if covers (cnt os) xs = true ∧ allCov os xs = true then 0 else 5) = (5 : Int) := if_neg (fun h => by have := allCov_la (D := D) (C := C) hfit h.2 ha0 (by omega) (List.mem_of_getElem? (gd_of hj0 hj2b)); rw [hs] at this; cases this)
          rw [hC]
          exact ⟨_, rfl, (fun h => absurd h (by decide)), HB⟩
        · rw [cd23]
          show Code.wp _ _ _ _ _
          have pd23 := cd23
          simp at pd23
          have hs : covers xs (gd ((la os D C a).take (gi xs a).toNat) j).o.deps = true := by simpa using cd23
          refine wp_skip ?_
          show Code.wp _ _ _ _ _
          have hwzW := HBZ.size
          have hwbz : wb.heap.size ≤ wz.heap.size := by rw [hwb]; exact hwzl
          have hln16 := cutL_small (D := D) (C := C) hfit xs ha0 (by omega) j.toNat
          refine deedL [.eq 59 (.pointer (some ⟨g14, 0, none⟩)), .eq 60 (.agg (ecLO (gd ((la os D C a).take (gi xs a).toNat) j)).toArray), .w fun W => (∃ vs', BookAt w (okW wz W) W g14 vs' ((bk (cutL os D C xs a.toNat ++ ((la os D C a).take (gi xs a).toNat).take j.toNat)).put (gd ((la os D C a).take (gi xs a).toNat) j))) ∧ Kx (okW wz w22) w22 W, .eq 0 (.pointer (some ⟨g, 0, none⟩)), .eq 3 (.pointer (some ⟨g3, 0, none⟩)), .eq 6 (.pointer (some ⟨g14, 0, none⟩)), .eq 12 (.pointer (some ⟨g12, 0, none⟩)), .eq 34 (.slice E xs.length d), .eq 35 (.int .i64 (xs.length : Int)), .eq 36 (.int .i64 a), .eq 48 (.slice Aa ((gi xs a).toNat) ca), .eq 49 (.int .i64 ((gi xs a).toNat)), .eq 50 (.int .i64 j), .w (Below w22.heap.size w22)] 65 [[5], [6, 13], [0, 1, 13]] [[], [], [13]] [2, 3, 4, 5, 6, 7, 8, 9, 10, 11, 12] hM hN hD (by kernel_rfl) ⟨s0, s3, s6, s12, s34, s35, s36, s48, s49, s50, ⟨Below.refl _ _, below_drew (Below.refl _ _)⟩, trivial⟩ ⟨fun _ _ hb h => ⟨⟨_, h.1.choose_spec.stepW hb⟩, h.2.step hb⟩, fun _ _ hb h => below_step h hb, trivial⟩ (fun hgrow => ⟨fun _ _ h => rv rfl (x_move rfl h.1) rfl,
            fun _ _ h => rv rfl (x_loadS rfl h.1 Try.underlying67 (ecLO (gd ((la os D C a).take (gi xs a).toNat) j)) sz67 (blk_list (L := ecLO (gd ((la os D C a).take (gi xs a).toNat) j)) (blk_below HBX12 h.2.1) 0 rfl)) rfl,
            ?_, trivial⟩) ?_
          · rintro a_ W ⟨h0, h1, h13, -⟩
            refine runs_call Try.func90 (by kernel_rfl) rfl #[.pointer (some ⟨g14, 0, none⟩), .agg (opc (gd ((la os D C a).take (gi xs a).toNat) j).o (gd ((la os D C a).take (gi xs a).toNat) j).A (gd ((la os D C a).take (gi xs a).toNat) j).c).toArray] (wanted_none rfl) rfl (args2 h0 h1) ?_
            refine (put_calls w W (okW wz W) g14 vs2 (bk (cutL os D C xs a.toNat ++ ((la os D C a).take (gi xs a).toNat).take j.toNat)) (gd ((la os D C a).take (gi xs a).toNat) j) ⟨rfl, hxR.1, hxR.2⟩ (HBK.stepW h13) (fun k hk => hk.2) hfo.a0 hfo.a1 (by have := hfo.j0; omega) (by have := hfo.j1; omega) (fun q => Nat.le_trans (bk_of_le _ q) hln16) (by rw [bk_size]; omega) (by rw [bk_size]; omega)).mono ?_
            rintro e w3 ⟨rfl, ⟨vs1, hbk⟩, hkx⟩
            refine ⟨_, rfl, owe_keep trivial ⟨⟨vs1, hbk.lift (fun k hk => ?_)⟩, ?_⟩⟩
            · rcases hk with hk | hk
              · exact hk.1
              · exact Nat.le_trans (Nat.le_trans hwzW h13.size) hk
            · exact ⟨hkx.os.trans h13.os, hkx.tape.trans h13.tape, hkx.output.trans h13.output, Nat.le_trans h13.size hkx.size, fun k hk hn => (hkx.block k (Nat.lt_of_lt_of_le hk h13.size) (fun hk2 => hn ⟨hk2.1, hk⟩)).trans (h13.block k hk)⟩
          clear s0 s3 s6 s12 s34 s35 s36 s48 s49 s50 s58
          clear hN hD
          clear HBK
          clear HBX12
          rintro a25 w25 hN hD ⟨⟨⟨vs3, HBKN⟩, hkx⟩, s0, s3, s6, s12, s34, s35, s36, s48, s49, s50, -⟩
          replace HB := Kx.below HB hkx HB.size (fun k hk => Nat.le_trans hwzl hk.1)
          replace HB1 := Kx.below HB1 hkx HB1.size (fun k hk => Nat.le_trans hwbz hk.1)
          replace HBX3 := blk_kx HBX3 hkx (fun e => by have := e.1; omega)
          replace HBZ := Kx.below HBZ hkx HBZ.size (fun k hk => hk.1)
          have HBK := HBKN
          clear HBKN
          show Code.wp _ _ _ _ _
          refine deedL [.eq 62 (.int .i64 (j + 1)), .eq 50 (.int .i64 (j + 1)), .eq 0 (.pointer (some ⟨g, 0, none⟩)), .eq 3 (.pointer (some ⟨g3, 0, none⟩)), .eq 6 (.pointer (some ⟨g14, 0, none⟩)), .eq 34 (.slice E xs.length d), .eq 35 (.int .i64 (xs.length : Int)), .eq 36 (.int .i64 a), .eq 48 (.slice Aa ((gi xs a).toNat) ca), .eq 49 (.int .i64 ((gi xs a).toNat)), .eq 50 (.int .i64 j), .w (Below w25.heap.size w25)] 65 [[10], [0]] [[], [10]] [1, 2, 3, 4, 5, 6, 7, 8, 9, 11] hM hN hD (by kernel_rfl) ⟨s0, s3, s6, s34, s35, s36, s48, s49, s50, ⟨Below.refl _ _, below_drew (Below.refl _ _)⟩, trivial⟩ ⟨fun _ _ hb h => below_step h hb, trivial⟩ (fun hgrow => ⟨fun _ _ h => rv rfl (x_add' rfl h.1 rfl (by omega)) rfl,
            fun _ _ h => rv rfl (x_move rfl h.1) rfl, trivial⟩) ?_
          clear s0 s3 s6 s12 s34 s35 s36 s48 s49 s50
          clear hN hD
          rintro a26 w26 hN hD ⟨s50, s0, s3, s6, s34, s35, s36, s48, s49, hGR, -⟩
          replace HB := below_step HB hGR
          replace HB1 := below_step HB1 hGR
          replace HBX3 := blk_below HBX3 hGR
          replace HBZ := below_step HBZ hGR
          replace HBK := HBK.stepW hGR
          clear hGR
          show ∃ m, m < n_18 ∧ _
          exact ⟨_, (by omega), ⟨(j + 1), vs3, hN, hD, s0, s3, s6, s34, s35, s36, s48, s49, s50, HB, HB1, HBX3, HBZ, (by rw [take_gd hj0 hj2b, ← List.append_assoc, bk_snoc]; exact HBK), (by omega), (by omega), (by intro q u v; by_cases e : q = j; (subst e; exact hs); exact hcj q u (by omega)), rfl⟩⟩
      · rw [cd20]
        show Code.wp _ _ _ _ _
        have pd20 := of_decide_eq_false cd20
        refine wp_exit (then_exit (then_exit (at_exit ?_)))
        show Code.wp _ _ _ _ _
        refine deedL [.eq 63 (.int .i64 (a + 1)), .eq 36 (.int .i64 (a + 1)), .eq 0 (.pointer (some ⟨g, 0, none⟩)), .eq 3 (.pointer (some ⟨g3, 0, none⟩)), .eq 6 (.pointer (some ⟨g14, 0, none⟩)), .eq 34 (.slice E xs.length d), .eq 35 (.int .i64 (xs.length : Int)), .eq 36 (.int .i64 a), .w (Below w19.heap.size w19)] 65 [[7], [0]] [[], [7]] [1, 2, 3, 4, 5, 6, 8] hM hN hD (by kernel_rfl) ⟨s0, s3, s6, s34, s35, s36, ⟨Below.refl _ _, below_drew (Below.refl _ _)⟩, trivial⟩ ⟨fun _ _ hb h => below_step h hb, trivial⟩ (fun hgrow => ⟨fun _ _ h => rv rfl (x_add' rfl h.1 rfl (by omega)) rfl,
          fun _ _ h => rv rfl (x_move rfl h.1) rfl, trivial⟩) ?_
        clear s0 s3 s6 s34 s35 s36 s48 s49 s50 s51
        clear hN hD
        rintro a27 w27 hN hD ⟨s36, s0, s3, s6, s34, s35, hGR, -⟩
        replace HB := below_step HB hGR
        replace HB1 := below_step HB1 hGR
        replace HBX3 := blk_below HBX3 hGR
        replace HBZ := below_step HBZ hGR
        replace HBK := HBK.stepW hGR
        clear hGR
        show ∃ m, m < n_13 ∧ _
        exact ⟨_, (by omega), ⟨(a + 1), vs2, hN, hD, s0, s3, s6, s34, s35, s36, HB, HB1, HBX3, HBZ, (by rw [cutL_step ha0]; rw [List.take_of_length_le (by omega)] at HBK; exact HBK), (by omega), (by omega), (by intro b u v z hz; by_cases e : b = a; (subst e; obtain ⟨q, hq0, hq1, e2⟩ := gd_mem hz; have := hcj q hq0 (by omega); rw [e2] at this; exact this); exact hca2 b u (by omega) z hz), rfl⟩⟩
    · rw [cd15]
      show Code.wp _ _ _ _ _
      have pd15 := of_decide_eq_false cd15
      refine wp_exit (then_exit (then_exit (at_exit ?_)))
      show Code.wp _ _ _ _ _
      refine wp_seq ?_
      refine deedL [.eq 64 (.pointer (some ⟨g14, 0, none⟩)), .eq 4 (.pointer (some ⟨g14, 0, none⟩)), .eq 5 (.int .i64 0), .eq 6 (.pointer (some ⟨g14, 0, none⟩)), .w (Below w14.heap.size w14)] 65 [[3], [0], []] [] [1, 2, 3, 4] hM hN hD (by kernel_rfl) ⟨s6, ⟨Below.refl _ _, below_drew (Below.refl _ _)⟩, trivial⟩ ⟨fun _ _ hb h => below_step h hb, trivial⟩ (fun hgrow => ⟨fun _ _ h => rv rfl (x_move rfl h.1) rfl,
        fun _ _ h => rv rfl (x_assign rfl h.1) rfl,
        fun _ _ _ => rv rfl (x_assign rfl rfl) rfl, trivial⟩) ?_
      clear s0 s3 s6 s34 s35 s36 s37
      clear hN hD
      rintro a28 w28 hN hD ⟨s4, s5, s6, hGR, -⟩
      replace HB := below_step HB hGR
      replace HB1 := below_step HB1 hGR
      replace HBX3 := blk_below HBX3 hGR
      replace HBZ := below_step HBZ hGR
      replace HBK := HBK.stepW hGR
      clear hGR
      show Code.wp _ _ _ _ _
      refine wp_ret ?_
      refine bodyPost_ret (fn := Try.f100) (results_list (rs := [.tmp 4, .tmp 5]) (vs := [.pointer (some ⟨g14, 0, none⟩), .int .i64 0]) rfl (by simp) (vtmp s4 (vtmp s5 .nil))) hD ?_
      have hC : (if covers (cnt os) xs = true ∧ allCov os xs = true then 0 else 5) = (0 : Int) := if_pos ⟨covers_true (fun j u v => by rw [gi_cnt hac u v]; exact hcov j u v), allCov_of_la (D := D) (C := C) hfit (fun b u v => hca2 b u (by omega))⟩
      rw [hC]
      rw [show a.toNat = 16 by omega] at HBK
      exact ⟨_, rfl, fun _ => ⟨g14, vs2, rfl, HBK.imp fun k hk => ⟨Nat.le_trans hwzl hk.1, hk.2⟩⟩, HB⟩
end Go.Proofs.Ytideafkiaipnoaa.Q

/- Functions walked. -/
namespace Go.Proofs.Ytideafkiaipnoaa.Q
open Go Go.RowKit Go.Proofs.YtideafkiaipnoaaW.PrintWords Go.Proofs.YtideafkiaipnoaaW.PrintLast Go.Proofs.Ytideafkiaipnoaa.Deed
set_option maxRecDepth 100000
set_option linter.unusedVariables false
set_option linter.unusedSimpArgs false
def flatO (os : List Op) (n : Nat) : List Op := (List.range n).flatMap fun (b : Nat) => oa os (b : Int)
theorem flatO_step {os : List Op} {a : Int} (h0 : 0 ≤ a) : flatO os (a + 1).toNat = flatO os a.toNat ++ oa os a := by
  have e : ((a.toNat : Nat) : Int) = a := by omega
  rw [show (a + 1).toNat = a.toNat + 1 by omega]
  simp only [flatO, List.range_succ, List.flatMap_append, List.flatMap_cons, List.flatMap_nil, List.append_nil, e]
theorem flatO_le {os : List Op} (n : Nat) : (flatO os n).length ≤ n * os.length := by
  induction n with
  | zero => simp [flatO]
  | succ n ih =>
    simp only [flatO, List.range_succ, List.flatMap_append, List.flatMap_cons, List.flatMap_nil, List.append_nil, List.length_append]
    have h2 := oa_le os (n : Int)
    have h3 : (flatO os n).length = ((List.range n).flatMap fun (b : Nat) => oa os (b : Int)).length := rfl
    rw [Nat.succ_mul]
    omega
theorem take_go {os : List Op} {j : Int} (h0 : 0 ≤ j) (h1 : j < os.length) : os.take (j + 1).toNat = os.take j.toNat ++ [go_ os j] := by
  rw [show (j + 1).toNat = j.toNat + 1 by omega, List.take_add_one, go_of h0 h1]; rfl
set_option maxHeartbeats 2000000 in
theorem klog_calls (w9 : World) (ok : Nat → Prop) (g : Nat) (vs : List Value) (ls : List LO) (w : World) (HBK : BookAt w9 ok w g vs (bk ls)) (hro : ∀ x ∈ ls, RI w x.A x.o.deps ∧ x.o.deps.length ≤ x.c) (hact : ∀ x ∈ ls, 0 ≤ x.o.actor ∧ x.o.actor < 16) (hdep : ∀ x ∈ ls, x.o.deps.length = 16) (hln : ls.length ≤ 1024) : Calls Try.prog 70 #[.pointer (some ⟨g, 0, none⟩)] w fun e w' => ∃ A' c' ys, e = .returned (.slice A' (flatO (ls.map LO.o) 16).length c') ∧ OwnAt eLO w' A' ys w.heap.size w'.heap.size ∧ ys.map LO.o = flatO (ls.map LO.o) 16 ∧ Below w.heap.size w w' := by
  refine calls_of_wp Try.func70 rfl ?_
  refine enter_ (N := 29) rfl ?_
  rintro a0 hN hD ⟨s0, -⟩
  have HB : Below w.heap.size w w := Below.refl _ _
  obtain ⟨wb, hwb⟩ : ∃ wb, wb = w := ⟨_, rfl⟩
  have HBP : BookAt w9 ok wb g vs (bk ls) := by rw [hwb]; exact HBK
  have HB1 : Below wb.heap.size wb w := by rw [hwb]; exact Below.refl _ _
  have HLW : w.heap.size ≤ wb.heap.size := by rw [hwb]; exact Nat.le_refl _
  rw [← hwb] at hro
  clear HBK hwb
  refine wp_seq ?_
  refine deedL [.eq 2 (.slice none 0 0), .eq 0 (.pointer (some ⟨g, 0, none⟩)), .w (Below w.heap.size w)] 29 [[]] [] [1, 2] hM hN hD (by kernel_rfl) ⟨s0, ⟨Below.refl _ _, below_drew (Below.refl _ _)⟩, trivial⟩ ⟨fun _ _ hb h => below_step h hb, trivial⟩ (fun hgrow => ⟨fun _ _ _ => rv rfl (x_assign rfl rfl) rfl, trivial⟩) ?_
  clear s0
  clear hN hD
  rintro a1 w1 hN hD ⟨s0, hGR, -⟩
  replace HB := below_step HB hGR
  replace HB1 := below_step HB1 hGR
  clear hGR
  show Code.wp _ _ _ _ _
  refine wp_seq ?_
  refine deedL [.eq 3 (.slice none 0 0), .eq 0 (.pointer (some ⟨g, 0, none⟩)), .w (Below w1.heap.size w1)] 29 [[]] [] [0, 1, 2] hM hN hD (by kernel_rfl) ⟨s0, ⟨Below.refl _ _, below_drew (Below.refl _ _)⟩, trivial⟩ ⟨fun _ _ hb h => below_step h hb, trivial⟩ (fun hgrow => ⟨fun _ _ _ => rv rfl (x_assign rfl rfl) rfl, trivial⟩) ?_
  clear s0
  clear hN hD
  rintro a2 w2 hN hD ⟨s3, s0, hGR, -⟩
  replace HB := below_step HB hGR
  replace HB1 := below_step HB1 hGR
  clear hGR
  show Code.wp _ _ _ _ _
  refine wp_seq ?_
  refine wp_seq ?_
  refine deedL [.eq 7 (.int .i64 0), .eq 0 (.pointer (some ⟨g, 0, none⟩)), .eq 3 (.slice none 0 0), .w (Below w2.heap.size w2)] 29 [[]] [] [0, 1, 2, 3] hM hN hD (by kernel_rfl) ⟨s0, s3, ⟨Below.refl _ _, below_drew (Below.refl _ _)⟩, trivial⟩ ⟨fun _ _ hb h => below_step h hb, trivial⟩ (fun hgrow => ⟨fun _ _ _ => rv rfl (x_move rfl rfl) rfl, trivial⟩) ?_
  clear s0 s3
  clear hN hD
  rintro a3 w3 hN hD ⟨s7, s0, s3, hGR, -⟩
  replace HB := below_step HB hGR
  replace HB1 := below_step HB1 hGR
  clear hGR
  show Code.wp _ _ _ _ _
  refine wp_block ?_
  have HIN := Inn.nil w3 wb.heap.size
  have HOV : OwnRow RL 67 12 w3 0 (.slice none 0 0) [] := OwnRow.none_ _ _ _ _ _
  refine wp_loopN (fun n_ q_ w_ => ∃ (a : Int) (v : Value) (ys : List LO), (q_.tmps.size = 29) ∧ (q_.defers = []) ∧ (sl q_ 0 = .pointer (some ⟨g, 0, none⟩)) ∧ (sl q_ 3 = v) ∧ (sl q_ 7 = .int .i64 a) ∧ (Below w.heap.size w w_) ∧ (Below wb.heap.size wb w_) ∧ (OwnRow RL 67 12 w_ 0 v ys) ∧ (Inn w_ ys (wb.heap.size)) ∧ (0 ≤ a) ∧ (a ≤ 16) ∧ (Above w.heap.size v) ∧ (Above wb.heap.size v) ∧ (ys.map LO.o = flatO (ls.map LO.o) a.toNat) ∧ (n_ = (16 - a).toNat)) ((fun (a : Int) (v : Value) (ys : List LO) => (16 - a).toNat) 0 (.slice none 0 0) []) ?_ ?_
  · exact ⟨0, (.slice none 0 0), [], hN, hD, s0, s3, s7, HB, HB1, HOV, HIN, (by omega), (by omega), (Above.nil _), (Above.nil _), rfl, rfl⟩
  clear s0 s3 s7 HB HB1 HIN HOV hN hD
  rintro n_4 a4 w4 ⟨a, v, ys, hN, hD, s0, s3, s7, HB, HB1, HOV, HIN, ha0, ha1, bv, cv, hym, hmeas⟩
  refine wp_seq ?_
  refine deedL [.eq 8 (.bool (decide (a < 16))), .eq 0 (.pointer (some ⟨g, 0, none⟩)), .eq 3 v, .eq 7 (.int .i64 a), .w (Below w4.heap.size w4)] 29 [[3]] [] [0, 1, 2, 3, 4] hM hN hD (by kernel_rfl) ⟨s0, s3, s7, ⟨Below.refl _ _, below_drew (Below.refl _ _)⟩, trivial⟩ ⟨fun _ _ hb h => below_step h hb, trivial⟩ (fun hgrow => ⟨fun _ _ h => rv rfl (x_lss rfl h.1 rfl) rfl, trivial⟩) ?_
  clear s0 s3 s7
  clear hN hD
  rintro a5 w5 hN hD ⟨s8, s0, s3, s7, hGR, -⟩
  replace HB := below_step HB hGR
  replace HB1 := below_step HB1 hGR
  replace HOV := HOV.below hGR
  replace HIN := HIN.below hGR
  clear hGR
  show Code.wp _ _ _ _ _
  refine wp_seq ?_
  refine wp_cond (t := decide (a < 16)) s8 ?_
  rcases Bool.eq_false_or_eq_true (decide (a < 16)) with cd6 | cd6
  · rw [cd6]
    show Code.wp _ _ _ _ _
    have pd6 := of_decide_eq_true cd6
    have ha2 := pd6
    have hoal := oa_le (ls.map LO.o) a
    have hlal := laL_len ls a
    rw [List.length_map] at hoal
    refine wp_skip ?_
    show Code.wp _ _ _ _ _
    refine wp_seq ?_
    refine wp_block ?_
    refine wp_seq ?_
    refine deedL [.eq 9 (.int .i64 a), .eq 4 (.int .i64 a), .eq 0 (.pointer (some ⟨g, 0, none⟩)), .eq 3 v, .eq 7 (.int .i64 a), .w (Below w5.heap.size w5)] 29 [[4], [0]] [] [1, 2, 3, 4, 5] hM hN hD (by kernel_rfl) ⟨s0, s3, s7, ⟨Below.refl _ _, below_drew (Below.refl _ _)⟩, trivial⟩ ⟨fun _ _ hb h => below_step h hb, trivial⟩ (fun hgrow => ⟨fun _ _ h => rv rfl (x_move rfl h.1) rfl,
      fun _ _ h => rv rfl (x_assign rfl h.1) rfl, trivial⟩) ?_
    clear s0 s3 s7 s8
    clear hN hD
    rintro a7 w7 hN hD ⟨s4, s0, s3, s7, hGR, -⟩
    replace HB := below_step HB hGR
    replace HB1 := below_step HB1 hGR
    replace HOV := HOV.below hGR
    replace HIN := HIN.below hGR
    clear hGR
    show Code.wp _ _ _ _ _
    refine wp_seq ?_
    obtain ⟨Aa, ca, hva, HRa, HCa, hca⟩ := book_rvL HBP hro hact ha0 ha2
    refine deedL [.eq 10 (.pointer (some ⟨g, 0, none⟩)), .eq 11 (.int .i64 a), .eq 12 (.pointer (some ⟨g, 0, none⟩)), .eq 13 (.pointer (some ⟨g, 0, none⟩)), .eq 14 (.pointer (some ⟨g, a.toNat, none⟩)), .eq 15 (.slice Aa ((laL ls a).length) ca), .eq 16 (.int .i64 ((laL ls a).length)), .eq 17 (.int .i64 0), .eq 0 (.pointer (some ⟨g, 0, none⟩)), .eq 3 v, .eq 4 (.int .i64 a), .eq 7 (.int .i64 a), .w (Below w7.heap.size w7)] 29 [[8], [10], [0], [2], [3, 1], [4, 12], [5], []] [] [5, 6, 7, 8, 9, 10, 11, 12] hM hN hD (by kernel_rfl) ⟨s0, s3, s4, s7, ⟨Below.refl _ _, below_drew (Below.refl _ _)⟩, trivial⟩ ⟨fun _ _ hb h => below_step h hb, trivial⟩ (fun hgrow => ⟨fun _ _ h => rv rfl (x_move rfl h.1) rfl,
      fun _ _ h => rv rfl (x_move rfl h.1) rfl,
      fun _ _ h => rv rfl (x_nil rfl h.1) rfl,
      fun _ _ h => rv rfl (x_field rfl h.1 Try.underlying75 rfl sz72 (by decide) rfl) rfl,
      fun _ _ h => rv rfl (x_index_array rfl h.1 h.2.1 Try.underlying72 sz27 (by omega) (by omega) (by rw [add_mk]; first | rfl | simp)) rfl,
      fun _ _ h => rv rfl (x_load1 rfl h.1 Try.underlying27 rfl (by have h_ := HBP.cof (i := a.toNat) (by omega); rw [hva] at h_; exact cell_below h_ (below_step HB1 h.2.1))) rfl,
      fun _ _ h => rv rfl (x_len_slice rfl Try.underlying27 h.1) rfl,
      fun _ _ _ => rv rfl (x_move rfl rfl) rfl, trivial⟩) ?_
    clear s0 s3 s7 s4
    clear hN hD
    rintro a8 w8 hN hD ⟨s15, s16, s17, s0, s3, s4, s7, hGR, -⟩
    replace HB := below_step HB hGR
    replace HB1 := below_step HB1 hGR
    replace HOV := HOV.below hGR
    replace HIN := HIN.below hGR
    clear hGR
    show Code.wp _ _ _ _ _
    refine wp_block ?_
    refine wp_loopN (fun n_ q_ w_ => ∃ (j : Int) (v : Value) (ys : List LO), (q_.tmps.size = 29) ∧ (q_.defers = []) ∧ (sl q_ 0 = .pointer (some ⟨g, 0, none⟩)) ∧ (sl q_ 3 = v) ∧ (sl q_ 7 = .int .i64 a) ∧ (sl q_ 15 = .slice Aa ((laL ls a).length) ca) ∧ (sl q_ 16 = .int .i64 ((laL ls a).length)) ∧ (sl q_ 17 = .int .i64 j) ∧ (Below w.heap.size w w_) ∧ (Below wb.heap.size wb w_) ∧ (OwnRow RL 67 12 w_ 0 v ys) ∧ (Inn w_ ys (wb.heap.size)) ∧ (0 ≤ j) ∧ (j ≤ (laL ls a).length) ∧ (Above w.heap.size v) ∧ (Above wb.heap.size v) ∧ (ys.map LO.o = flatO (ls.map LO.o) a.toNat ++ (oa (ls.map LO.o) a).take j.toNat) ∧ (n_ = ((laL ls a).length - j).toNat)) ((fun (j : Int) (v : Value) (ys : List LO) => ((laL ls a).length - j).toNat) 0 v ys) ?_ ?_
    · exact ⟨0, v, ys, hN, hD, s0, s3, s7, s15, s16, s17, HB, HB1, HOV, HIN, (by omega), (by omega), bv, cv, (by rw [hym]; simp), rfl⟩
    clear s0 s3 s4 s7 s15 s16 s17 HB HB1 HOV HIN hN hD
    rintro n_9 a9 w9 ⟨j, v, ys, hN, hD, s0, s3, s7, s15, s16, s17, HB, HB1, HOV, HIN, hj0, hj1, bv, cv, hym, hmeas⟩
    refine wp_seq ?_
    refine deedL [.eq 18 (.bool (decide (j < (laL ls a).length))), .eq 0 (.pointer (some ⟨g, 0, none⟩)), .eq 3 v, .eq 7 (.int .i64 a), .eq 15 (.slice Aa ((laL ls a).length) ca), .eq 16 (.int .i64 ((laL ls a).length)), .eq 17 (.int .i64 j), .w (Below w9.heap.size w9)] 29 [[6, 5]] [] [0, 1, 2, 3, 4, 5, 6, 7] hM hN hD (by kernel_rfl) ⟨s0, s3, s7, s15, s16, s17, ⟨Below.refl _ _, below_drew (Below.refl _ _)⟩, trivial⟩ ⟨fun _ _ hb h => below_step h hb, trivial⟩ (fun hgrow => ⟨fun _ _ h => rv rfl (x_lss rfl h.1 h.2.1) rfl, trivial⟩) ?_
    clear s0 s3 s7 s15 s16 s17
    clear hN hD
    rintro a10 w10 hN hD ⟨s18, s0, s3, s7, s15, s16, s17, hGR, -⟩
    replace HB := below_step HB hGR
    replace HB1 := below_step HB1 hGR
    replace HOV := HOV.below hGR
    replace HIN := HIN.below hGR
    clear hGR
    show Code.wp _ _ _ _ _
    refine wp_seq ?_
    refine wp_cond (t := decide (j < (laL ls a).length)) s18 ?_
    rcases Bool.eq_false_or_eq_true (decide (j < (laL ls a).length)) with cd11 | cd11
    · rw [cd11]
      show Code.wp _ _ _ _ _
      have pd11 := of_decide_eq_true cd11
      have hj2 := pd11
      have hj3 : j < (oa (ls.map LO.o) a).length := by rw [← laL_len ls a]; exact hj2
      have hgo : (gd (laL ls a) j).o = go_ (oa (ls.map LO.o) a) j := by rw [gd_go, laL_o]
      refine wp_skip ?_
      show Code.wp _ _ _ _ _
      refine wp_seq ?_
      refine wp_block ?_
      refine wp_seq ?_
      refine deedL [.eq 19 (.pointer (some ((adr Aa).add (j.toNat * 12)))), .eq 20 (.agg (ecLO (gd (laL ls a) j)).toArray), .s1 6 (NewB w10.heap.size [.int .i64 0, .int .i64 0, .int .i64 0, .slice none 0 0, .int .i64 0, .int .i64 0, .int .i64 0, .int .i64 0, .int .i64 0, .int .i64 0, .string ⟨#[]⟩, .string ⟨#[]⟩] 67), .s1 6 (NewB w10.heap.size (ecLO (gd (laL ls a) j)) 67), .eq 0 (.pointer (some ⟨g, 0, none⟩)), .eq 3 v, .eq 7 (.int .i64 a), .eq 15 (.slice Aa ((laL ls a).length) ca), .eq 16 (.int .i64 ((laL ls a).length)), .eq 17 (.int .i64 j), .w (Below w10.heap.size w10)] 29 [[7, 9], [0, 10], [10], [2, 1, 10]] [[], [], [], [2]] [3, 4, 5, 6, 7, 8, 9, 10] hM hN hD (by kernel_rfl) ⟨s0, s3, s7, s15, s16, s17, ⟨Below.refl _ _, below_drew (Below.refl _ _)⟩, trivial⟩ ⟨fun _ _ _ hb h => h.grow hb, fun _ _ _ hb h => h.grow hb, fun _ _ hb h => below_step h hb, trivial⟩ (fun hgrow => ⟨fun _ _ h => rv rfl (x_index_at rfl h.1 h.2.1 Try.underlying27 sz67 (by omega) (by omega) (RV.ad HRa j (by omega) (by omega))) rfl,
        fun _ _ h => rv rfl (x_loadS rfl h.1 Try.underlying67 (ecLO (gd (laL ls a) j)) sz67 (RV.cells HRa (below_step HB1 h.2.1) (by omega) (by omega))) rfl,
        fun _ _ h => rbox hgrow rfl (x_alloc rfl zr67) h.1.size (fun _ _ z => z),
        ?_, trivial⟩) ?_
      · rintro a_ W ⟨h2, h1, h10, -⟩
        obtain ⟨g11, e3, l3, hb3⟩ := h2
        exact rstoreS rfl rfl e3 h1 (by simp [Value.oneCell']) sz67 hb3 rfl ⟨_, e3, l3, blk_stored (cs := (ecLO (gd (laL ls a) j))) 0 _ [.int .i64 0, .int .i64 0, .int .i64 0, .slice none 0 0, .int .i64 0, .int .i64 0, .int .i64 0, .int .i64 0, .int .i64 0, .int .i64 0, .string ⟨#[]⟩, .string ⟨#[]⟩] hb3 (of_decide_eq_true rfl)⟩ ⟨fun h => below_cells h l3, trivial⟩
      clear s0 s3 s7 s15 s16 s17 s18
      clear hN hD
      rintro a12 w12 hN hD ⟨⟨g11, s6, lg11, HBX11⟩, s0, s3, s7, s15, s16, s17, hGR, -⟩
      have lx11 := lg11
      have hv11 := fun k hk => own_lt HOV.choose_spec.1 k hk
      replace lg11 := Nat.le_trans HB.size lg11
      replace HB := below_step HB hGR
      replace HB1 := below_step HB1 hGR
      replace HOV := HOV.below hGR
      replace HIN := HIN.below hGR
      clear hGR
      show Code.wp _ _ _ _ _
      have hdl : (gd (laL ls a) j).o.deps.length = 16 := hdep _ (List.mem_filter.1 (List.mem_of_getElem? (gd_of hj0 hj2))).1
      have hyl := congrArg List.length hym
      rw [List.length_map, List.length_append] at hyl
      have hyl3 : ((oa (ls.map LO.o) a).take j.toNat).length ≤ 1024 := by rw [List.length_take]; omega
      have hyl4 := flatO_le (os := ls.map LO.o) a.toNat
      rw [List.length_map] at hyl4
      have hyl5 : a.toNat * ls.length ≤ 16 * 1024 := Nat.mul_le_mul (by omega) hln
      have HLO := HB1.size
      refine deedL (.eq 21 v :: .eq 22 (.agg (ecLO (gd (laL ls a) j)).toArray) :: (.s1 23 fun x_ W => ∃ (A23 : Option Addr) (c23 : Nat), x_ = .agg (opc (gd (laL ls a) j).o A23 c23).toArray ∧ OwnI W A23 ((gd (laL ls a) j).o.deps) (w12.heap.size) W.heap.size ∧ (gd (laL ls a) j).o.deps.length ≤ c23) :: (.s2 23 24 fun x_ y_ W => ∃ (A23 : Option Addr) (c23 : Nat), x_ = .agg (opc ((gd (laL ls a) j).o) A23 c23).toArray ∧ NewL (opc ((gd (laL ls a) j).o) A23 c23) 67 y_ W) :: (.s1 25 fun x_ W => ∃ (v25 : Value) (A23 : Option Addr) (c23 : Nat), x_ = v25 ∧ OwnRow RL 67 12 W 0 v25 (ys ++ [LO.mk ((gd (laL ls a) j).o) A23 c23]) ∧ Inn W (ys ++ [LO.mk ((gd (laL ls a) j).o) A23 c23]) (wb.heap.size) ∧ Above (wb.heap.size) v25) :: (.s2 25 3 fun x_ y_ _ => ∃ (v25 : Value), x_ = v25 ∧ y_ = v25) :: .eq 0 (.pointer (some ⟨g, 0, none⟩)) :: .eq 3 v :: .eq 6 (.pointer (some ⟨g11, 0, none⟩)) :: .eq 7 (.int .i64 a) :: .eq 15 (.slice Aa ((laL ls a).length) ca) :: .eq 16 (.int .i64 ((laL ls a).length)) :: .eq 17 (.int .i64 j) :: (.w (Kx (fun k => some k = v.ownBlock) w12)) :: (.w fun W => OwnRow RL 67 12 W 0 v ys) :: []) 29 [[7], [8, 13], [1, 13], [2], [0, 2, 3, 14, 13], [4]] [[], [], [], [], [2, 3, 5, 14], [7]] [4, 5, 6, 8, 9, 10, 11, 12, 13] hM hN hD (by kernel_rfl) ⟨s0, s3, s6, s7, s15, s16, s17, ⟨Kx.refl _ _, Kx.drew _ _⟩, ⟨HOV, HOV.below (below_drew (Below.refl _ _))⟩, trivial⟩ ⟨fun _ _ _ hb h => by obtain ⟨A23, c23, e_, z0, z1⟩ := h; exact ⟨_, _, e_, (z0.below hb).wide (Nat.le_refl _) hb.size, z1⟩, fun _ _ _ _ hb h => by obtain ⟨a_, b_, e_, z⟩ := h; exact ⟨a_, b_, e_, z.grow hb⟩, fun _ _ _ hb h => by obtain ⟨a_, b_, c_, e_, h1_, h2_, h3_⟩ := h; exact ⟨a_, b_, c_, e_, h1_.below hb, h2_.below hb, h3_⟩, fun _ _ _ _ hb h => h, fun _ _ hb h => h.step hb, fun _ _ hb h => h.below hb, trivial⟩ (fun hgrow => ⟨fun _ _ h => rv rfl (x_move rfl h.1) rfl,
        fun _ _ h => rv rfl (x_loadS rfl h.1 Try.underlying67 (ecLO (gd (laL ls a) j)) sz67 (blk_list (L := ecLO (gd (laL ls a) j)) (blk_kx HBX11 h.2.1 (fun e => by have := hv11 _ e.symm; omega)) 0 rfl)) rfl,
        fun _ _ h => rc hgrow rfl Try.func61 (by kernel_rfl) rfl rfl (args1 h.1) (iCopy_calls (gd (laL ls a) j).o (gd (laL ls a) j).A (gd (laL ls a) j).c _ (RI.below (RV.inn HRa (by omega) (by omega) rfl) (Kx.below HB1 h.2.1 HB1.size (fun k e => cv k e.symm))) (by omega) (by omega)) (fun _ _ hR => by obtain ⟨A23, c23, e_, z0, z1, hb⟩ := hR; exact ⟨_, e_, hb, A23, c23, rfl, (z0.wide h.2.1.size (Nat.le_refl _)), z1⟩),
        ?_,
        ?_,
        ?_, trivial⟩) ?_
      · rintro a_ W ⟨h2, -⟩
        obtain ⟨A23, c23, e2, HOI_, HCC_⟩ := h2
        exact rbuild1 hgrow rfl rfl Try.underlying27 zi67 (by decide) (by decide) e2 rfl rfl (fun _ _ z => ⟨_, _, e2, z⟩)
      · rintro a_ W ⟨h0, h2, h3, h14, h13, -⟩
        obtain ⟨A23, c23, ec_, HOI_, HCC_⟩ := h2
        obtain ⟨A2_, c2_, ed_, hn_⟩ := h3
        cases ec_.symm.trans ed_
        exact rappCopy (lo := wb.heap.size) (p := ((gd (laL ls a) j).o)) (A := A23) (c := c23) rfl rfl Try.underlying27 inf67 rfl (by decide) (by decide) h0 hn_ HOV h14 HIN HOI_ HCC_ (by omega) cv HLO h13 (fun v1_ W2_ u1 u2 u3 u4 => owe_keep ⟨fun h => u4, trivial⟩ ⟨v1_, A23, c23, rfl, u1, u2, u3⟩)
      · rintro a_ W ⟨h4, -⟩
        obtain ⟨v25, A23, c23, e4, HO_, HI_, hb4⟩ := h4
        exact rv rfl (x_assign rfl e4) ⟨_, e4, rfl⟩
      clear s0 s3 s7 s15 s16 s17 s6
      clear hN hD
      rintro a13 w13 hN hD ⟨⟨v25, A23, c23, s25, HOVN, HINN, cv25⟩, q3, s0, s6, s7, s15, s16, s17, hGR, -⟩
      obtain ⟨v25_, e_, s3⟩ := q3
      cases s25.symm.trans e_
      have NB := Kx.below HB hGR HB.size (fun k e => bv k e.symm)
      have NB1 := Kx.below HB1 hGR HB1.size (fun k e => cv k e.symm)
      clear HIN
      clear HBX11
      replace HB := NB
      replace HB1 := NB1
      clear NB NB1
      replace HOV := HOVN
      clear HOVN
      have HIN := HINN
      clear HINN
      have bv25 := Above.le cv25 HLW
      clear hGR
      show Code.wp _ _ _ _ _
      refine deedL [.eq 26 (.int .i64 (j + 1)), .eq 17 (.int .i64 (j + 1)), .eq 0 (.pointer (some ⟨g, 0, none⟩)), .eq 3 v25, .eq 7 (.int .i64 a), .eq 15 (.slice Aa ((laL ls a).length) ca), .eq 16 (.int .i64 ((laL ls a).length)), .eq 17 (.int .i64 j), .w (Below w13.heap.size w13)] 29 [[7], [0]] [[], [7]] [1, 2, 3, 4, 5, 6, 8] hM hN hD (by kernel_rfl) ⟨s0, s3, s7, s15, s16, s17, ⟨Below.refl _ _, below_drew (Below.refl _ _)⟩, trivial⟩ ⟨fun _ _ hb h => below_step h hb, trivial⟩ (fun hgrow => ⟨fun _ _ h => rv rfl (x_add' rfl h.1 rfl (by omega)) rfl,
        fun _ _ h => rv rfl (x_move rfl h.1) rfl, trivial⟩) ?_
      clear s0 s6 s7 s15 s16 s17 s3
      clear hN hD
      rintro a14 w14 hN hD ⟨s17, s0, s3, s7, s15, s16, hGR, -⟩
      replace HB := below_step HB hGR
      replace HB1 := below_step HB1 hGR
      replace HOV := HOV.below hGR
      replace HIN := HIN.below hGR
      clear hGR
      show ∃ m, m < n_9 ∧ _
      exact ⟨_, (by omega), ⟨(j + 1), v25, (ys ++ [LO.mk ((gd (laL ls a) j).o) A23 c23]), hN, hD, s0, s3, s7, s15, s16, s17, HB, HB1, HOV, HIN, (by omega), (by omega), bv25, cv25, (by rw [take_go hj0 hj3, ← List.append_assoc, ← hym, List.map_append, ← hgo]; rfl), rfl⟩⟩
    · rw [cd11]
      show Code.wp _ _ _ _ _
      have pd11 := of_decide_eq_false cd11
      refine wp_exit (then_exit (then_exit (at_exit ?_)))
      show Code.wp _ _ _ _ _
      refine deedL [.eq 27 (.int .i64 (a + 1)), .eq 7 (.int .i64 (a + 1)), .eq 0 (.pointer (some ⟨g, 0, none⟩)), .eq 3 v, .eq 7 (.int .i64 a), .w (Below w10.heap.size w10)] 29 [[4], [0]] [[], [4]] [1, 2, 3, 5] hM hN hD (by kernel_rfl) ⟨s0, s3, s7, ⟨Below.refl _ _, below_drew (Below.refl _ _)⟩, trivial⟩ ⟨fun _ _ hb h => below_step h hb, trivial⟩ (fun hgrow => ⟨fun _ _ h => rv rfl (x_add' rfl h.1 rfl (by omega)) rfl,
        fun _ _ h => rv rfl (x_move rfl h.1) rfl, trivial⟩) ?_
      clear s0 s3 s7 s15 s16 s17 s18
      clear hN hD
      rintro a15 w15 hN hD ⟨s7, s0, s3, hGR, -⟩
      replace HB := below_step HB hGR
      replace HB1 := below_step HB1 hGR
      replace HOV := HOV.below hGR
      replace HIN := HIN.below hGR
      clear hGR
      show ∃ m, m < n_4 ∧ _
      exact ⟨_, (by omega), ⟨(a + 1), v, ys, hN, hD, s0, s3, s7, HB, HB1, HOV, HIN, (by omega), (by omega), bv, cv, (by rw [flatO_step ha0, hym, List.take_of_length_le (by rw [← laL_len ls a]; omega)]), rfl⟩⟩
  · rw [cd6]
    show Code.wp _ _ _ _ _
    have pd6 := of_decide_eq_false cd6
    refine wp_exit (then_exit (then_exit (at_exit ?_)))
    show Code.wp _ _ _ _ _
    refine wp_seq ?_
    refine deedL [.eq 28 v, .eq 2 v, .eq 3 v, .w (Below w5.heap.size w5)] 29 [[2], [0]] [] [1, 2, 3] hM hN hD (by kernel_rfl) ⟨s3, ⟨Below.refl _ _, below_drew (Below.refl _ _)⟩, trivial⟩ ⟨fun _ _ hb h => below_step h hb, trivial⟩ (fun hgrow => ⟨fun _ _ h => rv rfl (x_move rfl h.1) rfl,
      fun _ _ h => rv rfl (x_assign rfl h.1) rfl, trivial⟩) ?_
    clear s0 s3 s7 s8
    clear hN hD
    rintro a16 w16 hN hD ⟨s2, s3, hGR, -⟩
    replace HB := below_step HB hGR
    replace HB1 := below_step HB1 hGR
    replace HOV := HOV.below hGR
    replace HIN := HIN.below hGR
    clear hGR
    show Code.wp _ _ _ _ _
    refine wp_ret ?_
    refine bodyPost_ret (results_single rfl (vtmp s2 .nil)) hD ?_
    obtain ⟨A9, c9, hv9, hc9, ho9⟩ := own_L HOV cv HIN
    have hq9 : ys.map LO.o = flatO (ls.map LO.o) 16 := by rw [hym, show a.toNat = 16 by omega]
    rw [hv9]
    exact ⟨A9, c9, ys, by rw [len_of' hq9], ho9.wide HLW (Nat.le_refl _), hq9, HB⟩
end Go.Proofs.Ytideafkiaipnoaa.Q

/- Functions walked. -/
namespace Go.Proofs.Ytideafkiaipnoaa.Q
open Go Go.RowKit Go.Proofs.YtideafkiaipnoaaW.PrintWords Go.Proofs.YtideafkiaipnoaaW.PrintLast Go.Proofs.Ytideafkiaipnoaa.Deed
set_option maxRecDepth 100000
set_option linter.unusedVariables false
set_option linter.unusedSimpArgs false
theorem sAtC_bad {os : List Op} {xs : List Int} (h : ¬ (sLogOK os = true ∧ vecOK xs = true)) : sAtC os xs = 1 := by unfold sAtC; rw [if_neg h]
theorem sAtC_ok {os : List Op} {xs : List Int} (h : sLogOK os = true ∧ vecOK xs = true) : sAtC os xs = (if covers (cnt os) xs = true ∧ allCov os xs = true then 0 else 5) := by unfold sAtC; rw [if_pos h]
theorem sAtC_zero {os : List Op} {xs : List Int} (h : sAtC os xs = 0) : sLogOK os = true ∧ vecOK xs = true := by
  by_cases h2 : sLogOK os = true ∧ vecOK xs = true
  · exact h2
  · rw [sAtC_bad h2] at h; cases h
theorem flat_cut {os : List Op} {xs : List Int} (hf : Fit os) : flatO (cutF os xs) 16 = cutF os xs := by
  have hp : (cutF os xs).Pairwise fun x y => x.actor ≤ y.actor := hf.steps.sorted.pair.sublist List.filter_sublist
  have hm : ∀ o ∈ cutF os xs, o ∈ os := fun o ho => (List.mem_filter.1 ho).1
  have := flat_upto hp (fun o ho => (hf.fine (hm o ho)).a0) 16
  unfold flatO
  rw [this, List.filter_eq_self]
  intro o ho
  have := (hf.fine (hm o ho)).a1
  simp; omega
set_option maxHeartbeats 2000000 in
theorem bookAt_calls (A : Option Addr) (os : List Op) (D : Nat → Option Addr) (C : Nat → Nat) (c : Nat) (E : Option Addr) (xs : List Int) (d : Nat) (w : World) (HR : RO w A os D C) (HV : RI w E xs) : Calls Try.prog 69 #[.slice A os.length c, .agg #[Value.slice E xs.length d]] w fun e w' => ∃ p, e = .returned (.tuple #[p, .int .i64 (sAtC os xs)]) ∧ (sAtC os xs = 0 → ∃ w9 g vs, p = .pointer (some ⟨g, 0, none⟩) ∧ Below w.heap.size w w9 ∧ BookAt w9 (okW w9 w') w' g vs (bk (cutL os D C xs 16))) ∧ Below w.heap.size w w' := by
  refine calls_of_wp Try.func69 rfl ?_
  refine enter_ (N := 25) rfl ?_
  rintro a0 hN hD ⟨s0, s1, -⟩
  have HB : Below w.heap.size w w := Below.refl _ _
  refine wp_seq ?_
  refine deedL [.s1 3 (NewB w.heap.size [.slice E xs.length d] 41), .eq 4 (.pointer none), .eq 5 (.int .i64 0), .eq 0 (.slice A os.length c), .eq 1 (.agg #[Value.slice E xs.length d]), .w (Below w.heap.size w)] 25 [[5, 4], [], []] [] [0, 3, 4, 5] hM hN hD (by kernel_rfl) ⟨s0, s1, ⟨Below.refl _ _, below_drew (Below.refl _ _)⟩, trivial⟩ ⟨fun _ _ _ hb h => h.grow hb, fun _ _ hb h => below_step h hb, trivial⟩ (fun hgrow => ⟨fun _ _ h => rbox hgrow rfl (x_box rfl h.2.1) h.1.size (fun _ _ z => z),
    fun _ _ _ => rv rfl (x_assign rfl rfl) rfl,
    fun _ _ _ => rv rfl (x_assign rfl rfl) rfl, trivial⟩) ?_
  clear s0 s1
  clear hN hD
  rintro a1 w1 hN hD ⟨⟨g3, s3, lg3, HBX3⟩, s0, s1, hGR, -⟩
  replace HB := below_step HB hGR
  clear hGR
  show Code.wp _ _ _ _ _
  refine wp_seq ?_
  refine deedL [.eq 9 (.slice A os.length c), .s1 10 fun x_ W => ∃ (pb1 : Value), x_ = .tuple #[pb1, .bool (iLogOK os)] ∧ (iLogOK os = true → ∃ w9 g vs, pb1 = .pointer (some ⟨g, 0, none⟩) ∧ Below w.heap.size w w9 ∧ BookAt w9 (okW w9 W) W g vs (bk (los os D C os.length))), .s2 10 8 fun x_ y_ _ => ∃ (pb1 : Value), x_ = .tuple #[pb1, .bool (iLogOK os)] ∧ y_ = .tuple #[pb1, .bool (iLogOK os)], .s2 10 11 fun x_ y_ _ => ∃ (pb1 : Value), x_ = .tuple #[pb1, .bool (iLogOK os)] ∧ y_ = pb1, .eq 12 (.bool (iLogOK os)), .s2 10 6 fun x_ y_ _ => ∃ (pb1 : Value), x_ = .tuple #[pb1, .bool (iLogOK os)] ∧ y_ = pb1, .eq 7 (.bool (iLogOK os)), .eq 0 (.slice A os.length c), .eq 3 (.pointer (some ⟨g3, 0, none⟩)), .w (Below w1.heap.size w1)] 25 [[7], [0, 9], [1], [2], [2], [3], [4]] [] [6, 1, 5, 7, 8, 9] hM hN hD (by kernel_rfl) ⟨s0, s3, ⟨Below.refl _ _, below_drew (Below.refl _ _)⟩, trivial⟩ ⟨fun _ _ _ hb h => by obtain ⟨pb1, e_, z0⟩ := h; exact ⟨_, e_, bkstep z0 hb⟩, fun _ _ _ _ hb h => h, fun _ _ _ _ hb h => h, fun _ _ _ _ hb h => h, fun _ _ hb h => below_step h hb, trivial⟩ (fun hgrow => ⟨fun _ _ h => rv rfl (x_move rfl h.1) rfl,
    fun _ _ h => rc hgrow rfl Try.func50 (by kernel_rfl) rfl rfl (args1 h.1) (read_calls A os D C c _ (RO.below HR (below_step HB h.2.1))) (fun _ _ hR => by obtain ⟨pb1, e_, hbk_, hb⟩ := hR; exact ⟨_, e_, hb, pb1, rfl, (fun u => by obtain ⟨g, vs, u1, u2⟩ := hbk_ u; exact ⟨_, g, vs, u1, (below_step HB h.2.1), u2⟩)⟩),
    ?_,
    ?_,
    ?_,
    ?_,
    fun _ _ h => rv rfl (x_assign rfl h.1) rfl, trivial⟩) ?_
  · rintro a_ W ⟨h1, -⟩
    obtain ⟨pb1, e1, HRB1⟩ := h1
    exact rv rfl (x_move rfl e1) ⟨_, e1, rfl⟩
  · rintro a_ W ⟨h2, -⟩
    obtain ⟨pb1, r2, e2⟩ := h2
    exact rv rfl (x_extract rfl e2 rfl) ⟨_, r2, rfl⟩
  · rintro a_ W ⟨h2, -⟩
    obtain ⟨pb1, r2, e2⟩ := h2
    exact rv rfl (x_extract rfl e2 rfl) rfl
  · rintro a_ W ⟨h3, -⟩
    obtain ⟨pb1, r3, e3⟩ := h3
    exact rv rfl (x_assign rfl e3) ⟨_, r3, rfl⟩
  clear s0 s1 s3
  clear hN hD
  rintro a2 w2 hN hD ⟨s7, ⟨pb1, s10, HRB1⟩, q6, s0, s3, hGR, -⟩
  obtain ⟨pb1_, e_, s6⟩ := q6
  cases s10.symm.trans e_
  replace HB := below_step HB hGR
  replace HBX3 := blk_below HBX3 hGR
  clear hGR
  show Code.wp _ _ _ _ _
  refine wp_seq ?_
  refine wp_seq ?_
  refine deedL [.eq 13 (.bool (iLogOK os)), .eq 14 (.bool (!(iLogOK os))), .eq 15 (.bool (!(iLogOK os))), .gv (((!(iLogOK os)) == false)) 16 (.agg #[Value.slice E xs.length d]), .gv (((!(iLogOK os)) == false)) 17 (.bool (vecOK xs)), .gv (((!(iLogOK os)) == false)) 18 (.bool (!(vecOK xs))), .eq 19 (.bool ((!(iLogOK os)) || (!(vecOK xs)))), .eq 3 (.pointer (some ⟨g3, 0, none⟩)), .eq 6 pb1, .eq 7 (.bool (iLogOK os)), .w (Below w2.heap.size w2)] 25 [[9], [0], [1], [2, 7, 10], [2, 3, 10], [2, 4], [2, 5]] [] [6, 7, 8, 9, 10] hM hN hD (by kernel_rfl) ⟨s3, s6, s7, ⟨Below.refl _ _, below_drew (Below.refl _ _)⟩, trivial⟩ ⟨fun _ _ hb h => below_step h hb, trivial⟩ (fun hgrow => ⟨fun _ _ h => rv rfl (x_move rfl h.1) rfl,
    fun _ _ h => rv rfl (x_not rfl h.1) rfl,
    fun _ _ h => rv rfl (x_move rfl h.1) rfl,
    fun _ _ h => rb rfl rfl h.1 (fun hgt => x_loadS rfl h.2.1 Try.underlying41 [.slice E xs.length d] sz41 (blk_list (L := [.slice E xs.length d]) (blk_below HBX3 h.2.2.1) 0 rfl)) (fun _ z => z),
    fun _ _ h => rcb hgrow rfl rfl h.1 Try.func60 (by kernel_rfl) rfl rfl (fun hgt => args1 (h.2.1.1 hgt)) (fun hgt => iVecOK_calls E xs d _ (RI.below HV (below_step HB h.2.2.1))) (fun _ _ _ h => h) (fun _ _ z => z),
    fun _ _ h => rb rfl rfl h.1 (fun hgt => x_not rfl (h.2.1.1 hgt)) (fun _ z => z),
    fun _ _ h => rv rfl (x_or rfl rfl h.1 (fun hc => h.2.1.1 (beq_iff_eq.2 hc))) rfl, trivial⟩) ?_
  clear s0 s3 s6 s7
  clear hN hD
  rintro a3 w3 hN hD ⟨s19, s3, s6, s7, hGR, -⟩
  replace HB := below_step HB hGR
  replace HBX3 := blk_below HBX3 hGR
  replace HRB1 := bkstep HRB1 hGR
  clear hGR
  show Code.wp _ _ _ _ _
  refine wp_cond (t := (!(iLogOK os)) || (!(vecOK xs))) s19 ?_
  rcases Bool.eq_false_or_eq_true ((!(iLogOK os)) || (!(vecOK xs))) with cd4 | cd4
  · rw [cd4]
    show Code.wp _ _ _ _ _
    refine wp_seq ?_
    refine deedL [.eq 4 (.pointer none), .eq 5 (.int .i64 1), .w (Below w3.heap.size w3)] 25 [[], []] [] [0, 1, 2] hM hN hD (by kernel_rfl) ⟨⟨Below.refl _ _, below_drew (Below.refl _ _)⟩, trivial⟩ ⟨fun _ _ hb h => below_step h hb, trivial⟩ (fun hgrow => ⟨fun _ _ _ => rv rfl (x_assign rfl rfl) rfl,
      fun _ _ _ => rv rfl (x_assign rfl rfl) rfl, trivial⟩) ?_
    clear s3 s6 s7 s19
    clear hN hD
    rintro a5 w5 hN hD ⟨s4, s5, hGR, -⟩
    replace HB := below_step HB hGR
    replace HBX3 := blk_below HBX3 hGR
    replace HRB1 := bkstep HRB1 hGR
    clear hGR
    show Code.wp _ _ _ _ _
    refine wp_ret (then_ret ?_)
    refine bodyPost_ret (fn := Try.f69) (results_list (rs := [.tmp 4, .tmp 5]) (vs := [.pointer none, .int .i64 1]) rfl (by simp) (vtmp s4 (vtmp s5 .nil))) hD ?_
    have hb9 : ¬ (sLogOK os = true ∧ vecOK xs = true) := by have := cd4; rw [← log_same] at this; simp at this ⊢; intro h; simpa [h] using this
    rw [sAtC_bad hb9]
    exact ⟨_, rfl, (fun h => absurd h (by decide)), HB⟩
  · rw [cd4]
    show Code.wp _ _ _ _ _
    have hgd := cd4
    have hil : iLogOK os = true := by cases h : iLogOK os <;> simp [h] at hgd ⊢
    have hvo : vecOK xs = true := by cases h : vecOK xs <;> simp [h] at hgd ⊢
    have hsl : sLogOK os = true := log_same os ▸ hil
    have hfit : Fit os := Fit.of os hil
    obtain ⟨w9, gb1, vs1, rfl, HB9, HBK1⟩ := HRB1 hil
    obtain ⟨wb, hwb⟩ : ∃ wb, wb = w3 := ⟨_, rfl⟩
    have HBP : BookAt w9 (okW w9 wb) wb gb1 vs1 (bk (los os D C os.length)) := by rw [hwb]; exact HBK1
    have HB1 : Below wb.heap.size wb w3 := by rw [hwb]; exact Below.refl _ _
    have HBW : Below w.heap.size w wb := by rw [hwb]; exact HB
    have HLW : w.heap.size ≤ wb.heap.size := HBW.size
    clear HBK1 hwb
    refine wp_skip ?_
    show Code.wp _ _ _ _ _
    refine wp_seq ?_
    refine deedL [.eq 20 (.pointer (some ⟨gb1, 0, none⟩)), .eq 21 (.agg #[Value.slice E xs.length d]), .s1 22 fun x_ W => ∃ (p2 : Value), x_ = .tuple #[p2, .int .i64 (if covers (cnt os) xs = true ∧ allCov os xs = true then 0 else 5)] ∧ ((if covers (cnt os) xs = true ∧ allCov os xs = true then 0 else 5) = (0 : Int) → ∃ w9 g vs, p2 = .pointer (some ⟨g, 0, none⟩) ∧ Below w.heap.size w w9 ∧ BookAt w9 (okW w9 W) W g vs (bk (cutL os D C xs 16))), .s2 22 23 fun x_ y_ _ => ∃ (p2 : Value), x_ = .tuple #[p2, .int .i64 (if covers (cnt os) xs = true ∧ allCov os xs = true then 0 else 5)] ∧ y_ = p2, .eq 24 (.int .i64 (if covers (cnt os) xs = true ∧ allCov os xs = true then 0 else 5)), .s2 22 4 fun x_ y_ _ => ∃ (p2 : Value), x_ = .tuple #[p2, .int .i64 (if covers (cnt os) xs = true ∧ allCov os xs = true then 0 else 5)] ∧ y_ = p2, .eq 5 (.int .i64 (if covers (cnt os) xs = true ∧ allCov os xs = true then 0 else 5)), .eq 3 (.pointer (some ⟨g3, 0, none⟩)), .eq 6 (.pointer (some ⟨gb1, 0, none⟩)), .w (Below w3.heap.size w3)] 25 [[8], [7, 9], [0, 1, 9], [2], [2], [3], [4]] [] [6, 2, 5, 7, 8, 9] hM hN hD (by kernel_rfl) ⟨s3, s6, ⟨Below.refl _ _, below_drew (Below.refl _ _)⟩, trivial⟩ ⟨fun _ _ _ hb h => by obtain ⟨p2, e_, z0⟩ := h; exact ⟨_, e_, bkstep z0 hb⟩, fun _ _ _ _ hb h => h, fun _ _ _ _ hb h => h, fun _ _ hb h => below_step h hb, trivial⟩ (fun hgrow => ⟨fun _ _ h => rv rfl (x_move rfl h.1) rfl,
      fun _ _ h => rv rfl (x_loadS rfl h.1 Try.underlying41 [.slice E xs.length d] sz41 (blk_list (L := [.slice E xs.length d]) (blk_below HBX3 h.2.1) 0 rfl)) rfl,
      fun _ _ h => rc hgrow rfl Try.func100 (by kernel_rfl) rfl rfl (args2 h.1 h.2.1) (kat_calls w9 (okW w9 wb) gb1 vs1 A os D C E xs d _ (HBP.below (below_step HB1 h.2.2.1)) (RO.below HR (below_step HB h.2.2.1)) (RI.below HV (below_step HB h.2.2.1)) hfit (vecOK_iff.1 hvo)) (fun _ _ hR => by obtain ⟨p2, e_, hbk_, hb⟩ := hR; exact ⟨_, e_, hb, p2, rfl, (fun u => by obtain ⟨g, vs, u1, u2⟩ := hbk_ u; exact ⟨_, g, vs, u1, (below_step HB h.2.2.1), u2⟩)⟩),
      ?_,
      ?_,
      ?_,
      fun _ _ h => rv rfl (x_assign rfl h.1) rfl, trivial⟩) ?_
    · rintro a_ W ⟨h2, -⟩
      obtain ⟨p2, e2, HRB2⟩ := h2
      exact rv rfl (x_extract rfl e2 rfl) ⟨_, e2, rfl⟩
    · rintro a_ W ⟨h2, -⟩
      obtain ⟨p2, e2, HRB2⟩ := h2
      exact rv rfl (x_extract rfl e2 rfl) rfl
    · rintro a_ W ⟨h3, -⟩
      obtain ⟨p2, r3, e3⟩ := h3
      exact rv rfl (x_assign rfl e3) ⟨_, r3, rfl⟩
    clear s3 s6 s7 s19
    clear hN hD
    rintro a6 w6 hN hD ⟨s5, ⟨p2, s22, HRB2⟩, q4, s3, s6, hGR, -⟩
    obtain ⟨p2_, e_, s4⟩ := q4
    cases s22.symm.trans e_
    replace HB := below_step HB hGR
    replace HBX3 := blk_below HBX3 hGR
    replace HB1 := below_step HB1 hGR
    clear hGR
    show Code.wp _ _ _ _ _
    refine wp_ret ?_
    refine bodyPost_ret (fn := Try.f69) (results_list (rs := [.tmp 4, .tmp 5]) (vs := [p2, .int .i64 (if covers (cnt os) xs = true ∧ allCov os xs = true then 0 else 5)]) rfl (by simp) (vtmp s4 (vtmp s5 .nil))) hD ?_
    rw [sAtC_ok ⟨hsl, hvo⟩]
    exact ⟨p2, rfl, HRB2, HB⟩
set_option maxHeartbeats 2000000 in
theorem iAt_calls (A : Option Addr) (os : List Op) (D : Nat → Option Addr) (C : Nat → Nat) (c : Nat) (E : Option Addr) (xs : List Int) (d : Nat) (w : World) (HR : RO w A os D C) (HV : RI w E xs) : Calls Try.prog 34 #[.slice A os.length c, .agg #[Value.slice E xs.length d]] w fun e w' => ∃ A' c' ys, e = .returned (.tuple #[.slice A' (sAt os xs).length c', .int .i64 (sAtC os xs)]) ∧ OwnAt eLO w' A' ys w.heap.size w'.heap.size ∧ ys.map LO.o = sAt os xs ∧ Below w.heap.size w w' := by
  refine calls_of_wp Try.func34 rfl ?_
  refine enter_ (N := 19) rfl ?_
  rintro a0 hN hD ⟨s0, s1, -⟩
  have HB : Below w.heap.size w w := Below.refl _ _
  refine wp_seq ?_
  refine deedL [.s1 3 (NewB w.heap.size [.slice E xs.length d] 41), .eq 4 (.slice none 0 0), .eq 5 (.int .i64 0), .eq 0 (.slice A os.length c), .eq 1 (.agg #[Value.slice E xs.length d]), .w (Below w.heap.size w)] 19 [[5, 4], [], []] [] [0, 3, 4, 5] hM hN hD (by kernel_rfl) ⟨s0, s1, ⟨Below.refl _ _, below_drew (Below.refl _ _)⟩, trivial⟩ ⟨fun _ _ _ hb h => h.grow hb, fun _ _ hb h => below_step h hb, trivial⟩ (fun hgrow => ⟨fun _ _ h => rbox hgrow rfl (x_box rfl h.2.1) h.1.size (fun _ _ z => z),
    fun _ _ _ => rv rfl (x_assign rfl rfl) rfl,
    fun _ _ _ => rv rfl (x_assign rfl rfl) rfl, trivial⟩) ?_
  clear s0 s1
  clear hN hD
  rintro a1 w1 hN hD ⟨⟨g3, s3, lg3, HBX3⟩, s0, s1, hGR, -⟩
  replace HB := below_step HB hGR
  clear hGR
  show Code.wp _ _ _ _ _
  refine wp_seq ?_
  refine deedL [.eq 9 (.slice A os.length c), .eq 10 (.agg #[Value.slice E xs.length d]), .s1 11 fun x_ W => ∃ (p2 : Value), x_ = .tuple #[p2, .int .i64 (sAtC os xs)] ∧ (sAtC os xs = 0 → ∃ w9 g vs, p2 = .pointer (some ⟨g, 0, none⟩) ∧ Below w.heap.size w w9 ∧ BookAt w9 (okW w9 W) W g vs (bk (cutL os D C xs 16))), .s2 11 8 fun x_ y_ _ => ∃ (p2 : Value), x_ = .tuple #[p2, .int .i64 (sAtC os xs)] ∧ y_ = .tuple #[p2, .int .i64 (sAtC os xs)], .s2 11 12 fun x_ y_ _ => ∃ (p2 : Value), x_ = .tuple #[p2, .int .i64 (sAtC os xs)] ∧ y_ = p2, .eq 13 (.int .i64 (sAtC os xs)), .s2 11 6 fun x_ y_ _ => ∃ (p2 : Value), x_ = .tuple #[p2, .int .i64 (sAtC os xs)] ∧ y_ = p2, .eq 7 (.int .i64 (sAtC os xs)), .eq 0 (.slice A os.length c), .eq 3 (.pointer (some ⟨g3, 0, none⟩)), .w (Below w1.heap.size w1)] 19 [[8], [9, 10], [0, 1, 10], [2], [3], [3], [4], [5]] [] [7, 2, 6, 8, 9, 10] hM hN hD (by kernel_rfl) ⟨s0, s3, ⟨Below.refl _ _, below_drew (Below.refl _ _)⟩, trivial⟩ ⟨fun _ _ _ hb h => by obtain ⟨p2, e_, z0⟩ := h; exact ⟨_, e_, bkstep z0 hb⟩, fun _ _ _ _ hb h => h, fun _ _ _ _ hb h => h, fun _ _ _ _ hb h => h, fun _ _ hb h => below_step h hb, trivial⟩ (fun hgrow => ⟨fun _ _ h => rv rfl (x_move rfl h.1) rfl,
    fun _ _ h => rv rfl (x_loadS rfl h.1 Try.underlying41 [.slice E xs.length d] sz41 (blk_list (L := [.slice E xs.length d]) (blk_below HBX3 h.2.1) 0 rfl)) rfl,
    fun _ _ h => rc hgrow rfl Try.func69 (by kernel_rfl) rfl rfl (args2 h.1 h.2.1) (bookAt_calls A os D C c E xs d _ (RO.below HR (below_step HB h.2.2.1)) (RI.below HV (below_step HB h.2.2.1))) (fun _ _ hR => by obtain ⟨p2, e_, hbk_, hb⟩ := hR; exact ⟨_, e_, hb, p2, rfl, (fun u => by obtain ⟨w9, g, vs, u1, u3, u2⟩ := hbk_ u; exact ⟨w9, g, vs, u1, below_step (below_step HB h.2.2.1) u3, u2⟩)⟩),
    ?_,
    ?_,
    ?_,
    ?_,
    fun _ _ h => rv rfl (x_assign rfl h.1) rfl, trivial⟩) ?_
  · rintro a_ W ⟨h2, -⟩
    obtain ⟨p2, e2, HRB2⟩ := h2
    exact rv rfl (x_move rfl e2) ⟨_, e2, rfl⟩
  · rintro a_ W ⟨h3, -⟩
    obtain ⟨p2, r3, e3⟩ := h3
    exact rv rfl (x_extract rfl e3 rfl) ⟨_, r3, rfl⟩
  · rintro a_ W ⟨h3, -⟩
    obtain ⟨p2, r3, e3⟩ := h3
    exact rv rfl (x_extract rfl e3 rfl) rfl
  · rintro a_ W ⟨h4, -⟩
    obtain ⟨p2, r4, e4⟩ := h4
    exact rv rfl (x_assign rfl e4) ⟨_, r4, rfl⟩
  clear s0 s1 s3
  clear hN hD
  rintro a2 w2 hN hD ⟨s7, ⟨p2, s11, HRB2⟩, q6, s0, s3, hGR, -⟩
  obtain ⟨p2_, e_, s6⟩ := q6
  cases s11.symm.trans e_
  replace HB := below_step HB hGR
  replace HBX3 := blk_below HBX3 hGR
  clear hGR
  show Code.wp _ _ _ _ _
  refine wp_seq ?_
  refine wp_seq ?_
  refine deedL [.eq 14 (.int .i64 (sAtC os xs)), .eq 15 (.bool ((sAtC os xs) != 0)), .eq 6 p2, .eq 7 (.int .i64 (sAtC os xs)), .w (Below w2.heap.size w2)] 19 [[3], [0]] [] [1, 2, 3, 4] hM hN hD (by kernel_rfl) ⟨s6, s7, ⟨Below.refl _ _, below_drew (Below.refl _ _)⟩, trivial⟩ ⟨fun _ _ hb h => below_step h hb, trivial⟩ (fun hgrow => ⟨fun _ _ h => rv rfl (x_move rfl h.1) rfl,
    fun _ _ h => rv rfl (x_neq rfl h.1 rfl) rfl, trivial⟩) ?_
  clear s0 s3 s6 s7
  clear hN hD
  rintro a3 w3 hN hD ⟨s15, s6, s7, hGR, -⟩
  replace HB := below_step HB hGR
  replace HBX3 := blk_below HBX3 hGR
  replace HRB2 := bkstep HRB2 hGR
  clear hGR
  show Code.wp _ _ _ _ _
  refine wp_cond (t := (sAtC os xs) != 0) s15 ?_
  rcases Bool.eq_false_or_eq_true ((sAtC os xs) != 0) with cd4 | cd4
  · rw [cd4]
    show Code.wp _ _ _ _ _
    have pd4 := cd4
    simp at pd4
    refine wp_seq ?_
    refine deedL [.eq 16 (.int .i64 (sAtC os xs)), .eq 4 (.slice none 0 0), .eq 5 (.int .i64 (sAtC os xs)), .eq 7 (.int .i64 (sAtC os xs)), .w (Below w3.heap.size w3)] 19 [[3], [], [0]] [] [1, 2, 3, 4] hM hN hD (by kernel_rfl) ⟨s7, ⟨Below.refl _ _, below_drew (Below.refl _ _)⟩, trivial⟩ ⟨fun _ _ hb h => below_step h hb, trivial⟩ (fun hgrow => ⟨fun _ _ h => rv rfl (x_move rfl h.1) rfl,
      fun _ _ _ => rv rfl (x_assign rfl rfl) rfl,
      fun _ _ h => rv rfl (x_assign rfl h.1) rfl, trivial⟩) ?_
    clear s6 s7 s15
    clear hN hD
    rintro a5 w5 hN hD ⟨s4, s5, s7, hGR, -⟩
    replace HB := below_step HB hGR
    replace HBX3 := blk_below HBX3 hGR
    replace HRB2 := bkstep HRB2 hGR
    clear hGR
    show Code.wp _ _ _ _ _
    refine wp_ret (then_ret ?_)
    refine bodyPost_ret (fn := Try.f34) (results_list (rs := [.tmp 4, .tmp 5]) (vs := [.slice none 0 0, .int .i64 (sAtC os xs)]) rfl (by simp) (vtmp s4 (vtmp s5 .nil))) hD ?_
    have hz : sAtC os xs ≠ 0 := by simpa using cd4
    have hA : sAt os xs = [] := by unfold sAt; rw [if_neg hz]
    rw [hA]
    exact ⟨none, 0, [], rfl, ⟨.inl rfl, by simp, by simp, by simp⟩, rfl, HB⟩
  · rw [cd4]
    show Code.wp _ _ _ _ _
    have pd4 := cd4
    simp at pd4
    have hz : sAtC os xs = 0 := by simpa using cd4
    obtain ⟨w9, gk, vsk, rfl, HB9, HBK⟩ := HRB2 hz
    obtain ⟨hsl, hvo⟩ := sAtC_zero hz
    have hfit : Fit os := Fit.of os (log_same os ▸ hsl)
    have hmo : ∀ x ∈ cutL os D C xs 16, x.o ∈ os := fun x hx => by obtain ⟨i, hi, _⟩ := lo_mem (cutL_sub os D C xs 16 x hx); exact List.mem_of_getElem? hi
    have hro : ∀ x ∈ cutL os D C xs 16, ∀ W, Below w.heap.size w W → RI W x.A x.o.deps ∧ x.o.deps.length ≤ x.c := fun x hx W hb => by obtain ⟨i, hi, hA, hC⟩ := lo_mem (cutL_sub os D C xs 16 x hx); have h1 := HR i x.o hi; exact ⟨hA ▸ h1.2.2.1.below hb, hC ▸ h1.2.2.2⟩
    have hac : ∀ x ∈ cutL os D C xs 16, 0 ≤ x.o.actor ∧ x.o.actor < 16 := fun x hx => ⟨(hfit.fine (hmo x hx)).a0, (hfit.fine (hmo x hx)).a1⟩
    have hdp : ∀ x ∈ cutL os D C xs 16, x.o.deps.length = 16 := fun x hx => hfit.deps (hmo x hx)
    have hln : (cutL os D C xs 16).length ≤ 1024 := by have h1 := congrArg List.length (cutL_o (D := D) (C := C) (xs := xs) hfit); rw [List.length_map] at h1; rw [h1]; exact Nat.le_trans (cutF_le os xs) hfit.len
    refine wp_skip ?_
    show Code.wp _ _ _ _ _
    refine wp_seq ?_
    have HBS := HB
    refine deedL [.eq 17 (.pointer (some ⟨gk, 0, none⟩)), .s1 18 fun x_ W => ∃ (A18 : Option Addr) (c18 : Nat) (y18 : List LO), x_ = .slice A18 ((flatO ((cutL os D C xs 16).map LO.o) 16).length) c18 ∧ OwnAt eLO W A18 y18 (w3.heap.size) W.heap.size ∧ y18.map LO.o = flatO ((cutL os D C xs 16).map LO.o) 16, .s2 18 4 fun x_ y_ _ => ∃ (A18 : Option Addr) (c18 : Nat), x_ = .slice A18 ((flatO ((cutL os D C xs 16).map LO.o) 16).length) c18 ∧ y_ = .slice A18 ((flatO ((cutL os D C xs 16).map LO.o) 16).length) c18, .eq 5 (.int .i64 0), .eq 6 (.pointer (some ⟨gk, 0, none⟩)), .w (Below w3.heap.size w3)] 19 [[4], [0, 5], [1], []] [] [3, 1, 2, 4, 5] hM hN hD (by kernel_rfl) ⟨s6, ⟨Below.refl _ _, below_drew (Below.refl _ _)⟩, trivial⟩ ⟨fun _ _ _ hb h => by obtain ⟨A18, c18, y18, e_, z0, z1⟩ := h; exact ⟨_, _, _, e_, (z0.below hb).wide (Nat.le_refl _) hb.size, z1⟩, fun _ _ _ _ hb h => h, fun _ _ hb h => below_step h hb, trivial⟩ (fun hgrow => ⟨fun _ _ h => rv rfl (x_move rfl h.1) rfl,
      fun _ _ h => rc hgrow rfl Try.func70 (by kernel_rfl) rfl rfl (args1 h.1) (klog_calls w9 (okW w9 w3) gk vsk (cutL os D C xs 16) _ (HBK.below h.2.1) (fun x hx => hro x hx _ (below_step HB h.2.1)) hac hdp hln) (fun _ _ hR => by obtain ⟨A18, c18, y18, e_, z0, z1, hb⟩ := hR; exact ⟨_, e_, hb, A18, c18, y18, rfl, (z0.wide h.2.1.size (Nat.le_refl _)), z1⟩),
      ?_,
      fun _ _ _ => rv rfl (x_assign rfl rfl) rfl, trivial⟩) ?_
    · rintro a_ W ⟨h1, -⟩
      obtain ⟨A18, c18, y18, e1, HOX, HYM⟩ := h1
      exact rv rfl (x_assign rfl e1) ⟨_, _, e1, rfl⟩
    clear s6 s7 s15
    clear hN hD
    rintro a6 w6 hN hD ⟨s5, ⟨A18, c18, y18, s18, HOX, HYM⟩, q4, s6, hGR, -⟩
    obtain ⟨A18_, c18_, e_, s4⟩ := q4
    cases s18.symm.trans e_
    replace HB := below_step HB hGR
    replace HBX3 := blk_below HBX3 hGR
    clear hGR
    show Code.wp _ _ _ _ _
    refine wp_ret ?_
    refine bodyPost_ret (fn := Try.f34) (results_list (rs := [.tmp 4, .tmp 5]) (vs := [.slice A18 ((flatO ((cutL os D C xs 16).map LO.o) 16).length) c18, .int .i64 0]) rfl (by simp) (vtmp s4 (vtmp s5 .nil))) hD ?_
    have hq : flatO ((cutL os D C xs 16).map LO.o) 16 = sAt os xs := by rw [cutL_o hfit, flat_cut hfit]; unfold sAt; rw [if_pos hz]
    rw [hq] at HYM
    rw [hq, hz]
    exact ⟨_, _, _, rfl, HOX.wide (by have := HBS.size; omega) (Nat.le_refl _), HYM, HB⟩
end Go.Proofs.Ytideafkiaipnoaa.Q

/- A part of a log: what it weighs. -/
namespace Go.Proofs.Ytideafkiaipnoaa.Q
set_option linter.unusedVariables false
set_option linter.unusedSimpArgs false
open Go Go.RowKit Go.Proofs.YtideafkiaipnoaaW.PrintWords Go.Proofs.Ytideafkiaipnoaa.Deed
theorem tot_sub {ls os : List Op} (h : ls.Sublist os) : tot ls ≤ tot os := by
  induction h with
  | slnil => exact Int.le_refl _
  | cons x _ ih =>
    have : 0 ≤ wt x := by unfold wt; omega
    simp only [tot]; omega
  | cons_cons x _ ih => simp only [tot]; omega
/-- What a part of a log weighs. -/
theorem part_cnt {ys ls : List LO} {os : List Op} (hy : ys.map LO.o = os) (hs : os.Sublist (ls.map LO.o)) : cntL mLO ys ≤ 11 * ls.length + tot (ls.map LO.o) := by
  have h1 := cnt_tot ys
  rw [hy] at h1
  have h2 := tot_sub hs
  have h3 := hs.length_le
  rw [List.length_map] at h3
  have h4 := len_of' hy
  omega
theorem part_len {ls : List LO} {os : List Op} (hs : os.Sublist (ls.map LO.o)) : os.length ≤ ls.length := by
  have := hs.length_le
  rwa [List.length_map] at this
theorem part_deps {ls : List LO} {os : List Op} {n : Nat} (hs : os.Sublist (ls.map LO.o)) (h : ∀ x ∈ ls, x.o.deps.length ≤ n) : ∀ o ∈ os, o.deps.length ≤ n := by
  intro o ho
  obtain ⟨x, hx, rfl⟩ := List.mem_map.1 (hs.subset ho)
  exact h x hx
end Go.Proofs.Ytideafkiaipnoaa.Q

/- LogAt, both sides, as the law calls them. -/
namespace Go.Proofs.Ytideafkiaipnoaa.Q
set_option linter.unusedVariables false
set_option linter.unusedSimpArgs false
open Go Go.RowKit Go.Proofs.YtideafkiaipnoaaW.PrintWords Go.Proofs.Ytideafkiaipnoaa.Deed
section
variable (A : Option Addr) (ys : List LO) (c : Nat) (os : List Op) (E : Option Addr) (xs : List Int) (d : Nat) (w : World) (hm : ys.map LO.o = os) (HR : RV eLO w A ys) (HC : Caps ys) (HV : RI w E xs)
include hm HR HC HV
theorem sAt_L : Calls Try.prog 33 #[.slice A os.length c, .agg #[.slice E xs.length d]] w fun e w' => ∃ A' c' zs, e = .returned (.tuple #[.slice A' (sAt os xs).length c', .int .i64 (sAtC os xs)]) ∧ OwnAt eLO w' A' zs w.heap.size w'.heap.size ∧ zs.map LO.o = sAt os xs ∧ Below w.heap.size w w' := by
  subst hm
  exact sAt_calls A (ys.map LO.o) (dA ys) (dC ys) c E xs d w (RO_of HR HC) HV
theorem iAt_L : Calls Try.prog 34 #[.slice A os.length c, .agg #[.slice E xs.length d]] w fun e w' => ∃ A' c' zs, e = .returned (.tuple #[.slice A' (sAt os xs).length c', .int .i64 (sAtC os xs)]) ∧ OwnAt eLO w' A' zs w.heap.size w'.heap.size ∧ zs.map LO.o = sAt os xs ∧ Below w.heap.size w w' := by
  subst hm
  exact iAt_calls A (ys.map LO.o) (dA ys) (dC ys) c E xs d w (RO_of HR HC) HV
end
theorem sAt_sub (os : List Op) (xs : List Int) : (sAt os xs).Sublist os := by
  unfold sAt
  split
  · exact List.filter_sublist
  · exact List.nil_sublist _
end Go.Proofs.Ytideafkiaipnoaa.Q

/- Functions walked. -/
namespace Go.Proofs.Ytideafkiaipnoaa.Q
open Go Go.RowKit Go.Proofs.YtideafkiaipnoaaW.PrintWords Go.Proofs.YtideafkiaipnoaaW.PrintLast Go.Proofs.Ytideafkiaipnoaa.Deed
set_option maxRecDepth 100000
set_option linter.unusedVariables false
set_option linter.unusedSimpArgs false
theorem toV_L (A : Option Addr) (xs : List Int) (c : Nat) (w : World) (HR : RI w A xs) (hn : xs.length ≤ 1048576) : Calls Try.prog 25 #[.agg #[.slice A xs.length c]] w fun e w' => ∃ A' c', e = .returned (.agg #[.slice A' xs.length c']) ∧ OwnI w' A' xs w.heap.size w'.heap.size ∧ Below w.heap.size w w' := by
  refine (toV_calls A xs c w HR hn).mono ?_
  rintro e w' ⟨g, rfl, h1, h2, hb⟩
  exact ⟨_, _, rfl, OwnI.of_IB h2 h1 (blk_lt h2), hb⟩
set_option maxHeartbeats 2000000 in
theorem markV_L (A : Option Addr) (xs : List Int) (c : Nat) (k : Int) (lo hi : Nat) (w : World) (HOW : OwnI w A xs lo hi) (hk0 : 0 ≤ k) (hk1 : k + xs.length ≤ 4503599627370496) : Calls Try.prog 28 #[.agg #[Value.slice A xs.length c], .int .i64 k] w fun e w' => e = .returned (.int .i64 (k + xs.length)) ∧ OwnI w' A (mk k xs.length) lo hi ∧ Kx (Mine lo hi) w w' := by
  refine calls_of_wp Try.func28 rfl ?_
  refine enter_ (N := 10) rfl ?_
  rintro a0 hN hD ⟨s0, s1, -⟩
  have HKX : Kx (Mine lo hi) w w := Kx.refl _ _
  refine wp_seq ?_
  refine deedL [.s1 2 (NewB w.heap.size [.slice A xs.length c] 41), .eq 4 (.int .i64 0), .eq 0 (.agg #[Value.slice A xs.length c]), .eq 1 (.int .i64 k), .w (Below w.heap.size w)] 10 [[4, 2], []] [] [0, 2, 3, 4] hM hN hD (by kernel_rfl) ⟨s0, s1, ⟨Below.refl _ _, below_drew (Below.refl _ _)⟩, trivial⟩ ⟨fun _ _ _ hb h => h.grow hb, fun _ _ hb h => below_step h hb, trivial⟩ (fun hgrow => ⟨fun _ _ h => rbox hgrow rfl (x_box rfl h.2.1) h.1.size (fun _ _ z => z),
    fun _ _ _ => rv rfl (x_assign rfl rfl) rfl, trivial⟩) ?_
  clear s0 s1
  clear hN hD
  rintro a1 w1 hN hD ⟨⟨g2, s2, lg2, HBX2⟩, s0, s1, hGR, -⟩
  replace HOW := HOW.below hGR
  replace HKX := HKX.step hGR
  clear hGR
  show Code.wp _ _ _ _ _
  refine wp_seq ?_
  refine deedL [.eq 5 (.pointer (some ⟨g2, 0, none⟩)), .eq 6 (.slice A xs.length c), .eq 7 (.int .i64 k), .s1 8 fun x_ W => x_ = .int .i64 (k + (xs.length : Int)) ∧ OwnI W A (mk k xs.length) lo hi ∧ Kx (Mine lo hi) w1 W, .eq 1 (.int .i64 (k + (xs.length : Int))), .eq 1 (.int .i64 k), .eq 2 (.pointer (some ⟨g2, 0, none⟩)), .w (Below w1.heap.size w1)] 10 [[6], [0, 7], [5], [1, 2, 7], [3]] [[], [], [], [7], [5]] [4, 3, 6] hM hN hD (by kernel_rfl) ⟨s1, s2, ⟨Below.refl _ _, below_drew (Below.refl _ _)⟩, trivial⟩ ⟨fun _ _ _ hb h => ⟨h.1, h.2.1.below hb, h.2.2.step hb⟩, fun _ _ hb h => below_step h hb, trivial⟩ (fun hgrow => ⟨fun _ _ h => rv rfl (x_field rfl h.1 Try.underlying41 rfl sz24 (by decide) rfl) rfl,
    fun _ _ h => rv rfl (x_load1 rfl h.1 Try.underlying24 rfl (blk_one (L := [.slice A xs.length c]) (blk_below HBX2 h.2.1) 0 rfl)) rfl,
    fun _ _ h => rv rfl (x_move rfl h.1) rfl,
    ?_,
    ?_, trivial⟩) ?_
  · rintro a_ W ⟨h1, h2, h7, -⟩
    have hm_ := HOW.below h7
    exact runs_call Try.func19 (by kernel_rfl) rfl _ (wanted_none rfl) rfl (args2 h1 h2) ((markI_L A xs c k lo hi W hm_ hk0 hk1).mono fun e W2 hR => by obtain ⟨u1, u2, u3⟩ := hR; exact ⟨_, u1, owe_keep trivial ⟨rfl, u2, kx_tr (kx_of_below h7 _) u3⟩⟩)
  · rintro a_ W ⟨h3, -⟩
    obtain ⟨e3, how_, hkx_⟩ := h3
    exact rv rfl (x_assign rfl e3) rfl
  clear s0 s1 s2
  clear hN hD
  clear HOW
  clear HBX2
  rintro a2 w2 hN hD ⟨s1, ⟨s8, HOWN, hkx⟩, s2, -⟩
  replace HKX := (kx_tr HKX hkx)
  have HOW := HOWN
  clear HOWN
  show Code.wp _ _ _ _ _
  refine wp_seq ?_
  refine deedL [.eq 9 (.int .i64 (k + (xs.length : Int))), .eq 4 (.int .i64 (k + (xs.length : Int))), .eq 1 (.int .i64 (k + (xs.length : Int))), .w (Below w2.heap.size w2)] 10 [[2], [0]] [] [1, 2, 3] hM hN hD (by kernel_rfl) ⟨s1, ⟨Below.refl _ _, below_drew (Below.refl _ _)⟩, trivial⟩ ⟨fun _ _ hb h => below_step h hb, trivial⟩ (fun hgrow => ⟨fun _ _ h => rv rfl (x_move rfl h.1) rfl,
    fun _ _ h => rv rfl (x_assign rfl h.1) rfl, trivial⟩) ?_
  clear s2 s1
  clear hN hD
  rintro a3 w3 hN hD ⟨s4, s1, hGR, -⟩
  replace HKX := HKX.step hGR
  replace HOW := HOW.below hGR
  clear hGR
  show Code.wp _ _ _ _ _
  refine wp_ret ?_
  refine bodyPost_ret (results_single rfl (vtmp s4 .nil)) hD ?_
  exact ⟨rfl, HOW, HKX⟩
end Go.Proofs.Ytideafkiaipnoaa.Q

