/- What single operations come to. -/
import Derived.Test.YtideafkiaipnoaaOps
namespace Go.Proofs.Ytideafkiaipnoaa.Deed
open Go Go.RowKit Go.Proofs.YtideafkiaipnoaaW.PrintWords
section
variable {P : Program} {ρ : Operand → Value} {o : Oper} {w : World} {x y z : Operand} {t u : TypeId} {k : IntKind} {a b : Int} {v v' : Value}
theorem x_move (ho : o.op = .move x) (h : ρ x = v) : (execOp ρ o).run P w = .ok (.value v) w := by unfold execOp; rw [ho]; subst h; rfl
theorem x_assign (ho : o.op = .assign x) (h : ρ x = v) : (execOp ρ o).run P w = .ok (.value v) w := by unfold execOp; rw [ho]; subst h; rfl
theorem x_pick {c : Bool} (ho : o.op = .pick x y z) (hc : ρ x = .bool c) (h : (if c = true then ρ y else ρ z) = v) : (execOp ρ o).run P w = .ok (.value v) w := by
  unfold execOp
  rw [ho]
  subst h
  simp [hc, asBool]
theorem x_or {c d : Bool} (ho : o.op = .pick x (.const (.bool true)) y) (he : ρ (.const (.bool true)) = .bool true) (hc : ρ x = .bool c) (h : c = false → ρ y = .bool d) : (execOp ρ o).run P w = .ok (.value (.bool (c || d))) w := by
  refine x_pick ho hc ?_
  cases c with
  | true => simpa using he
  | false => simpa using h rfl
theorem x_and {c d : Bool} (ho : o.op = .pick x y (.const (.bool false))) (he : ρ (.const (.bool false)) = .bool false) (hc : ρ x = .bool c) (h : c = true → ρ y = .bool d) : (execOp ρ o).run P w = .ok (.value (.bool (c && d))) w := by
  refine x_pick ho hc ?_
  cases c with
  | true => simpa using h rfl
  | false => simpa using he
theorem x_nil {ad : Addr} (ho : o.op = .nilCheck x) (h : ρ x = .pointer (some ad)) : (execOp ρ o).run P w = .ok (.value (.pointer (some ad))) w := by unfold execOp; rw [ho]; simp [h]
theorem x_not {c : Bool} (ho : o.op = .unOp .not t x) (h : ρ x = .bool c) : (execOp ρ o).run P w = .ok (.value (.bool (!c))) w := by unfold execOp; rw [ho]; simp [h, Op.unary]
theorem x_neg (ho : o.op = .unOp .neg t x) (h : ρ x = .int k a) : (execOp ρ o).run P w = .ok (.value (.int k (k.wrap (0 - a)))) w := by unfold execOp; rw [ho]; simp [h, Op.unary, Op.intArith]
theorem x_lss (ho : o.op = .binOp .lss t x y u) (hx : ρ x = .int k a) (hy : ρ y = .int k b) : (execOp ρ o).run P w = .ok (.value (.bool (decide (a < b)))) w := by unfold execOp; rw [ho]; simp [hx, hy, eqGuard, binOp, Op.intCmp]
theorem x_leq (ho : o.op = .binOp .leq t x y u) (hx : ρ x = .int k a) (hy : ρ y = .int k b) : (execOp ρ o).run P w = .ok (.value (.bool (decide (a ≤ b)))) w := by unfold execOp; rw [ho]; simp [hx, hy, eqGuard, binOp, Op.intCmp]
theorem x_gtr (ho : o.op = .binOp .gtr t x y u) (hx : ρ x = .int k a) (hy : ρ y = .int k b) : (execOp ρ o).run P w = .ok (.value (.bool (decide (b < a)))) w := by unfold execOp; rw [ho]; simp [hx, hy, eqGuard, binOp, Op.intCmp]
theorem x_geq (ho : o.op = .binOp .geq t x y u) (hx : ρ x = .int k a) (hy : ρ y = .int k b) : (execOp ρ o).run P w = .ok (.value (.bool (decide (b ≤ a)))) w := by unfold execOp; rw [ho]; simp [hx, hy, eqGuard, binOp, Op.intCmp]
theorem x_eql (ho : o.op = .binOp .eql t x y u) (hx : ρ x = .int k a) (hy : ρ y = .int k b) : (execOp ρ o).run P w = .ok (.value (.bool (a == b))) w := by unfold execOp; rw [ho]; simp [hx, hy, eqGuard, binOp, Op.intCmp]
theorem x_neq (ho : o.op = .binOp .neq t x y u) (hx : ρ x = .int k a) (hy : ρ y = .int k b) : (execOp ρ o).run P w = .ok (.value (.bool (a != b))) w := by unfold execOp; rw [ho]; simp [hx, hy, eqGuard, binOp, Op.intCmp]
theorem x_add (ho : o.op = .binOp .add t x y u) (hx : ρ x = .int k a) (hy : ρ y = .int k b) : (execOp ρ o).run P w = .ok (.value (.int k (k.wrap (a + b)))) w := by unfold execOp; rw [ho]; simp [hx, hy, eqGuard, binOp, Op.intArith]
theorem x_sub (ho : o.op = .binOp .sub t x y u) (hx : ρ x = .int k a) (hy : ρ y = .int k b) : (execOp ρ o).run P w = .ok (.value (.int k (k.wrap (a - b)))) w := by unfold execOp; rw [ho]; simp [hx, hy, eqGuard, binOp, Op.intArith]
theorem x_mul (ho : o.op = .binOp .mul t x y u) (hx : ρ x = .int k a) (hy : ρ y = .int k b) : (execOp ρ o).run P w = .ok (.value (.int k (k.wrap (a * b)))) w := by unfold execOp; rw [ho]; simp [hx, hy, eqGuard, binOp, Op.intArith]
theorem wrap_in {n : Int} (h : -9223372036854775808 ≤ n ∧ n ≤ 9223372036854775807) : IntKind.i64.wrap n = n := by
  rw [Go.Proofs.YtideafkiaipnoaaW.PrintLast.i64_w]
  unfold wrap64
  omega
theorem x_add' (ho : o.op = .binOp .add t x y u) (hx : ρ x = .int .i64 a) (hy : ρ y = .int .i64 b) (h : -9223372036854775808 ≤ a + b ∧ a + b ≤ 9223372036854775807) : (execOp ρ o).run P w = .ok (.value (.int .i64 (a + b))) w := by
  rw [x_add ho hx hy, wrap_in h]
theorem x_sub' (ho : o.op = .binOp .sub t x y u) (hx : ρ x = .int .i64 a) (hy : ρ y = .int .i64 b) (h : -9223372036854775808 ≤ a - b ∧ a - b ≤ 9223372036854775807) : (execOp ρ o).run P w = .ok (.value (.int .i64 (a - b))) w := by
  rw [x_sub ho hx hy, wrap_in h]
theorem x_seql {s r : ByteArray} (ho : o.op = .binOp .eql t x y u) (hx : ρ x = .string s) (hy : ρ y = .string r) : (execOp ρ o).run P w = .ok (.value (.bool (s.toList == r.toList))) w := by unfold execOp; rw [ho]; simp [hx, hy, eqGuard, binOp, Op.stringOp]
theorem x_sneq {s r : ByteArray} (ho : o.op = .binOp .neq t x y u) (hx : ρ x = .string s) (hy : ρ y = .string r) : (execOp ρ o).run P w = .ok (.value (.bool (!(s.toList == r.toList)))) w := by unfold execOp; rw [ho]; simp [hx, hy, eqGuard, binOp, Op.stringOp]
theorem x_extract {vs : Array Value} {i : Nat} (ho : o.op = .extract x i) (h : ρ x = .tuple vs) (hv : vs[i]? = some v) : (execOp ρ o).run P w = .ok (.value v) w := by unfold execOp; rw [ho]; simp [h, Instr.extract, hv]
theorem x_len_slice {A : Option Addr} {n c : Nat} {e : TypeId} (ho : o.op = .call { callee := .builtin .len, args := #[x], argTypes := #[t] }) (ht : P.underlying t = some (.slice e)) (h : ρ x = .slice A n c) :
    (execOp ρ o).run P w = .ok (.value (.int .i64 n)) w := by
  unfold execOp
  simp [ho, resolve, invoke, builtin, Builtin.len_, run_underlying ht, h, goInt]
theorem x_len_string {s : ByteArray} (ho : o.op = .call { callee := .builtin .len, args := #[x], argTypes := #[t] }) (ht : P.underlying t = some .string) (h : ρ x = .string s) :
    (execOp ρ o).run P w = .ok (.value (.int .i64 s.size)) w := by
  unfold execOp
  simp [ho, resolve, invoke, builtin, Builtin.len_, run_underlying ht, h, goInt]

/-! ### Addresses -/
theorem add_mk (g k n : Nat) : (⟨g, k, none⟩ : Addr).add n = ⟨g, k + n, none⟩ := by unfold Addr.add; split <;> simp_all
theorem x_field {ad : Addr} {fs : Array Field} {f : Nat} {fd : Field} (ho : o.op = .fieldAddr t x f) (h : ρ x = .pointer (some ad)) (ht : P.underlying t = some (.struct fs)) (hf : fs[f]? = some fd) {n : Nat} (hi : (P.info? fd.type).map (·.size) = some n) (hs : n ≠ 0) (hv : Value.pointer (some (ad.add fd.offset)) = v) :
    (execOp ρ o).run P w = .ok (.value v) w := by
  subst hv
  obtain ⟨i, hi1, hi2⟩ := Option.map_eq_some_iff.1 hi
  subst hi2
  unfold execOp
  simp [ho, h, Instr.fieldAt, run_underlying ht, hf, Instr.sureAddr, fieldPlace, sizeOf, typeInfo, hi1, hs]
theorem x_index_slice {ad : Addr} {n c m : Nat} {e : TypeId} (ho : o.op = .indexAddr t x y) (h : ρ x = .slice (some ad) n c) (hy : ρ y = .int k a) (ht : P.underlying t = some (.slice e)) (hi : (P.info? e).map (·.size) = some m) (h0 : 0 ≤ a) (h1 : a < n) (hv : Value.pointer (some (ad.add (a.toNat * m))) = v) :
    (execOp ρ o).run P w = .ok (.value v) w := by
  subst hv
  obtain ⟨i, hi1, hi2⟩ := Option.map_eq_some_iff.1 hi
  subst hi2
  unfold execOp
  simp [ho, h, hy, Instr.indexAt, asIntOf, run_underlying ht, sizeOf, typeInfo, hi1, h0, h1]
theorem x_index_array {ad : Addr} {n m : Nat} {e : TypeId} (ho : o.op = .indexAddr t x y) (h : ρ x = .pointer (some ad)) (hy : ρ y = .int k a) (ht : P.underlying t = some (.array n e)) (hi : (P.info? e).map (·.size) = some m) (h0 : 0 ≤ a) (h1 : a < n) (hv : Value.pointer (some (ad.add (a.toNat * m))) = v) :
    (execOp ρ o).run P w = .ok (.value v) w := by
  subst hv
  obtain ⟨i, hi1, hi2⟩ := Option.map_eq_some_iff.1 hi
  subst hi2
  unfold execOp
  simp [ho, h, hy, Instr.indexAt, asIntOf, run_underlying ht, sizeOf, typeInfo, hi1, h0, h1, Instr.sureAddr]

/-! ### Loads -/
theorem x_load1 {ad : Addr} {d : TypeDesc} (ho : o.op = .load t x) (h : ρ x = .pointer (some ad)) (ht : P.underlying t = some d) (hd : (match d with | .struct _ => false | .array _ _ => false | _ => true) = true) (hc : w.cell? ad = some v) :
    (execOp ρ o).run P w = .ok (.value v) w := by
  unfold execOp
  cases d <;> simp_all [Instr.loadAt, Instr.sureAddr, loadVar, isAgg, run_underlying ht]
theorem x_loadS {ad : Addr} {fs : Array Field} (ho : o.op = .load t x) (h : ρ x = .pointer (some ad)) (ht : P.underlying t = some (.struct fs)) (cs : List Value) (hi : (P.info? t).map (·.size) = some cs.length) (hc : ∀ (j : Nat) (u : Value), cs[j]? = some u → w.cell? (ad.add j) = some u) :
    (execOp ρ o).run P w = .ok (.value (.agg cs.toArray)) w := by
  have hr := run_loadCells_list (P := P) (w := w) ad cs hc
  obtain ⟨i, hi1, hi2⟩ := Option.map_eq_some_iff.1 hi
  unfold execOp
  simp [ho, h, Instr.loadAt, Instr.sureAddr, loadVar, isAgg, run_underlying ht, sizeOf, typeInfo, hi1, hi2, hr]
theorem blk_list {g : Nat} {L : List Value} {T : TypeId} {f : Nat × Nat} (hb : w.heap[g]? = some (.cells L.toArray T f)) (off : Nat) {cs : List Value} (h : (L.drop off).take cs.length = cs) : ∀ (j : Nat) (u : Value), cs[j]? = some u → w.cell? ((⟨g, off, none⟩ : Addr).add j) = some u := by
  intro j u hu
  have hj := (List.getElem?_eq_some_iff.1 hu).1
  rw [← h, List.getElem?_take_of_lt hj, List.getElem?_drop] at hu
  have he : (⟨g, off, none⟩ : Addr).add j = ⟨g, off + j, none⟩ := by unfold Addr.add; split <;> simp_all
  rw [he]
  simp [World.cell?, hb, hu]
theorem blk_one {g : Nat} {L : List Value} {T : TypeId} {f : Nat × Nat} (hb : w.heap[g]? = some (.cells L.toArray T f)) (off : Nat) (h : L[off]? = some v) : w.cell? ⟨g, off, none⟩ = some v := by
  simp [World.cell?, hb, h]
end
theorem band_l {a b : Bool} (h : (a && b) = true) : a = true := (Bool.and_eq_true _ _ ▸ h).1
theorem band_r {a b : Bool} (h : (a && b) = true) : b = true := (Bool.and_eq_true _ _ ▸ h).2
/-- A slot that is written only where G lets it. -/
def GV (G : Bool) (x v : Value) : Prop := (G = true → x = v) ∧ (G = false → x = undef)
theorem GV.on {G : Bool} {x v : Value} (hg : G = true) (h : x = v) : GV G x v := ⟨fun _ => h, fun hf => (by rw [hg] at hf; cases hf)⟩
theorem GV.off {G : Bool} {x v : Value} (hg : G = false) (h : x = undef) : GV G x v := ⟨fun ht => (by rw [hg] at ht; cases ht), fun _ => h⟩
/-! ### Which slots a fact speaks of -/
theorem so_eq (d : Nat) (r : List Nat) (V : Value) : SlotsOnly (d :: r) fun s _ => s d = V := fun s s' w h H => (h d (by simp)).symm.trans H
theorem so_gv (d : Nat) (r : List Nat) (G : Bool) (V : Value) : SlotsOnly (d :: r) fun s _ => GV G (s d) V := fun s s' w h H => by
  have e := h d (by simp)
  show GV G (s' d) V
  rw [← e]
  exact H
theorem so_w (r : List Nat) (f : World → Prop) : SlotsOnly r fun _ w => f w := fun _ _ _ _ H => H
theorem so_1 (d : Nat) (f : Value → World → Prop) : SlotsOnly [d] fun s w => f (s d) w := fun s s' w h H => by
  have e := h d (by simp)
  show f (s' d) w
  rw [← e]
  exact H
theorem so_2 (d e : Nat) (f : Value → Value → World → Prop) : SlotsOnly [d, e] fun s w => f (s d) (s e) w := fun s s' w h H => by
  have e1 := h d (by simp)
  have e2 := h e (by simp)
  show f (s' d) (s' e) w
  rw [← e1, ← e2]
  exact H
section
variable {ops : Array Oper} {o : Oper} {a : Act}
theorem wanted_b {j : Nat} {d : Tmp} {b c : Bool} (hg : o.guard = some (j, b)) (hd : (ops[j]?).bind (·.dst) = some d) (h : sl a d = .bool c) : Region.wanted o (yielded ops a.tmps) = (c == b) := by
  unfold Region.wanted
  rw [hg]
  simp only [yielded_of hd h]
  cases c <;> cases b <;> rfl
theorem wanted_GV {j : Nat} {d : Tmp} {b G c : Bool} (hg : o.guard = some (j, b)) (hd : (ops[j]?).bind (·.dst) = some d) (h : GV G (sl a d) (.bool c)) : Region.wanted o (yielded ops a.tmps) = (G && (c == b)) := by
  cases G with
  | true => rw [wanted_b hg hd (h.1 rfl)]; simp
  | false =>
    unfold Region.wanted
    rw [hg]
    simp only [yielded_un hd (h.2 rfl)]
    simp
end
theorem args1 {ρ : Operand → Value} {x : Operand} {v : Value} (h : ρ x = v) : (#[x] : Array Operand).map ρ = #[v] := by simp [h]
theorem args2 {ρ : Operand → Value} {x y : Operand} {v u : Value} (h : ρ x = v) (h2 : ρ y = u) : (#[x, y] : Array Operand).map ρ = #[v, u] := by simp [h, h2]
theorem args3 {ρ : Operand → Value} {x y z : Operand} {v u t : Value} (h : ρ x = v) (h2 : ρ y = u) (h3 : ρ z = t) : (#[x, y, z] : Array Operand).map ρ = #[v, u, t] := by simp [h, h2, h3]
end Go.Proofs.Ytideafkiaipnoaa.Deed
