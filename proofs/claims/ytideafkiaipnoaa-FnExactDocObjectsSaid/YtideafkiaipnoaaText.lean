/- Bytes and strings. -/
import Derived.Test.YtideafkiaipnoaaOwn
import Derived.Laws.BytesString
namespace Go.Proofs.Ytideafkiaipnoaa.Q
open Go Go.RowKit Go.Proofs.YtideafkiaipnoaaW.PrintWords Go.Proofs.Ytideafkiaipnoaa.Deed
section
variable {P : Program} {ρ : Operand → Value} {o : Oper} {w : World} {x y : Operand} {t u e : TypeId} {k : IntKind} {a b : Int}
theorem x_rem (ho : o.op = .binOp .rem t x y u) (hx : ρ x = .int k a) (hy : ρ y = .int k b) (hb : b ≠ 0) : (execOp ρ o).run P w = .ok (.value (.int k (a.tmod b))) w := by unfold execOp; rw [ho]; simp [hx, hy, eqGuard, binOp, Op.intDiv, hb]
theorem x_quo (ho : o.op = .binOp .quo t x y u) (hx : ρ x = .int k a) (hy : ρ y = .int k b) (hb : b ≠ 0) : (execOp ρ o).run P w = .ok (.value (.int k (k.wrap (a.tdiv b)))) w := by unfold execOp; rw [ho]; simp [hx, hy, eqGuard, binOp, Op.intDiv, hb]
theorem x_quo' (ho : o.op = .binOp .quo t x y u) (hx : ρ x = .int .i64 a) (hy : ρ y = .int .i64 b) (hb : b ≠ 0) (h : -9223372036854775808 ≤ a.tdiv b ∧ a.tdiv b ≤ 9223372036854775807) : (execOp ρ o).run P w = .ok (.value (.int .i64 (a.tdiv b))) w := by rw [x_quo ho hx hy hb, wrap_in h]
theorem x_int {k2 : IntKind} (ho : o.op = .convert t u x) (hx : ρ x = .int k a) (ht : P.underlying t = some (.int k)) (hu : P.underlying u = some (.int k2)) : (execOp ρ o).run P w = .ok (.value (.int k2 (k2.wrap a))) w := by
  unfold execOp
  rw [ho]
  simp [hx, convert, run_underlying ht, run_underlying hu, Conv.intToInt]
theorem x_sadd {s r : ByteArray} (ho : o.op = .binOp .add t x y u) (hx : ρ x = .string s) (hy : ρ y = .string r) (h : ((s.size + r.size : Nat) : Int) ≤ 9223372036854775807) : (execOp ρ o).run P w = .ok (.value (.string (s ++ r))) w := by
  unfold execOp
  rw [ho]
  have : ¬ ((s.size + r.size : Nat) : Int) > IntKind.i64.max := by
    have e : IntKind.i64.max = 9223372036854775807 := by decide
    rw [e]; omega
  simp only [hx, hy, Sem.run_bind, eqGuard, binOp, Op.stringOp]
  simp
  omega
def byte1 (n : Int) : ByteArray := ByteArray.empty.push (UInt8.ofNat n.toNat)
theorem byte1_size (n : Int) : (byte1 n).size = 1 := rfl
/-- The digits of l ahead of s. -/
def mtl : Nat → Int → ByteArray → ByteArray
  | 0, _, s => s
  | f + 1, l, s => if 0 < l then mtl f (l.tdiv 10) (byte1 (IntKind.u8.wrap (48 + l.tmod 10)) ++ s) else s
theorem mtl_fuel : ∀ (f g : Nat) (l : Int) (s : ByteArray), l < f → l < g → mtl f l s = mtl g l s
  | 0, 0, l, s, _, _ => rfl
  | 0, g + 1, l, s, h1, _ => by unfold mtl; rw [if_neg (by omega)]
  | f + 1, 0, l, s, _, h2 => by unfold mtl; rw [if_neg (by omega)]
  | f + 1, g + 1, l, s, h1, h2 => by
    unfold mtl
    by_cases h : 0 < l
    · rw [if_pos h, if_pos h]
      have : l.tdiv 10 < l := by rw [Int.tdiv_eq_ediv_of_nonneg (by omega)]; omega
      exact mtl_fuel f g _ _ (by omega) (by omega)
    · rw [if_neg h, if_neg h]
theorem mtl_step {l : Int} (s : ByteArray) (h : 0 < l) : mtl ((l.tdiv 10).toNat + 1) (l.tdiv 10) (byte1 (IntKind.u8.wrap (48 + l.tmod 10)) ++ s) = mtl (l.toNat + 1) l s := by
  conv => rhs; rw [mtl, if_pos h]
  have : l.tdiv 10 < l := by rw [Int.tdiv_eq_ediv_of_nonneg (by omega)]; omega
  exact mtl_fuel _ _ _ _ (by omega) (by omega)
theorem mtl_done {l : Int} (f : Nat) (s : ByteArray) (h : ¬ 0 < l) : mtl f l s = s := by
  cases f with
  | zero => rfl
  | succ f => rw [mtl, if_neg h]
/-- The text of a mark. -/
def mtext (k : Int) : ByteArray := if k ≤ 0 then ⟨#[109, 48]⟩ else (⟨#[109]⟩ : ByteArray) ++ mtl (k.toNat + 1) k ⟨#[]⟩
theorem x_str1 {n : Int} (ho : o.op = .convert t u x) (hx : NewL [.int .u8 n] e (ρ x) w) (hs : P.underlying t = some (.slice e)) (he : P.underlying e = some (.int .u8)) (hd : P.underlying u = some .string) : (execOp ρ o).run P w = .ok (.value (.string (byte1 n))) w := by
  obtain ⟨g, h1, h2⟩ := hx
  have hr := run_loadCells_list (P := P) (w := w) ⟨g, 0, none⟩ [.int .u8 n] (blk_list h2 0 rfl)
  have h3 := run_bytesToString (P := P) w ⟨g, 0, none⟩ 1 1 [n] (by simpa using hr)
  unfold execOp
  rw [ho]
  simp [h1, run_convert_bytes_string w t u e _ 1 1 hs he hd, h3, byte1]
end
end Go.Proofs.Ytideafkiaipnoaa.Q
