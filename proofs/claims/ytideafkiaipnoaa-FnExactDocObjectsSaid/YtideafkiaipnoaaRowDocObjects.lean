/- The law FnExactDocObjects: for every input it returns true, and each argument reads as it did. -/
import Derived.Test.YtideafkiaipnoaaRows
import Derived.Test.YtideafkiaipnoaaLawDocObjects
import Derived.Test.YtideafkiaipnoaaOpen
import Derived.Test.YtideafkiaipnoaaOpOp
namespace Go.Proofs.Ytideafkiaipnoaa.fnExactDocObjects
open Go Go.ChangeShapes Go.WideShapes Go.ChangeAt Go.RowKit Go.Proofs.Ytideafkiaipnoaa.Q
open Go.ChangeMaps (open_string shut_string)
set_option linter.unusedVariables false
theorem own : ownKnob Try.prog.godebug = none := by kernel_rfl
theorem laidOut : laidOutB Try.prog = true := by kernel_rfl
set_option maxRecDepth 100000 in
theorem lifted (os : Os) (started : os.Started) (H : Type) (enc : TypeId × Value → H) :
    ReturnsInHanded {} Try.checked os 3 .any (Rows.fnExactDocObjectsSpec.pre6 enc Try.prog Try.f3 Rows.fnExactDocObjectsRow.domain false) (Rows.fnExactDocObjectsSpec.post enc Try.prog Try.f3 false true false false) := by
  refine returnsInHanded_of_change_sized (C := Try.checked) own started (by kernel_rfl) Try.func3
    (ChangeSpec.witness6 (enc := enc) (C := Try.checked) false ⟨#[], #[.slice none 0 0], []⟩ 8 (by kernel_rfl) (by kernel_rfl) (by kernel_rfl) (by kernel_rfl)) ?_
  intro W base args ds gs before hval0 hW hcnd hsz0 _
  have hval : ∀ (j : Nat) t v, Try.f3.params[j]? = some t → args[j]? = some v → Value.okWide Try.prog W .any base t v := hval0
  have hW' := hW
  obtain ⟨p, q, hA0, hV, rfl, hfz, hnd⟩ := hW
  have hA : DataW.TrodAll enc Try.prog W 0 (fun _ => true) true Try.f3.params.toList args.toList ds p := hA0
  rw [Try.params3] at hA hval
  obtain ⟨v0, vs0, d0, ds0, p0, q0, hargs, rfl, rfl, h0, r0⟩ := trodAll_cons hA
  obtain ⟨rfl, rfl, rfl⟩ := trodAll_nil r0
  obtain rfl : args = #[v0] := by cases args; simp_all
  obtain ⟨rfl, rfl⟩ := trodVars_none hV
  have k0 := h0
  have lt0 : ∀ x ∈ p0, x.block < W.heap.size := by obtain ⟨m, hm⟩ := k0; exact DataW.trod_lt m _ _ _ hm
  obtain ⟨a0, len0, cap0, rfl⟩ := okWide_slice Try.underlying22 (hval 0 22 v0 rfl rfl)
  obtain ⟨fu0, hf0⟩ := h0
  obtain ⟨A0, xs0, c0, e0, HR0, HG0, hl0, hm0⟩ := op_row (E := eLO) Try.underlying22 (by kernel_rfl) (by decide) opeleLO hf0
  simp only [Value.cells, List.cons.injEq, Value.slice.injEq, and_true] at e0
  obtain ⟨rfl, rfl, rfl⟩ := e0
  have HC0 : Caps xs0 := fun y hy => (HG0 y hy).1
  have HH0 : Held (xs0.map LO.o) := ⟨by rw [List.length_map]; omega, fun o ho => by obtain ⟨y, hy, rfl⟩ := List.mem_map.1 ho; exact (HG0 y hy).2⟩
  clear hA0 hval0 hsz0
  refine (Q.lawDocObjects_calls a0 xs0 cap0 W HR0 HC0 HH0).mono fun e W' ⟨he, bel⟩ => ?_
  subst he
  exact ⟨_, rfl, _, _, _, [], _, [], hW', trodAll_mk1 (shut_bool Try.underlying4 _), (trodAll_cons_mk (Below.trod laidOut (by kernel_rfl) (of_decide_eq_true (by kernel_rfl)) k0 bel lt0) trodAll_mk0), rfl, bel.frame _, fun h => by cases h⟩
theorem over : Rows.fnExactDocObjectsRow.holds Try.pinned (OpenSpec.ofChange Rows.fnExactDocObjectsSpec) :=
  OpenClaim.holds_of_wide 3 Try.f3 rfl rfl rfl rfl rfl rfl rfl ⟨rfl, rfl, rfl, rfl, rfl⟩ rfl rfl rfl rfl rfl (by kernel_rfl) Try.func3 (by kernel_rfl)
    (of_decide_eq_true (by kernel_rfl)) (by unfold Func.isWrapper; first | (rw [if_pos (by decide +kernel)]; kernel_rfl) | (rw [if_neg (by decide +kernel)]; exact ⟨rfl, rfl⟩))
    (fun os started H enc _ => lifted os started H enc)
theorem proved : Rows.FnExactDocObjectsSaid := over
end Go.Proofs.Ytideafkiaipnoaa.fnExactDocObjects
namespace Go.Proofs.Ytideafkiaipnoaa
/-- The row, under a short name, for the claim. -/
theorem fnExactDocObjects_holds : Rows.FnExactDocObjectsSaid := fnExactDocObjects.proved
#print axioms fnExactDocObjects_holds
end Go.Proofs.Ytideafkiaipnoaa
