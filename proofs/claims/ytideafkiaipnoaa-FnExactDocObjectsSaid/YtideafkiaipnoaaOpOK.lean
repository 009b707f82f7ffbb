/- Both tests of an operation are one; what it says. -/
import Derived.Test.YtideafkiaipnoaaIOp
import Derived.Test.YtideafkiaipnoaaSOp
namespace Go.Proofs.Ytideafkiaipnoaa.Q
open Go
theorem less_lessT (a b c d : Int) : less (a, b) (c, d) = lessT a b c d := by
  unfold less lessT
  by_cases h : a = c
  · simp [h]
  · simp [h]
theorem bor_ite (a b x : Bool) : (if (a || b) = true then false else x) = (if a = true then false else if b = true then false else x) := by cases a <;> cases b <;> rfl
theorem sOp_iOp (o : Op) : sOp o = iOp o := by
  unfold iOp sOp noneT
  simp only [less_lessT, bor_ite, Bool.not_or, Bool.not_not]
/-- What a well-formed operation is, as far as the log asks. -/
structure OpFine (o : Op) : Prop where
  a0 : 0 ≤ o.actor
  a1 : o.actor < 16
  t0 : 1 ≤ o.time
  t1 : o.time ≤ 1000000000000
  s0 : 1 ≤ o.seq
  s1 : o.seq ≤ 1000000000000
  j0 : 1 ≤ o.obj
  j1 : o.obj ≤ 100
  vec : VecOK o.deps
  own : gi o.deps o.actor = o.seq - 1
  kinds : o.kind = 1 ∨ o.kind = 2 ∨ o.kind = 3 ∨ o.kind = 4
theorem ite_f (a x : Bool) : (if a = true then false else x) = true ↔ a = false ∧ x = true := by cases a <;> simp
theorem iOp_fine {o : Op} (h : iOp o = true) : OpFine o := by
  unfold iOp at h
  simp only [bor_ite, ite_f] at h
  obtain ⟨h1, h2, h3, h4, h5, h6, h7, _, _, _, _, _, _, _, hk⟩ := h
  have hs : stampOK o.time o.actor = true := by simpa using h1
  simp [stampOK, actorOK] at hs
  have hv : VecOK o.deps := by simpa [vecOK_iff] using h4
  simp at h2 h3 h5 h6 h7
  refine ⟨hs.2.1, hs.2.2, hs.1.1, hs.1.2, by omega, by omega, by omega, by omega, hv, h5, ?_⟩
  by_cases k1 : o.kind = 1
  · exact .inl k1
  · by_cases k2 : o.kind = 2
    · exact .inr (.inl k2)
    · by_cases k3 : o.kind = 3
      · exact .inr (.inr (.inl k3))
      · by_cases k4 : o.kind = 4
        · exact .inr (.inr (.inr k4))
        · simp [k1, k2, k3, k4] at hk
end Go.Proofs.Ytideafkiaipnoaa.Q
