/- DocObjects, both sides, as the law calls them. -/
import Derived.Test.YtideafkiaipnoaaBridge
import Derived.Test.YtideafkiaipnoaaSame
namespace Go.Proofs.Ytideafkiaipnoaa.Q
open Go Go.RowKit Go.Proofs.YtideafkiaipnoaaW.PrintWords Go.Proofs.Ytideafkiaipnoaa.Deed
theorem sObjs_len (os : List Op) : (sObjs os).length ≤ 1048576 := by
  unfold sObjs
  split
  · exact Nat.le_trans (upto_le _ _) (by omega)
  · simp
theorem sDoc_L (A : Option Addr) (ys : List LO) (c : Nat) (os : List Op) (w : World) (hm : ys.map LO.o = os) (HR : RV eLO w A ys) (HC : Caps ys) : Calls Try.prog 13 #[.slice A os.length c] w fun e w' => ∃ A' c', e = .returned (.tuple #[.slice A' (sObjs os).length c', .int .i64 (if sLogOK os = true then 0 else 1)]) ∧ OwnI w' A' (sObjs os) w.heap.size w'.heap.size ∧ Below w.heap.size w w' := by
  subst hm
  have h := sDoc_calls A (ys.map LO.o) (dA ys) (dC ys) c w (RO_of HR HC)
  refine h.mono ?_
  rintro e w' ⟨v, rfl, h1, h2, hb⟩
  obtain ⟨A', c', rfl, _, h3⟩ := own_I h1 h2
  exact ⟨A', c', rfl, h3, hb⟩
theorem iDoc_L (A : Option Addr) (ys : List LO) (c : Nat) (os : List Op) (w : World) (hm : ys.map LO.o = os) (HR : RV eLO w A ys) (HC : Caps ys) : Calls Try.prog 15 #[.slice A os.length c] w fun e w' => ∃ A' c', e = .returned (.tuple #[.slice A' (sObjs os).length c', .int .i64 (if sLogOK os = true then 0 else 1)]) ∧ OwnI w' A' (sObjs os) w.heap.size w'.heap.size ∧ Below w.heap.size w w' := by
  subst hm
  have h := iDoc_calls A (ys.map LO.o) (dA ys) (dC ys) c w (RO_of HR HC)
  rw [← objs_same, ← log_same] at h
  refine h.mono ?_
  rintro e w' ⟨v, rfl, h1, h2, hb⟩
  obtain ⟨A', c', rfl, _, h3⟩ := own_I h1 h2
  exact ⟨A', c', rfl, h3, hb⟩
end Go.Proofs.Ytideafkiaipnoaa.Q
