/- More operations by hand. -/
import Derived.Test.YtoplidleecbdeaaRXq
set_option linter.unusedVariables false
set_option linter.unusedSimpArgs false
namespace Go.Proofs.RX
open Go Go.RowKit Go.Maps Go.ChangeMaps
section
variable {P : Program} {k : List It} {s : St} {K : Exit → St → Prop} {all r : List Oper} {o : Oper}
theorem VdT.tAssert {X : Operand} {src dst : TypeId} {ok : Bool} {y sv : SV} (hop : o.op = .typeAssert X src dst ok) (hg : o.guard = none) (hd : dstOk s o.dst) (hX : evO s X = y) (hyk : y.known = true) (hk : sv.known = true)
    (hr : ∀ w, (Instr.typeAssert y.den src dst ok).run P w = .ok sv.den w) (h : VdT P (.ops all r :: k) .normal (s.put o.dst sv) K) : VdT P (.ops all (o :: r) :: k) .normal s K :=
  VdT.val hg hd hk (fun o' a w ho' hs => by
    have eX := ev_ok hs X (by rw [hX]; exact hyk)
    rw [hX] at eX
    rw [hop] at ho'
    simp [execOp, ho', eX, hr w]) h
/-- A reading operation at which the run was stopped. -/
theorem VdT.rd {Γ : Ty} (hΓ : Γ.ok P) (hg : o.guard = none) (hd : dstOk s o.dst) (h : rdK Γ s o.op fun sv => VdT P (.ops all r :: k) .normal (s.put o.dst sv) K) : VdT P (.ops all (o :: r) :: k) .normal s K := by
  obtain ⟨sv, h1, h2, h3⟩ := rdK_ok hΓ h
  exact VdT.val hg hd h2 h3 h1
end
end Go.Proofs.RX
