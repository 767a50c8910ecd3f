/- Functions that leave what was there; what is left at the end of a run, in fewer words. -/
import Derived.Test.YtoplidleecbdeaaRXs
set_option linter.unusedVariables false
set_option linter.unusedSimpArgs false
namespace Go.Proofs.RX
open Go Go.RowKit

/-- The function returns X, and leaves what was there as it was. -/
def AnsF (P : Program) (f : FuncId) (args : Array Value) (w : World) (X : Value) : Prop := Calls P f args w fun e w' => e = .returned X ∧ Below w.heap.size w w'
def EndsK (Γ : Ty) (rs : List ResultVar) (kk : St → SV → Prop) (e : Exit) (s : St) : Prop :=
  match e with
  | .normal => retK Γ s rs (kk s)
  | .ret => retK Γ s rs (kk s)
  | _ => False
def doneK (w : World) (X : Value) (s : St) (sv : SV) : Prop := (∀ w', s.res w' → Below w.heap.size w w') ∧ sv.den = X

theorem calls_rxK {P : Program} {Γ : Ty} (hΓ : Γ.ok P) {f : FuncId} {fn : Func} {c : Code} {R : Ending → World → Prop} {w : World} (args : List SV) (hp : List (Nat × SO)) (fp : Nat → Prop) (res : World → Prop) (kk : St → SV → Prop)
    (hf : P.funcs[f]? = some fn) (hb : fn.body = some c) (hl : args.length ≤ fn.ntmps)
    (hH : SatH ⟨fn.ntmps, argsF 0 args, hp, fp, res⟩ w) (hkk : ∀ s sv w', kk s sv → SatH s w' → R (.returned sv.den) w')
    (h : VdT P [.code c] .normal ⟨fn.ntmps, argsF 0 args, hp, fp, res⟩ (EndsK Γ fn.results.toList kk)) : Calls P f (denL args).toArray w R := by
  refine calls_of_wp hf hb ?_
  have hs : Sat ⟨fn.ntmps, argsF 0 args, hp, fp, res⟩ { tmps := (denL args).toArray ++ Array.replicate (fn.ntmps - (denL args).toArray.size) undef, defers := [] } w := by
    refine ⟨by simp [denL_length]; omega, fun t ht => ?_, rfl, hH⟩
    simp only [argsF_get, Nat.zero_le, if_true, Nat.sub_zero] at ht ⊢
    cases hx : args[t]? with
    | none => rw [hx] at ht; simp [SV.known] at ht
    | some x =>
      have hlt : t < args.length := (List.getElem?_eq_some_iff.1 hx).1
      have : ((denL args).toArray ++ Array.replicate (fn.ntmps - (denL args).toArray.size) undef)[t]? = some x.den := by
        rw [Array.getElem?_append_left (by simp [denL_length]; exact hlt)]
        simp [denL_get, hx]
      rw [Array.getD_eq_getD_getElem?, this]
      rfl
  have := h.run (bodyPost P fn R) _ w hs (by
    intro e s' a' w' hK hs'
    cases e with
    | normal =>
      obtain ⟨sv, h1, h2⟩ := retK_ok hΓ hK
      exact ⟨hs'.df, _, h2 a' w' hs', hkk _ _ _ h1 hs'.H⟩
    | ret =>
      obtain ⟨sv, h1, h2⟩ := retK_ok hΓ hK
      exact ⟨hs'.df, _, h2 a' w' hs', hkk _ _ _ h1 hs'.H⟩
    | exit j => exact hK.elim
    | goto j => exact hK.elim
    | panic c => exact hK.elim
    | outgrown => exact hK.elim)
  exact this

theorem args_eq {P : Program} {f : FuncId} {A : Array Value} {w : World} {R : Ending → World → Prop} (args : List SV) (h : A = (denL args).toArray) (hc : Calls P f (denL args).toArray w R) : Calls P f A w R := h ▸ hc
theorem fn_rx {P : Program} {Γ : Ty} (hΓ : Γ.ok P) {f : FuncId} {fn : Func} {c : Code} {X : Value} {w : World} (args : List SV)
    (hf : P.funcs[f]? = some fn) (hb : fn.body = some c) (hl : args.length ≤ fn.ntmps)
    (h : VdT P [.code c] .normal ⟨fn.ntmps, argsF 0 args, [], (· < w.heap.size), Below w.heap.size w⟩ (EndsK Γ fn.results.toList (doneK w X))) : AnsF P f (denL args).toArray w X :=
  calls_rxK hΓ args [] _ _ (doneK w X) hf hb hl (SatH.start _ _ w) (fun s sv w' h1 h2 => ⟨by rw [h1.2], h1.1 w' h2.rs⟩) h
end Go.Proofs.RX
