/- From a call to the judgement. -/
import Derived.Test.YtoplidleecbdeaaRXh
set_option linter.unusedVariables false
set_option linter.unusedSimpArgs false
namespace Go.Proofs.RX
open Go Go.RowKit

def argsF : Nat → List SV → List (Nat × SV)
  | _, [] => []
  | i, x :: r => (i, x) :: argsF (i + 1) r
def knownL : List SV → Prop
  | [] => True
  | x :: r => x.known = true ∧ knownL r
def resvK (Γ : Ty) (s : St) : List ResultVar → (List SV → Prop) → Prop
  | [], kk => kk []
  | .tmp t :: r, kk => kn (getT s.tm t) fun v => resvK Γ s r fun l => kk (v :: l)
  | .cell a t :: r, kk => loadK Γ s t (.tmp a) fun v => resvK Γ s r fun l => kk (v :: l)
def oneTup (l : List SV) (kk : SV → Prop) : Prop :=
  match l with
  | [] => kk (.lit (.tuple #[]))
  | x :: r => match r with
    | [] => kk x
    | y :: r => kk (.tup (x :: y :: r))
def retK (Γ : Ty) (s : St) (rs : List ResultVar) (kk : SV → Prop) : Prop := resvK Γ s rs fun l => oneTup l kk

theorem loadK_var {P : Program} {s : St} {Γ : Ty} (hΓ : Γ.ok P) {t : TypeId} {x : Operand} {kk : SV → Prop} (h : loadK Γ s t x kk) : ∃ sv, kk sv ∧ sv.known = true ∧ ∀ a w, Sat s a w → ∃ ad, a.eval x = .pointer (some ad) ∧ (loadVar t ad).run P w = .ok sv.den w := by
  obtain ⟨sv, hk, hkn, hy⟩ := loadK_ok hΓ h
  refine ⟨sv, hk, hkn, fun a w hs => ?_⟩
  have h1 := hy { dst := none, op := .load t x, type := 0, pos := "", after := #[], guard := none } a w rfl hs
  simp only [execOp, Instr.loadAt] at h1
  unfold loadK at h
  split at h
  · exact h.elim
  · split at h
    · rename_i i b o hx
      have e1 := ev_ok hs x (by rw [hx]; rfl)
      rw [hx] at e1
      simp only [SV.den] at e1
      refine ⟨_, e1, ?_⟩
      rw [e1] at h1
      simp only [Instr.sureAddr, Sem.run_bind, Sem.run_pure, Result.andThen_ok] at h1
      cases hr : (loadVar t ⟨b, o, none⟩).run P w with
      | ok v w' => rw [hr] at h1; simp [Result.andThen] at h1; simp [h1]
      | halt x w' => rw [hr] at h1; simp [Result.andThen] at h1
    · rename_i ad hx
      have e1 := ev_ok hs x (by rw [hx]; rfl)
      rw [hx] at e1
      simp only [SV.den] at e1
      refine ⟨_, e1, ?_⟩
      rw [e1] at h1
      simp only [Instr.sureAddr, Sem.run_bind, Sem.run_pure, Result.andThen_ok] at h1
      cases hr : (loadVar t ad).run P w with
      | ok v w' => rw [hr] at h1; simp [Result.andThen] at h1; simp [h1]
      | halt x w' => rw [hr] at h1; simp [Result.andThen] at h1
    · rename_i b o l k hx
      have e1 := ev_ok hs x (by rw [hx]; rfl)
      rw [hx] at e1
      simp only [SV.den] at e1
      refine ⟨_, e1, ?_⟩
      rw [e1] at h1
      simp only [Instr.sureAddr, Sem.run_bind, Sem.run_pure, Result.andThen_ok] at h1
      cases hr : (loadVar t ⟨b, o + k, none⟩).run P w with
      | ok v w' => rw [hr] at h1; simp [Result.andThen] at h1; simp [h1]
      | halt x w' => rw [hr] at h1; simp [Result.andThen] at h1
    · exact h.elim

def resF (tmps : Array Value) : ResultVar → Sem Value
  | .tmp t => pure (tmps.getD t undef)
  | .cell a t => do loadVar t (← asAddr (tmps.getD a undef))
theorem resF_cell {P : Program} {tmps : Array Value} {x : Nat} {t : TypeId} {ad : Addr} {w : World} {r : Result Value} (h : tmps.getD x undef = .pointer (some ad)) (h2 : (loadVar t ad).run P w = r) : (resF tmps (.cell x t)).run P w = r := by
  simp only [resF, h]
  exact h2
theorem resvK_ok {P : Program} {s : St} {Γ : Ty} (hΓ : Γ.ok P) : ∀ {rs : List ResultVar} {kk : List SV → Prop}, resvK Γ s rs kk →
    ∃ l, kk l ∧ l.length = rs.length ∧ ∀ a w, Sat s a w → (rs.mapM (resF a.tmps)).run P w = .ok (denL l) w
  | [], kk, h => ⟨[], h, rfl, fun a w hs => by simp [denL]⟩
  | .tmp t :: r, kk, h => by
    obtain ⟨hkn, h⟩ := h
    obtain ⟨l, hk, hl, hr⟩ := resvK_ok hΓ h
    refine ⟨_, hk, by simp [hl], fun a w hs => ?_⟩
    have e := hs.fr t hkn
    have e2 : (resF a.tmps (.tmp t)).run P w = .ok (getT s.tm t).den w := by rw [← e]; rfl
    simp only [List.mapM_cons, Sem.run_bind, e2, hr a w hs, Result.andThen_ok, Sem.run_pure]
    rfl
  | .cell x t :: r, kk, h => by
    obtain ⟨sv, h, hkn, hld⟩ := loadK_var hΓ h
    obtain ⟨l, hk, hl, hr⟩ := resvK_ok hΓ h
    refine ⟨_, hk, by simp [hl], fun a w hs => ?_⟩
    obtain ⟨ad, h1, h2⟩ := hld a w hs
    have e2 := resF_cell (P := P) (tmps := a.tmps) h1 h2
    simp only [List.mapM_cons, Sem.run_bind, e2, hr a w hs, Result.andThen_ok, Sem.run_pure]
    rfl

theorem retK_ok {P : Program} {s : St} {Γ : Ty} (hΓ : Γ.ok P) {fn : Func} {kk : SV → Prop} (h : retK Γ s fn.results.toList kk) :
    ∃ sv, kk sv ∧ ∀ a w, Sat s a w → (results fn a.tmps).run P w = .ok sv.den w := by
  obtain ⟨l, h, hl, hr⟩ := resvK_ok hΓ h
  have key : ∀ a w, Sat s a w → (results fn a.tmps).run P w = .ok (if h : (denL l).toArray.size = 1 then (denL l).toArray[0] else .tuple (denL l).toArray) w := by
    intro a w hs
    unfold results
    rw [Array.mapM_eq_mapM_toList, Sem.run_bind]
    have := hr a w hs
    have e : (fun x => match x with
      | ResultVar.tmp t => (pure (a.tmps.getD t undef) : Sem Value)
      | ResultVar.cell x t => do loadVar t (← asAddr (a.tmps.getD x undef))) = resF a.tmps := by
      funext x
      cases x <;> rfl
    simp only [map_eq_pure_bind, Sem.run_bind] at this ⊢
    erw [e, this]
    simp
  unfold oneTup at h
  split at h
  · exact ⟨_, h, fun a w hs => by rw [key a w hs]; simp [SV.den, denL]⟩
  · split at h
    · exact ⟨_, h, fun a w hs => by rw [key a w hs]; simp [SV.den, denL]⟩
    · exact ⟨_, h, fun a w hs => by rw [key a w hs]; simp [SV.den, denL]⟩

theorem argsF_get : ∀ (l : List SV) (i t : Nat), getT (argsF i l) t = if i ≤ t then (l[t - i]?).getD .any else .any
  | [], i, t => by simp [argsF, getT]
  | x :: r, i, t => by
    simp only [argsF, getT, argsF_get r (i + 1) t]
    by_cases h : i = t
    · subst h; simp
    · rw [if_neg h]
      by_cases h2 : i + 1 ≤ t
      · rw [if_pos h2, if_pos (by omega)]
        rw [show t - i = (t - (i + 1)) + 1 by omega]
        simp
      · rw [if_neg h2, if_neg (by omega)]

/-- What the call leaves. -/
def Ends (Γ : Ty) (rs : List ResultVar) (R : Ending → World → Prop) (e : Exit) (s : St) : Prop :=
  match e with
  | .normal => retK Γ s rs fun sv => ∀ w, SatH s w → R (.returned sv.den) w
  | .ret => retK Γ s rs fun sv => ∀ w, SatH s w → R (.returned sv.den) w
  | _ => False

theorem calls_rx {P : Program} {Γ : Ty} (hΓ : Γ.ok P) {f : FuncId} {fn : Func} {c : Code} {R : Ending → World → Prop} {w : World} (args : List SV) (hp : List (Nat × SO)) (fp : Nat → Prop) (res : World → Prop)
    (hf : P.funcs[f]? = some fn) (hb : fn.body = some c) (hl : args.length ≤ fn.ntmps)
    (hH : SatH ⟨fn.ntmps, argsF 0 args, hp, fp, res⟩ w)
    (h : VdT P [.code c] .normal ⟨fn.ntmps, argsF 0 args, hp, fp, res⟩ (Ends Γ fn.results.toList R)) : Calls P f (denL args).toArray w R := by
  refine calls_of_wp hf hb ?_
  have hs : Sat ⟨fn.ntmps, argsF 0 args, hp, fp, res⟩ { tmps := (denL args).toArray ++ Array.replicate (fn.ntmps - (denL args).toArray.size) undef, defers := [] } w := by
    refine ⟨by simp [denL_length]; omega, fun t ht => ?_, rfl, hH⟩
    simp only [argsF_get, Nat.zero_le, if_true, Nat.sub_zero] at ht ⊢
    cases hx : args[t]? with
    | none => rw [hx] at ht; simp [SV.known] at ht
    | some x =>
      have hlt : t < args.length := (List.getElem?_eq_some_iff.1 hx).1
      have : ((denL args).toArray ++ Array.replicate (fn.ntmps - (denL args).toArray.size) undef)[t]? = some x.den := by
        rw [Array.getElem?_append_left (by simp [denL_length]; exact hlt)]
        simp [denL_get, hx]
      rw [Array.getD_eq_getD_getElem?, this]
      rfl
  have := h.run (bodyPost P fn R) _ w hs (by
    intro e s' a' w' hK hs'
    cases e with
    | normal =>
      obtain ⟨sv, h1, h2⟩ := retK_ok hΓ hK
      exact ⟨hs'.df, _, h2 a' w' hs', h1 w' hs'.H⟩
    | ret =>
      obtain ⟨sv, h1, h2⟩ := retK_ok hΓ hK
      exact ⟨hs'.df, _, h2 a' w' hs', h1 w' hs'.H⟩
    | exit j => exact hK.elim
    | goto j => exact hK.elim
    | panic c => exact hK.elim
    | outgrown => exact hK.elim)
  exact this

/-- The plain case: nothing of what was there is touched. -/
theorem SatH.start (n : Nat) (tm : List (Nat × SV)) (w : World) : SatH ⟨n, tm, [], (· < w.heap.size), Below w.heap.size w⟩ w where
  nd := by simp
  obj := by intro i b o h; simp [getH] at h
  lt := by simp
  far := by intro i b cs t h; simp [getH] at h
  fpl := fun k h => h
  dep := fun w1 w2 hk h1 h2 h3 h4 hb => ⟨h1.trans hb.os, h2.trans hb.tape, h3.trans hb.output, Nat.le_trans hb.size h4, fun k hlt => (hk k hlt).trans (hb.block k hlt)⟩
  rs := Below.refl _ _
end Go.Proofs.RX
