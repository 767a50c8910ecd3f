/- Calls. -/
import Derived.Test.YtoplidleecbdeaaRXj
set_option linter.unusedVariables false
set_option linter.unusedSimpArgs false
namespace Go.Proofs.RX
open Go Go.RowKit

def evL (s : St) : List Operand → List SV
  | [] => []
  | x :: r => evO s x :: evL s r
theorem evL_map (s : St) (l : List Operand) : evL s l = l.map (evO s) := by
  induction l with
  | nil => rfl
  | cons x r ih => simp [evL, ih]
theorem knownL_mem {l : List SV} (h : knownL l) : ∀ v ∈ l, v.known = true := by
  induction l with
  | nil => simp
  | cons x r ih =>
    intro v hv
    rcases List.mem_cons.1 hv with rfl | hv
    · exact h.1
    · exact ih h.2 v hv
theorem SatH.below {s : St} {w w' : World} (h : SatH s w) (hb : Below w.heap.size w w') : SatH s w' where
  nd := h.nd
  obj := by
    intro i b o hi
    rw [hb.block b (h.lt _ (getH_mem hi))]
    exact h.obj i b o hi
  lt := fun p hp => Nat.lt_of_lt_of_le (h.lt p hp) hb.size
  far := h.far
  fpl := fun k hk => Nat.lt_of_lt_of_le (h.fpl k hk) hb.size
  dep := h.dep
  rs := h.dep w w' (fun k hF => hb.block k (h.fpl k hF)) hb.os hb.tape hb.output hb.size h.rs

section
variable {P : Program} {Γ : Ty} {k : List It} {s : St} {K : Exit → St → Prop} {all r : List Oper} {o : Oper}
theorem enter_of {c : Call} {f : FuncId} {fn : Func} (hop : o.op = .call c) (hcal : c.callee = .value (.func f)) (hf : P.funcs[f]? = some fn) (hb : fn.body.isNone = false) (hnm : (fn.name == "runtime.NumGoroutine") = false)
    (hk : knownL (evL s c.args.toList)) {a : Act} {w : World} (hs : Sat s a w) : (execOp a.eval o).run P w = .ok (.enter f (denL (evL s c.args.toList)).toArray) w := by
  have hargs : c.args.map a.eval = (denL (evL s c.args.toList)).toArray := by
    apply Array.toList_inj.1
    simp only [Array.toList_map]
    rw [denL_map, evL_map, List.map_map]
    exact List.map_congr_left (fun x hx => ev_ok hs x (knownL_mem hk _ (by rw [evL_map]; exact List.mem_map.2 ⟨x, hx, rfl⟩)))
  have h1 : ¬ fn.name = "runtime.NumGoroutine" := by simpa using hnm
  have h2 : ¬ fn.body = none := fun e => by simp [e] at hb
  simp [execOp, hop, resolve, hcal, Act.eval, Deferred.ofValue, invoke, callFunc, hf, h1, h2, hargs]
theorem VdT.callF {c : Call} {f : FuncId} {fn : Func} (hop : o.op = .call c) (hcal : c.callee = .value (.func f)) (hg : o.guard = none) (hf : P.funcs[f]? = some fn) (hb : fn.body.isNone = false) (hnm : (fn.name == "runtime.NumGoroutine") = false)
    (hk : knownL (evL s c.args.toList))
    (h : ∀ w, SatH s w → Calls P f (denL (evL s c.args.toList)).toArray w fun e w' => ∃ sv s', e = .returned sv.den ∧ sv.known = true ∧ s'.n = s.n ∧ s'.tm = s.tm ∧ SatH s' w' ∧ dstOk s o.dst ∧ VdT P (.ops all r :: k) .normal (s'.put o.dst sv) K) :
    VdT P (.ops all (o :: r) :: k) .normal s K :=
  VdT.call hg (fun a w hs => enter_of hop hcal hf hb hnm hk hs) h
/-- A call that leaves all that was there as it was; what it yields hangs on some x. -/
theorem VdT.callX {α : Type} {c : Call} {f : FuncId} {fn : Func} (hop : o.op = .call c) (hcal : c.callee = .value (.func f)) (hg : o.guard = none) (hf : P.funcs[f]? = some fn) (hb : fn.body.isNone = false) (hnm : (fn.name == "runtime.NumGoroutine") = false)
    (hk : knownL (evL s c.args.toList)) (hd : dstOk s o.dst) (sv : α → SV) (C : α → Prop)
    (hc : ∀ w, SatH s w → Calls P f (denL (evL s c.args.toList)).toArray w fun e w' => ∃ x, C x ∧ e = .returned (sv x).den ∧ Below w.heap.size w w')
    (h : ∀ x, C x → (sv x).known = true ∧ VdT P (.ops all r :: k) .normal (s.put o.dst (sv x)) K) :
    VdT P (.ops all (o :: r) :: k) .normal s K :=
  VdT.callF hop hcal hg hf hb hnm hk fun w hw => (hc w hw).mono fun e w' ⟨x, hx, he, hbl⟩ => ⟨sv x, s, he, (h x hx).1, rfl, rfl, hw.below hbl, hd, (h x hx).2⟩
/-- The same, what it yields being known. -/
theorem VdT.callA {c : Call} {f : FuncId} {fn : Func} (hop : o.op = .call c) (hcal : c.callee = .value (.func f)) (hg : o.guard = none) (hf : P.funcs[f]? = some fn) (hb : fn.body.isNone = false) (hnm : (fn.name == "runtime.NumGoroutine") = false)
    (hk : knownL (evL s c.args.toList)) (hd : dstOk s o.dst) (sv : SV) (hkn : sv.known = true)
    (hc : ∀ w, SatH s w → Calls P f (denL (evL s c.args.toList)).toArray w fun e w' => e = .returned sv.den ∧ Below w.heap.size w w')
    (h : VdT P (.ops all r :: k) .normal (s.put o.dst sv) K) :
    VdT P (.ops all (o :: r) :: k) .normal s K :=
  VdT.callX (α := Unit) hop hcal hg hf hb hnm hk hd (fun _ => sv) (fun _ => True) (fun w hw => (hc w hw).mono fun e w' ⟨he, hb⟩ => ⟨(), trivial, he, hb⟩) (fun _ _ => ⟨hkn, h⟩)
end
end Go.Proofs.RX
