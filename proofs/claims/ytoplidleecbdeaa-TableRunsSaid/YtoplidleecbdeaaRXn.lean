/- Calls and operations that turn what is known apart. -/
import Derived.Test.YtoplidleecbdeaaRXm
set_option linter.unusedVariables false
set_option linter.unusedSimpArgs false
namespace Go.Proofs.RX
open Go Go.RowKit Go.Maps Go.ChangeMaps

theorem SatH.keepR {s : St} {w w' : World} {M F' : Nat → Prop} {p' : World → Prop} (h : SatH s w) (hk : Keep M w w') (hM : ∀ k, M k → s.fp k) (hF : ∀ k, F' k → k < w'.heap.size ∧ (s.fp k ∨ w.heap.size ≤ k))
    (hd : Dep F' p') (hp : p' w') : SatH { s with fp := F', res := p' } w' where
  nd := h.nd
  obj := by
    intro i b o hi
    have hlt : b < w.heap.size := h.lt _ (getH_mem hi)
    cases o with
    | unk => trivial
    | cells cs t =>
      rw [hk.block b hlt (fun hm => h.far i b cs t hi (hM b hm))]
      exact h.obj i b _ hi
  lt := fun p hp => Nat.lt_of_lt_of_le (h.lt p hp) hk.size
  far := by
    intro i b cs t hi hb
    have hlt : b < w.heap.size := h.lt _ (getH_mem hi)
    rcases (hF b hb).2 with h1 | h1
    · exact h.far i b cs t hi h1
    · omega
  fpl := fun k hk' => (hF k hk').1
  dep := hd
  rs := hp
/-- What is known apart, told with fewer words, or other ones. -/
theorem SatH.weakR {s : St} {w : World} {F' : Nat → Prop} {p' : World → Prop} (h : SatH s w) (hF : ∀ k, F' k → s.fp k) (hd : Dep F' p') (hp : p' w) : SatH { s with fp := F', res := p' } w :=
  h.keepR (Keep.refl (fun _ => False) w) (fun k hk => hk.elim) (fun k hk => ⟨h.fpl k (hF k hk), .inl (hF k hk)⟩) hd hp
/-- A block goes over to what is known apart. -/
theorem SatH.give {s : St} {w : World} (h : SatH s w) {i b : Nat} {cs : List SV} {t : TypeId} (hi : getH s.hp i = some (b, .cells cs t)) :
    SatH { s with hp := setH s.hp i .unk, fp := fun k => s.fp k ∨ k = b, res := fun w => s.res w ∧ w.heap[b]? = some (.cells (denL cs).toArray t (0, 0)) } w where
  nd := by show ((setH s.hp i _).map (·.1)).Nodup; rw [setH_map]; exact h.nd
  obj := by
    intro j b' o hj
    simp only [getH_setH] at hj
    split at hj
    · rename_i e
      rw [hi] at hj
      simp only [Option.map_some, Option.some.injEq, Prod.mk.injEq] at hj
      obtain ⟨rfl, rfl⟩ := hj
      trivial
    · exact h.obj j b' o hj
  lt := by
    intro p hp
    obtain ⟨q, hq, e⟩ := mem_setH hp
    rw [← e]
    exact h.lt q hq
  far := by
    intro j b' cs' t' hj hb
    simp only [getH_setH] at hj
    split at hj
    · rw [hi] at hj
      simp at hj
    · rename_i e
      rcases hb with hb | rfl
      · exact h.far j b' cs' t' hj hb
      · exact e (nodup_fst h.nd hj hi rfl)
  fpl := by
    intro k hk
    rcases hk with hk | rfl
    · exact h.fpl k hk
    · exact h.lt _ (getH_mem hi)
  dep := by
    intro w1 w2 hk h1 h2 h3 h4 ⟨a, b⟩
    exact ⟨h.dep w1 w2 (fun k hk' => hk k (.inl hk')) h1 h2 h3 h4 a, (hk _ (.inr rfl)).trans b⟩
  rs := ⟨h.rs, h.obj i b _ hi⟩

theorem Keep.set {w : World} (b : Nat) (o : Obj) : Keep (fun k => k = b) w (setBlock w b o) := ⟨rfl, rfl, rfl, by simp [setBlock], fun k _ hk => setBlock_other w b k o hk⟩
theorem Keep.alloc {w : World} (M : Nat → Prop) (o : Obj) : Keep M w (w.alloc o) := Keep.of_below ((Below.refl _ _).alloc (Nat.le_refl _) _)

section
variable {P : Program} {Γ : Ty} {k : List It} {s : St} {K : Exit → St → Prop} {all r : List Oper} {o : Oper} {e : Exit}
theorem VdT.weakR {F' : Nat → Prop} {p' : World → Prop} (hF : ∀ k, F' k → s.fp k) (hd : Dep F' p') (hp : ∀ w, SatH s w → p' w) (h : VdT P k e { s with fp := F', res := p' } K) : VdT P k e s K :=
  VdT.wk (s' := { s with fp := F', res := p' }) (fun a w hs => hs.of_parts (s' := { s with fp := F', res := p' }) rfl rfl (hs.H.weakR hF hd (hp w hs.H))) h
theorem VdT.give {i b : Nat} {cs : List SV} {t : TypeId} (hi : getH s.hp i = some (b, .cells cs t))
    (h : VdT P k e { s with hp := setH s.hp i .unk, fp := fun k => s.fp k ∨ k = b, res := fun w => s.res w ∧ w.heap[b]? = some (.cells (denL cs).toArray t (0, 0)) } K) : VdT P k e s K :=
  VdT.wk (s' := { s with hp := setH s.hp i .unk, fp := fun k => s.fp k ∨ k = b, res := fun w => s.res w ∧ w.heap[b]? = some (.cells (denL cs).toArray t (0, 0)) }) (fun a w hs => hs.of_parts (s' := { s with hp := setH s.hp i .unk, fp := fun k => s.fp k ∨ k = b, res := fun w => s.res w ∧ w.heap[b]? = some (.cells (denL cs).toArray t (0, 0)) }) rfl rfl (hs.H.give hi)) h
/-- A call that turns what is known apart. -/
theorem VdT.callR {α : Type} {c : Call} {f : FuncId} {fn : Func} (hop : o.op = .call c) (hcal : c.callee = .value (.func f)) (hg : o.guard = none) (hf : P.funcs[f]? = some fn) (hb : fn.body.isNone = false) (hnm : (fn.name == "runtime.NumGoroutine") = false)
    (hk : knownL (evL s c.args.toList)) (hd : dstOk s o.dst) (sv : α → SV) (F' : α → Nat → Prop) (p' : α → World → Prop)
    (hc : ∀ w, SatH s w → Calls P f (denL (evL s c.args.toList)).toArray w fun e w' => ∃ x M, e = .returned (sv x).den ∧ (sv x).known = true ∧ Keep M w w' ∧ (∀ k, M k → s.fp k) ∧ p' x w' ∧ (∀ k, F' x k → k < w'.heap.size ∧ (s.fp k ∨ w.heap.size ≤ k)) ∧ Dep (F' x) (p' x))
    (h : ∀ x, VdT P (.ops all r :: k) .normal (({ s with fp := F' x, res := p' x } : St).put o.dst (sv x)) K) :
    VdT P (.ops all (o :: r) :: k) .normal s K :=
  VdT.callF hop hcal hg hf hb hnm hk fun w hw => (hc w hw).mono fun e w' ⟨x, M, he, hkn, hkp, hM, hp, hF, hdp⟩ =>
    ⟨sv x, { s with fp := F' x, res := p' x }, he, hkn, rfl, rfl, hw.keepR hkp hM hF hdp hp, hd, h x⟩
/-- An operation that turns what is known apart. -/
theorem VdT.effR {sv : SV} {F' : Nat → Prop} {p' : World → Prop} (hg : o.guard = none) (hd : dstOk s o.dst) (hdp : Dep F' p')
    (hy : ∀ a w, Sat s a w → ∃ w' M, ((execOp a.eval o).run P w = .ok (.value sv.den) w' ∨ ((execOp a.eval o).run P w = .ok .skip w' ∧ sv = .lit undef)) ∧ Keep M w w' ∧ (∀ k, M k → s.fp k) ∧ p' w' ∧ (∀ k, F' k → k < w'.heap.size ∧ (s.fp k ∨ w.heap.size ≤ k)))
    (h : VdT P (.ops all r :: k) .normal (({ s with fp := F', res := p' } : St).put o.dst sv) K) : VdT P (.ops all (o :: r) :: k) .normal s K :=
  VdT.eff (s' := { s with fp := F', res := p' }) hg hd rfl rfl (fun a w hs => by
    obtain ⟨w', M, hr, hkp, hM, hp, hF⟩ := hy a w hs
    exact ⟨w', hr, hs.H.keepR hkp hM hF hdp hp⟩) h
end
end Go.Proofs.RX
