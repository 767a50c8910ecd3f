/- Operations on maps that are known apart. -/
import Derived.Test.YtoplidleecbdeaaRXn
set_option linter.unusedVariables false
set_option linter.unusedSimpArgs false
namespace Go.Proofs.RX
open Go Go.RowKit Go.Maps Go.ChangeMaps

theorem Dep.mono {F F' : Nat → Prop} {p : World → Prop} (h : Dep F p) (hF : ∀ k, F k → F' k) : Dep F' p := fun w w' hk => h w w' (fun k hk' => hk k (hF k hk'))
theorem Dep.and2 {F : Nat → Prop} {p q : World → Prop} (hp : Dep F p) (hq : Dep F q) : Dep F (fun w => p w ∧ q w) := fun w w' hk h1 h2 h3 h4 ⟨a, b⟩ => ⟨hp w w' hk h1 h2 h3 h4 a, hq w w' hk h1 h2 h3 h4 b⟩
theorem Dep.ex {α : Type} {F : Nat → Prop} {p : α → World → Prop} (h : ∀ x, Dep F (p x)) : Dep F (fun w => ∃ x, p x w) := fun w w' hk h1 h2 h3 h4 ⟨x, hx⟩ => ⟨x, h x w w' hk h1 h2 h3 h4 hx⟩
theorem Dep.pure (F : Nat → Prop) (q : Prop) : Dep F (fun _ => q) := fun _ _ _ _ _ _ _ h => h
theorem Dep.blk {F : Nat → Prop} {b : Nat} {o : Obj} (h : F b) : Dep F (fun w => w.heap[b]? = some o) := fun w w' hk _ _ _ _ hb => (hk b h).trans hb

section
variable {P : Program} {Γ : Ty} {k : List It} {s : St} {K : Exit → St → Prop} {all r : List Oper} {o : Oper} {kt e t : TypeId} {m : Nat} {x v : Value} {X Y Z : Operand}
/-- 'm[x]', x being there. -/
theorem VdT.lookHit (Kd : Keyed P kt) (ht : P.underlying t = some (.map kt e)) (hop : o.op = .lookup t X Y false) (hg : o.guard = none) (hd : dstOk s o.dst) (hX : evO s X = .lit (.map (some m))) {y : SV} (hY : evO s Y = y) (hyk : y.known = true) (hyd : y.den = x)
    (hm : ∀ w, SatH s w → ∃ D, MapD P kt m D w ∧ IsK P kt x ∧ (x, v) ∈ D) (h : VdT P (.ops all r :: k) .normal (s.put o.dst (.lit v)) K) : VdT P (.ops all (o :: r) :: k) .normal s K :=
  VdT.val hg hd rfl (fun o' a w ho' hs => by
    obtain ⟨D, h1, h2, h3⟩ := hm w hs.H
    have eX := ev_ok hs X (by rw [hX]; rfl)
    have eY := ev_ok hs Y (by rw [hY]; exact hyk)
    rw [hX] at eX
    rw [hY, hyd] at eY
    simp only [SV.den] at eX
    rw [hop] at ho'
    simp [execOp, ho', eX, eY, run_lookup_hit Kd ht h1 h2 h3 false, SV.den]) h
/-- .. not being there. -/
theorem VdT.lookMiss (Kd : Keyed P kt) (ht : P.underlying t = some (.map kt e)) (hop : o.op = .lookup t X Y false) (hg : o.guard = none) (hd : dstOk s o.dst) (hX : evO s X = .lit (.map (some m))) {y : SV} (hY : evO s Y = y) (hyk : y.known = true) (hyd : y.den = x)
    (hz : ∀ w, (zeroValue e).run P w = .ok v w)
    (hm : ∀ w, SatH s w → ∃ D, MapD P kt m D w ∧ IsK P kt x ∧ ∀ p ∈ D, p.1 ≠ x) (h : VdT P (.ops all r :: k) .normal (s.put o.dst (.lit v)) K) : VdT P (.ops all (o :: r) :: k) .normal s K :=
  VdT.val hg hd rfl (fun o' a w ho' hs => by
    obtain ⟨D, h1, h2, h3⟩ := hm w hs.H
    have eX := ev_ok hs X (by rw [hX]; rfl)
    have eY := ev_ok hs Y (by rw [hY]; exact hyk)
    rw [hX] at eX
    rw [hY, hyd] at eY
    simp only [SV.den] at eX
    rw [hop] at ho'
    simp [execOp, ho', eX, eY, run_lookup_miss Kd ht h1 h2 h3 (hz w) false, SV.den]) h
/-- 'len(m)'. -/
theorem VdT.lenMap {n : Nat} (ht : P.underlying t = some (.map kt e)) (hop : o.op = .call { callee := .builtin .len, args := #[X], argTypes := #[t] }) (hg : o.guard = none) (hd : dstOk s o.dst) (hX : evO s X = .lit (.map (some m)))
    (hm : ∀ w, SatH s w → ∃ D, MapD P kt m D w ∧ D.length = n) (h : VdT P (.ops all r :: k) .normal (s.put o.dst (.lit (.int .i64 n))) K) : VdT P (.ops all (o :: r) :: k) .normal s K :=
  VdT.val hg hd rfl (fun o' a w ho' hs => by
    obtain ⟨D, h1, h2⟩ := hm w hs.H
    have eX := ev_ok hs X (by rw [hX]; rfl)
    rw [hX] at eX
    simp only [SV.den] at eX
    rw [hop] at ho'
    have := run_len_map ht h1 o'.type
    rw [h2] at this
    simp only [execOp, ho', resolve, invoke, builtin, Sem.run_bind, Sem.run_pure, Result.andThen_ok, List.map_toArray, List.map_cons, List.map_nil, eX, this, SV.den]) h
/-- 'delete(m, x)', x being there. -/
theorem VdT.mapDel {F' : Nat → Prop} {p' : World → Prop} {t' : TypeId} (Kd : Keyed P kt) (ht : P.underlying t = some (.map kt e)) (hop : o.op = .call { callee := .builtin .delete, args := #[X, Y], argTypes := #[t, t'] }) (hg : o.guard = none) (hd : dstOk s o.dst) (hX : evO s X = .lit (.map (some m))) {y : SV} (hY : evO s Y = y) (hyk : y.known = true) (hyd : y.den = x)
    (hdp : Dep F' p') (hfm : s.fp m) (hF : ∀ k, F' k → s.fp k)
    (hm : ∀ w, SatH s w → ∃ A B v, MapD P kt m (A ++ (x, v) :: B) w ∧ IsK P kt x ∧ ∀ w', MapD P kt m (A ++ B) w' → Keep (fun k => k = m) w w' → p' w')
    (h : VdT P (.ops all r :: k) .normal (({ s with fp := F', res := p' } : St).put o.dst (.lit (.tuple #[]))) K) : VdT P (.ops all (o :: r) :: k) .normal s K :=
  VdT.effR hg hd hdp (fun a w hs => by
    obtain ⟨A, B, v, h1, h2, h3⟩ := hm w hs.H
    have eX := ev_ok hs X (by rw [hX]; rfl)
    have eY := ev_ok hs Y (by rw [hY]; exact hyk)
    rw [hX] at eX
    rw [hY, hyd] at eY
    simp only [SV.den] at eX
    obtain ⟨ob, hr, hM⟩ := run_delete_hit Kd ht h1 h2 rfl o.type t'
    refine ⟨_, fun k => k = m, .inl ?_, Keep.set m ob, fun k hk => hk ▸ hfm, h3 _ hM (Keep.set m ob), fun k hk => ⟨?_, .inl (hF k hk)⟩⟩
    · simp only [execOp, hop, resolve, invoke, builtin, Sem.run_bind, Sem.run_pure, Result.andThen_ok, List.map_toArray, List.map_cons, List.map_nil, eX, eY, hr, SV.den]
    · exact Nat.lt_of_lt_of_le (hs.H.fpl k (hF k hk)) (Keep.set m ob).size) h
/-- 'm[x] = z', x not being there. -/
theorem VdT.mapNew {F' : Nat → Prop} {p' : World → Prop} (Kd : Keyed P kt) (ht : P.underlying t = some (.map kt e)) (hop : o.op = .mapUpdate t X Y Z ∨ o.op = .insert t X Y Z) (hg : o.guard = none) (hd : dstOk s o.dst) (hX : evO s X = .lit (.map (some m))) {y z : SV} (hY : evO s Y = y) (hyk : y.known = true) (hyd : y.den = x)
    (hZ : evO s Z = z) (hzk : z.known = true) (hzd : z.den = v)
    (hdp : Dep F' p') (hfm : s.fp m) (hF : ∀ k, F' k → s.fp k)
    (hm : ∀ w, SatH s w → ∃ D, MapD P kt m D w ∧ IsK P kt x ∧ (∀ p ∈ D, p.1 ≠ x) ∧ ∀ w', MapD P kt m (D ++ [(x, v)]) w' → Keep (fun k => k = m) w w' → p' w')
    (h : VdT P (.ops all r :: k) .normal (({ s with fp := F', res := p' } : St).put o.dst (.lit undef)) K) : VdT P (.ops all (o :: r) :: k) .normal s K :=
  VdT.effR hg hd hdp (fun a w hs => by
    obtain ⟨D, h1, h2, h3, h4⟩ := hm w hs.H
    have eX := ev_ok hs X (by rw [hX]; rfl)
    have eY := ev_ok hs Y (by rw [hY]; exact hyk)
    have eZ := ev_ok hs Z (by rw [hZ]; exact hzk)
    rw [hX] at eX
    rw [hY, hyd] at eY
    rw [hZ, hzd] at eZ
    simp only [SV.den] at eX
    obtain ⟨ob, hr, hM⟩ := run_update_new Kd ht h1 (v := v) h2 h3
    refine ⟨_, fun k => k = m, .inr ⟨?_, rfl⟩, Keep.set m ob, fun k hk => hk ▸ hfm, h4 _ hM (Keep.set m ob), fun k hk => ⟨?_, .inl (hF k hk)⟩⟩
    · rcases hop with hop | hop <;>
      simp [execOp, hop, eX, eY, eZ, hr]
    · exact Nat.lt_of_lt_of_le (hs.H.fpl k (hF k hk)) (Keep.set m ob).size) h
end
end Go.Proofs.RX
namespace Go.Proofs.RX
open Go Go.RowKit
theorem Dep.old {w : World} {F : Nat → Prop} {p : World → Prop} (h : Dep F p) (hF : ∀ k, F k → k < w.heap.size) : Dep (fun k => k < w.heap.size) p := h.mono hF
theorem cell_add {w : World} {b : Nat} {cs : Array Value} {t : TypeId} (h : w.heap[b]? = some (.cells cs t (0, 0))) (j : Nat) : w.cell? ((⟨b, 0, none⟩ : Addr).add j) = cs[j]? := by
  rw [add_none, Nat.zero_add]
  exact cell_of_row w b j _ t (0, 0) h
theorem cell_add2 {w : World} {b : Nat} {cs : Array Value} {t : TypeId} (h : w.heap[b]? = some (.cells cs t (0, 0))) (i j : Nat) : w.cell? (((⟨b, 0, none⟩ : Addr).add i).add j) = cs[i + j]? := by
  rw [add_none, add_none, Nat.zero_add]
  exact cell_of_row w b (i + j) _ t (0, 0) h
end Go.Proofs.RX
