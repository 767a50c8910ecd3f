/- Fewer words; new things that are known apart. -/
import Derived.Test.YtoplidleecbdeaaRXp
import Derived.Carry
set_option linter.unusedVariables false
set_option linter.unusedSimpArgs false
namespace Go.Proofs.RX
open Go Go.RowKit Go.Maps Go.ChangeMaps

def keepT (tm : List (Nat × SV)) : List (Nat × SV) → Prop
  | [] => True
  | (t, v) :: r => getT tm t = v ∧ keepT tm r
theorem keepT_get {tm : List (Nat × SV)} : ∀ {tm' : List (Nat × SV)}, keepT tm tm' → ∀ t, (getT tm' t).known = true → getT tm t = getT tm' t
  | [], _, t, h => by simp [getT, SV.known] at h
  | (t', v) :: r, hk, t, h => by
    simp only [getT] at h ⊢
    by_cases he : t' = t
    · rw [if_pos he]; rw [← he]; exact hk.1
    · rw [if_neg he] at h ⊢; exact keepT_get hk.2 t h
/-- Fewer words: the tracked blocks go. -/
theorem Sat.cut {s s' : St} {a : Act} {w : World} (hs : Sat s a w) (hn : s'.n = s.n) (ht : keepT s.tm s'.tm) (hh : s'.hp = []) (hF : ∀ k, s'.fp k → s.fp k) (hd : Dep s'.fp s'.res) (hp : s'.res w) : Sat s' a w where
  sz := by rw [hn]; exact hs.sz
  fr := fun t hk => by
    have h := keepT_get ht t hk
    rw [← h] at hk ⊢
    exact hs.fr t hk
  df := hs.df
  H := by
    refine ⟨by rw [hh]; simp, fun i b o hi => by rw [hh] at hi; simp [getH] at hi, fun p hp => by rw [hh] at hp; simp at hp, fun i b cs t hi => by rw [hh] at hi; simp [getH] at hi, fun k hk => hs.H.fpl k (hF k hk), hd, hp⟩
section
variable {P : Program} {k : List It} {s : St} {K : Exit → St → Prop} {all r : List Oper} {o : Oper} {e : Exit}
theorem VdT.cut (s' : St) (hn : s'.n = s.n) (ht : keepT s.tm s'.tm) (hh : s'.hp = []) (hF : ∀ k, s'.fp k → s.fp k) (hd : Dep s'.fp s'.res) (hp : ∀ w, SatH s w → s'.res w) (h : VdT P k e s' K) : VdT P k e s K :=
  VdT.wk (fun a w hs => hs.cut hn ht hh hF hd (hp w hs.H)) h
/-- An operation that makes something known apart. -/
theorem VdT.effX {α : Type} {sv : α → SV} {F' : α → Nat → Prop} {p' : α → World → Prop} (hg : o.guard = none) (hd : dstOk s o.dst) (hdp : ∀ x, Dep (F' x) (p' x))
    (hy : ∀ a w, Sat s a w → ∃ x w' M, ((execOp a.eval o).run P w = .ok (.value (sv x).den) w' ∨ ((execOp a.eval o).run P w = .ok .skip w' ∧ sv x = .lit undef)) ∧ Keep M w w' ∧ (∀ k, M k → s.fp k) ∧ p' x w' ∧ (∀ k, F' x k → k < w'.heap.size ∧ (s.fp k ∨ w.heap.size ≤ k)))
    (h : ∀ x, VdT P (.ops all r :: k) .normal (({ s with fp := F' x, res := p' x } : St).put o.dst (sv x)) K) : VdT P (.ops all (o :: r) :: k) .normal s K :=
  VdT.op (fun a w hs => by simp [Region.wanted, hg]) fun a w hs => by
    obtain ⟨x, w', M, hr, hkp, hM, hp, hF⟩ := hy a w hs
    have hH : SatH { s with fp := F' x, res := p' x } w' := hs.H.keepR hkp hM hF (hdp x) hp
    refine ⟨(sv x).den, w', _, ?_, (hs.of_parts (s' := { s with fp := F' x, res := p' x }) rfl rfl hH).put (dstOk_of hd rfl) (sv x) _ (fun _ => rfl), h x⟩
    rcases hr with hr | ⟨hr, he⟩
    · exact .inl hr
    · rw [he]; exact .inr ⟨hr, rfl⟩
/-- 'make(map)'. -/
theorem VdT.mkMap {kt e : TypeId} {t : TypeId} {F : Nat → Prop} {p : World → Prop} (ht : P.underlying t = some (.map kt e)) (hop : o.op = .makeMap t none) (hg : o.guard = none) (hd : dstOk s o.dst)
    (hfp : s.fp = F) (hres : s.res = p)
    (h : ∀ m, VdT P (.ops all r :: k) .normal (({ s with fp := fun k => F k ∨ k = m, res := fun w => p w ∧ MapD P kt m [] w ∧ ∀ k, F k → k ≠ m } : St).put o.dst (.lit (.map (some m)))) K) : VdT P (.ops all (o :: r) :: k) .normal s K := by
  subst hfp hres
  by_cases hall : ∃ a w, Sat s a w
  · obtain ⟨a0, w0, hs0⟩ := hall
    have hdep := hs0.H.dep
    refine VdT.effX (sv := fun m => .lit (.map (some m))) (F' := fun m k => s.fp k ∨ k = m) (p' := fun m w => s.res w ∧ MapD P kt m [] w ∧ ∀ k, s.fp k → k ≠ m) hg hd (fun m => ?_) ?_ h
    · exact (hdep.mono (fun k hk => .inl hk)).and2 (((MapD.dep P kt m []).mono (fun k hk => .inr hk)).and2 (Dep.pure _ _))
    · intro a w hs
      refine ⟨w.heap.size, w.alloc (.map #[] 0), fun _ => False, .inl ?_, Keep.alloc _ _, fun k hk => hk.elim, ⟨?_, MapD.made P kt w, ?_⟩, ?_⟩
      · have := run_makeMap (P := P) t w
        simp [execOp, hop, SV.den, this]
      · exact hs.H.dep w _ (fun k hk => (Keep.alloc (fun _ => False) _).block k (hs.H.fpl k hk) (fun h => h)) rfl rfl rfl (Keep.alloc (fun _ => False) _).size hs.H.rs
      · intro k hk e
        have := hs.H.fpl k hk
        omega
      · intro k hk
        rcases hk with hk | rfl
        · exact ⟨Nat.lt_of_lt_of_le (hs.H.fpl k hk) (Keep.alloc (fun _ => False) _).size, .inl hk⟩
        · exact ⟨by simp, .inr (Nat.le_refl _)⟩
  · refine .mk fun Q a w hs _ => ?_
    exact absurd ⟨a, w, hs⟩ hall
end
end Go.Proofs.RX
