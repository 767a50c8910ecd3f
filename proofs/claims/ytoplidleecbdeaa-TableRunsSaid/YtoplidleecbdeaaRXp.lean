/- A block that was known apart is told whole. -/
import Derived.Test.YtoplidleecbdeaaRXo
set_option linter.unusedVariables false
set_option linter.unusedSimpArgs false
namespace Go.Proofs.RX
open Go Go.RowKit Go.Maps Go.ChangeMaps

def allC : List (Nat × SO) → Prop
  | [] => True
  | (_, .cells _ _) :: r => allC r
  | (_, .unk) :: _ => False
theorem allC_mem : ∀ {l : List (Nat × SO)}, allC l → ∀ p ∈ l, ∃ cs t, p.2 = .cells cs t
  | [], _, p, hp => by simp at hp
  | (b, .cells cs t) :: r, h, p, hp => by
    rcases List.mem_cons.1 hp with rfl | hp
    · exact ⟨cs, t, rfl⟩
    · exact allC_mem (l := r) h p hp
  | (b, .unk) :: r, h, p, hp => by exact absurd h (by simp [allC])
theorem SatH.take {s : St} {w : World} {b : Nat} {cs : List SV} {t : TypeId} {F' : Nat → Prop} {p' : World → Prop} (h : SatH s w) (hc : allC s.hp) (hb : w.heap[b]? = some (.cells (denL cs).toArray t (0, 0))) (hfb : s.fp b)
    (hF : ∀ k, F' k → s.fp k ∧ k ≠ b) (hd : Dep F' p') (hp : p' w) : SatH { s with hp := s.hp ++ [(b, .cells cs t)], fp := F', res := p' } w := by
  have hne : ∀ p ∈ s.hp, p.1 ≠ b := by
    intro p hp e
    obtain ⟨cs', t', hcs⟩ := allC_mem hc p hp
    obtain ⟨i, hi⟩ := List.getElem?_of_mem hp
    exact h.far i p.1 cs' t' (by rw [getH_get, hi]; rw [← hcs]) (e ▸ hfb)
  have hlt : b < w.heap.size := h.fpl b hfb
  have hget : ∀ i q, getH (s.hp ++ [(b, SO.cells cs t)]) i = some q → getH s.hp i = some q ∨ q = (b, .cells cs t) := by
    intro i q hi
    rw [getH_get] at hi
    rcases Nat.lt_or_ge i s.hp.length with hl | hl
    · rw [List.getElem?_append_left hl] at hi
      exact .inl (by rw [getH_get]; exact hi)
    · rw [List.getElem?_append_right hl] at hi
      have := List.mem_of_getElem? hi
      simp at this
      exact .inr this
  constructor
  · simp only [List.map_append, List.map_cons, List.map_nil]
    refine List.nodup_append.2 ⟨h.nd, by simp, ?_⟩
    intro a ha c hc'
    simp only [List.mem_singleton] at hc'
    obtain ⟨p, hp, rfl⟩ := List.mem_map.1 ha
    rw [hc']
    exact hne p hp
  · intro i b' o hi
    rcases hget i _ hi with hi | hi
    · exact h.obj i b' o hi
    · cases hi
      exact hb
  · intro p hp
    rcases List.mem_append.1 hp with hp | hp
    · exact h.lt p hp
    · simp at hp
      rw [hp]
      exact hlt
  · intro i b' cs' t' hi hfp
    rcases hget i _ hi with hi | hi
    · exact h.far i b' cs' t' hi (hF _ hfp).1
    · cases hi
      exact (hF _ hfp).2 rfl
  · exact fun k hk => h.fpl k (hF k hk).1
  · exact hd
  · exact hp
section
variable {P : Program} {k : List It} {s : St} {K : Exit → St → Prop} {e : Exit}
theorem VdT.take {b : Nat} {cs : List SV} {t : TypeId} {F' : Nat → Prop} {p' : World → Prop} (hc : allC s.hp) (hb : ∀ w, SatH s w → w.heap[b]? = some (.cells (denL cs).toArray t (0, 0)) ∧ p' w) (hfb : s.fp b)
    (hF : ∀ k, F' k → s.fp k ∧ k ≠ b) (hd : Dep F' p') (h : VdT P k e { s with hp := s.hp ++ [(b, .cells cs t)], fp := F', res := p' } K) : VdT P k e s K :=
  VdT.wk (s' := { s with hp := s.hp ++ [(b, .cells cs t)], fp := F', res := p' }) (fun a w hs => hs.of_parts (s' := { s with hp := s.hp ++ [(b, .cells cs t)], fp := F', res := p' }) rfl rfl (hs.H.take hc (hb w hs.H).1 hfb hF hd (hb w hs.H).2)) h
/-- A temporary is told in other words. -/
theorem VdT.retell (t : Nat) (sv : SV) (hk : (getT s.tm t).known = true) (hd : (getT s.tm t).den = sv.den) (h : VdT P k e { s with tm := (t, sv) :: s.tm } K) : VdT P k e s K :=
  VdT.wk (s' := { s with tm := (t, sv) :: s.tm }) (fun a w hs => ⟨hs.sz, fun t' hk' => by
    simp only [getT] at hk' ⊢
    by_cases he : t = t'
    · subst he
      rw [if_pos rfl] at hk' ⊢
      rw [← hd]
      exact hs.fr t hk
    · rw [if_neg he] at hk' ⊢
      exact hs.fr t' hk', hs.df, ⟨hs.H.nd, hs.H.obj, hs.H.lt, hs.H.far, hs.H.fpl, hs.H.dep, hs.H.rs⟩⟩) h
end
end Go.Proofs.RX
