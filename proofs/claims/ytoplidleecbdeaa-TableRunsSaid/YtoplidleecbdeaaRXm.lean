/- Maps, told as lists of keys and values. -/
import Derived.Test.YtoplidleecbdeaaRXl
import Derived.Maps.Keyed
set_option linter.unusedVariables false
set_option linter.unusedSimpArgs false
namespace Go.Proofs.RX
open Go Go.RowKit Go.Maps Go.ChangeMaps

/-- A key that may be. -/
def IsK (P : Program) (kt : TypeId) (x : Value) : Prop := ∃ l, keyOf P kt x = some l
/-- Block m is a map with these keys and values. -/
def MapD (P : Program) (kt : TypeId) (m : Nat) (D : List (Value × Value)) (w : World) : Prop :=
  ∃ es clock, w.heap[m]? = some (.map es clock) ∧ es.toList.map (fun e => (e.key, e.val)) = D ∧ (∀ p ∈ D, IsK P kt p.1) ∧ (D.map (·.1)).Nodup
theorem MapD.dep (P : Program) (kt : TypeId) (m : Nat) (D : List (Value × Value)) : Dep (fun k => k = m) (MapD P kt m D) := by
  intro w w' hk _ _ _ _ h
  obtain ⟨es, clock, hb, h⟩ := h
  exact ⟨es, clock, (hk m rfl).trans hb, h⟩
theorem MapD.lt {P : Program} {kt : TypeId} {m : Nat} {D : List (Value × Value)} {w : World} (h : MapD P kt m D w) : m < w.heap.size := by
  obtain ⟨es, clock, hb, _⟩ := h
  exact (Array.getElem?_eq_some_iff.1 hb).1

section
variable {P : Program} {kt e t : TypeId} {m : Nat} {D : List (Value × Value)} {w : World}
theorem find_of (K : Keyed P kt) {es : Array MapEntry} (hes : es.toList.map (fun e => (e.key, e.val)) = D) (hk : ∀ p ∈ D, IsK P kt p.1) {x : Value} (hx : IsK P kt x) (w : World) :
    ((Instr.findKey kt x es.toList).run P w = .ok none w ∧ ∀ p ∈ D, p.1 ≠ x) ∨ ∃ j v, (Instr.findKey kt x es.toList).run P w = .ok (some (j, v)) w ∧ D[j]? = some (x, v) := by
  obtain ⟨lx, hlx⟩ := hx
  rcases K.find w hlx es.toList (fun e he => hk (e.key, e.val) (by rw [← hes]; exact List.mem_map.2 ⟨e, he, rfl⟩)) with ⟨h1, h2⟩ | ⟨j, e0, h1, h2, h3⟩
  · refine .inl ⟨h1, fun p hp => ?_⟩
    rw [← hes] at hp
    obtain ⟨e1, he1, rfl⟩ := List.mem_map.1 hp
    exact h2 e1 he1
  · refine .inr ⟨j, e0.val, h1, ?_⟩
    rw [← hes, List.getElem?_map, h2, ← h3]
    rfl
theorem unique_key (hn : (D.map (·.1)).Nodup) {i j : Nat} {x v u : Value} (hi : D[i]? = some (x, v)) (hj : D[j]? = some (x, u)) : i = j := by
  have h1 : (D.map (·.1))[i]? = some x := by simp [hi]
  have h2 : (D.map (·.1))[j]? = some x := by simp [hj]
  have hil : i < (D.map (·.1)).length := (List.getElem?_eq_some_iff.1 h1).1
  exact (List.getElem?_inj hil hn).1 (h1.trans h2.symm)

/-- 'm[x]' where x is there. -/
theorem run_lookup_hit (K : Keyed P kt) (ht : P.underlying t = some (.map kt e)) (h : MapD P kt m D w) {x v : Value} (hx : IsK P kt x) (hm : (x, v) ∈ D) (ok : Bool) :
    (Instr.lookup t (.map (some m)) x ok).run P w = .ok (if ok then .tuple #[v, .bool true] else v) w := by
  obtain ⟨es, clock, hb, hes, hk, hn⟩ := h
  obtain ⟨lx, hlx⟩ := hx
  rcases find_of K hes hk ⟨lx, hlx⟩ w with ⟨h1, h2⟩ | ⟨j, u, h1, h2⟩
  · exact absurd rfl (h2 _ hm)
  · obtain ⟨i, hi⟩ := List.getElem?_of_mem hm
    have := unique_key hn hi h2
    subst this
    rw [hi] at h2
    cases h2
    cases ok <;> simp [Instr.lookup, run_underlying ht, MapKept.run_getObj_map hb, K.check w es.isEmpty hlx, h1]
/-- .. where it is not. -/
theorem run_lookup_miss (K : Keyed P kt) (ht : P.underlying t = some (.map kt e)) (h : MapD P kt m D w) {x z : Value} (hx : IsK P kt x) (hm : ∀ p ∈ D, p.1 ≠ x) (hz : (zeroValue e).run P w = .ok z w) (ok : Bool) :
    (Instr.lookup t (.map (some m)) x ok).run P w = .ok (if ok then .tuple #[z, .bool false] else z) w := by
  obtain ⟨es, clock, hb, hes, hk, hn⟩ := h
  obtain ⟨lx, hlx⟩ := hx
  rcases find_of K hes hk ⟨lx, hlx⟩ w with ⟨h1, h2⟩ | ⟨j, u, h1, h2⟩
  · cases ok <;> simp [Instr.lookup, run_underlying ht, MapKept.run_getObj_map hb, K.check w es.isEmpty hlx, h1, hz]
  · exact absurd rfl (hm _ (List.mem_of_getElem? h2))

theorem setBlock_other (w : World) (b k : Nat) (o : Obj) (h : k ≠ b) : (setBlock w b o).heap[k]? = w.heap[k]? := by
  simp only [setBlock, Array.getElem?_setIfInBounds]
  rw [if_neg (by omega)]
theorem setBlock_same {w : World} {b : Nat} {o : Obj} (h : b < w.heap.size) : (setBlock w b o).heap[b]? = some o := by
  simp [setBlock, h]

/-- 'm[x] = v' where x is not there. -/
theorem run_update_new (K : Keyed P kt) (ht : P.underlying t = some (.map kt e)) (h : MapD P kt m D w) {x v : Value} (hx : IsK P kt x) (hm : ∀ p ∈ D, p.1 ≠ x) :
    ∃ o, (Instr.mapUpdate t (.map (some m)) x v).run P w = .ok () (setBlock w m o) ∧ MapD P kt m (D ++ [(x, v)]) (setBlock w m o) := by
  have hlt := h.lt
  obtain ⟨es, clock, hb, hes, hk, hn⟩ := h
  obtain ⟨lx, hlx⟩ := hx
  rcases find_of K hes hk ⟨lx, hlx⟩ w with ⟨h1, h2⟩ | ⟨j, u, h1, h2⟩
  · refine ⟨.map (es.push ⟨x, v, clock⟩) (clock + 1), ?_, es.push ⟨x, v, clock⟩, clock + 1, setBlock_same hlt, by simp [hes], ?_, ?_⟩
    · simp [Instr.mapUpdate, run_underlying ht, MapKept.run_getObj_map hb, K.check w false hlx, h1, MapKept.run_setObj_map _ hb, setBlock]
    · intro p hp
      rcases List.mem_append.1 hp with hp | hp
      · exact hk p hp
      · simp at hp; subst hp; exact ⟨lx, hlx⟩
    · simp only [List.map_append, List.map_cons, List.map_nil]
      refine List.nodup_append.2 ⟨hn, by simp, ?_⟩
      intro a ha b hb'
      simp only [List.mem_singleton] at hb'
      obtain ⟨p, hp, rfl⟩ := List.mem_map.1 ha
      rw [hb']
      exact hm p hp
  · exact absurd rfl (hm _ (List.mem_of_getElem? h2))
/-- 'm[x] = v' where x is there: in its place. -/
theorem run_update_old (K : Keyed P kt) (ht : P.underlying t = some (.map kt e)) (h : MapD P kt m D w) {x v u : Value} {A B : List (Value × Value)} (hx : IsK P kt x) (hm : D = A ++ (x, u) :: B) :
    ∃ o, (Instr.mapUpdate t (.map (some m)) x v).run P w = .ok () (setBlock w m o) ∧ MapD P kt m (A ++ (x, v) :: B) (setBlock w m o) := by
  have hlt := h.lt
  obtain ⟨es, clock, hb, hes, hk, hn⟩ := h
  obtain ⟨lx, hlx⟩ := hx
  have hat : D[A.length]? = some (x, u) := by rw [hm]; simp
  rcases find_of K hes hk ⟨lx, hlx⟩ w with ⟨h1, h2⟩ | ⟨j, y, h1, h2⟩
  · exact absurd rfl (h2 _ (List.mem_of_getElem? hat))
  · have hj := unique_key hn hat h2
    subst hj
    have hke : (((es[A.length]?).map (·.key)).getD x) = x := by
      have : (es.toList.map (fun e => (e.key, e.val)))[A.length]? = some (x, u) := by rw [hes]; exact hat
      rw [List.getElem?_map] at this
      obtain ⟨e0, he0, he1⟩ := Option.map_eq_some_iff.1 this
      simp only [Array.getElem?_toList] at he0
      simp only [Prod.mk.injEq] at he1
      simp [he0, he1.1]
    have hkeys : (A ++ (x, v) :: B).map (·.1) = D.map (·.1) := by rw [hm]; simp
    refine ⟨.map (es.modify A.length fun e => { e with key := x, val := v }) clock, ?_, _, clock, setBlock_same hlt, ?_, ?_, by rw [hkeys]; exact hn⟩
    · simp [Instr.mapUpdate, run_underlying ht, MapKept.run_getObj_map hb, K.check w false hlx, h1, MapKept.run_setObj_map _ hb, setBlock, hke, K.stays w hlx]
    · apply List.ext_getElem?
      intro i
      have hi : (es.toList.map (fun e => (e.key, e.val)))[i]? = D[i]? := by rw [hes]
      rw [List.getElem?_map, Array.getElem?_toList] at hi
      rw [List.getElem?_map, Array.getElem?_toList, Array.getElem?_modify]
      by_cases hc : A.length = i
      · subst hc
        simp only [if_true]
        rw [hat] at hi
        obtain ⟨e0, he0, _⟩ := Option.map_eq_some_iff.1 hi
        simp [he0]
      · rw [if_neg hc, hi, hm]
        rcases Nat.lt_or_ge i A.length with hl | hl
        · rw [List.getElem?_append_left hl, List.getElem?_append_left hl]
        · rw [List.getElem?_append_right hl, List.getElem?_append_right hl]
          rw [show i - A.length = (i - A.length - 1) + 1 by omega]
          simp
    · intro p hp
      have : p.1 ∈ (A ++ (x, v) :: B).map (·.1) := List.mem_map.2 ⟨p, hp, rfl⟩
      rw [hkeys] at this
      obtain ⟨q, hq, e⟩ := List.mem_map.1 this
      rw [← e]
      exact hk q hq
/-- 'delete(m, x)' where x is there. -/
theorem run_delete_hit (K : Keyed P kt) (ht : P.underlying t = some (.map kt e)) (h : MapD P kt m D w) {x v : Value} {A B : List (Value × Value)} (hx : IsK P kt x) (hm : D = A ++ (x, v) :: B) (ty t' : TypeId) :
    ∃ o, (Builtin.delete_ #[t, t'] ty #[.map (some m), x]).run P w = .ok (.tuple #[]) (setBlock w m o) ∧ MapD P kt m (A ++ B) (setBlock w m o) := by
  have hlt := h.lt
  obtain ⟨es, clock, hb, hes, hk, hn⟩ := h
  obtain ⟨lx, hlx⟩ := hx
  have hat : D[A.length]? = some (x, v) := by rw [hm]; simp
  rcases find_of K hes hk ⟨lx, hlx⟩ w with ⟨h1, h2⟩ | ⟨j, u, h1, h2⟩
  · exact absurd rfl (h2 _ (List.mem_of_getElem? hat))
  · have := unique_key hn hat h2
    subst this
    have hsub : ∀ p ∈ A ++ B, p ∈ D := by
      intro p hp
      rw [hm]
      rcases List.mem_append.1 hp with hp | hp
      · exact List.mem_append.2 (.inl hp)
      · exact List.mem_append.2 (.inr (List.mem_cons_of_mem _ hp))
    have hlt2 : A.length < es.size := by
      have : (es.toList.map (fun e => (e.key, e.val))).length = D.length := by rw [hes]
      simp [hm] at this
      omega
    refine ⟨.map (es.eraseIdxIfInBounds A.length) clock, ?_, _, clock, setBlock_same hlt, ?_, fun p hp => hk p (hsub p hp), ?_⟩
    · simp [Builtin.delete_, run_underlying ht, MapKept.run_getObj_map hb, K.check w es.isEmpty hlx, h1, MapKept.run_setObj_map _ hb, setBlock]
    · rw [show es.eraseIdxIfInBounds A.length = es.eraseIdx A.length hlt2 from by simp [Array.eraseIdxIfInBounds, hlt2]]
      rw [Array.toList_eraseIdx, map_eraseIdx, hes, hm]
      rw [List.eraseIdx_append_of_length_le (Nat.le_refl _)]
      simp
    · rw [hm] at hn
      simp only [List.map_append, List.map_cons] at hn ⊢
      exact hn.sublist (List.Sublist.append_left (List.sublist_cons_self _ _) _)
/-- 'len(m)'. -/
theorem run_len_map (ht : P.underlying t = some (.map kt e)) (h : MapD P kt m D w) (ty : TypeId) : (Builtin.len_ #[t] ty #[.map (some m)]).run P w = .ok (.int .i64 D.length) w := by
  obtain ⟨es, clock, hb, hes, hk, hn⟩ := h
  have : es.size = D.length := by rw [← hes]; simp
  simp [Builtin.len_, run_underlying ht, MapKept.run_getObj_map hb, goInt, this]
end
theorem MapD.made (P : Program) (kt : TypeId) (w : World) : MapD P kt w.heap.size [] (w.alloc (.map #[] 0)) := ⟨#[], 0, (MapKept.heap_alloc w _).1, by simp, by simp, by simp⟩
end Go.Proofs.RX
