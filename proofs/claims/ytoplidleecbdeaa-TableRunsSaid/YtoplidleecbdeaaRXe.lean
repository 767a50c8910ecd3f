/- Operations that write or make memory; the run over what is left to do. -/
import Derived.Test.YtoplidleecbdeaaRXd
import Derived.Laws.CopyRow
set_option linter.unusedVariables false
set_option linter.unusedSimpArgs false
namespace Go.Proofs.RX
open Go Go.RowKit

theorem getH_setH (l : List (Nat × SO)) (i j : Nat) (o : SO) : getH (setH l i o) j = if j = i then (getH l i).map (fun p => (p.1, o)) else getH l j := by
  induction l generalizing i j with
  | nil => simp [setH, getH]
  | cons x r ih =>
    cases i with
    | zero => cases j <;> simp [setH, getH]
    | succ i => cases j <;> simp [setH, getH, ih]
theorem setH_map (l : List (Nat × SO)) (i : Nat) (o : SO) : (setH l i o).map (·.1) = l.map (·.1) := by
  induction l generalizing i with
  | nil => rfl
  | cons x r ih => cases i <;> simp [setH, ih]
theorem mem_setH {l : List (Nat × SO)} {i : Nat} {o : SO} {p : Nat × SO} (h : p ∈ setH l i o) : ∃ q ∈ l, q.1 = p.1 := by
  have : p.1 ∈ (setH l i o).map (·.1) := List.mem_map.2 ⟨p, h, rfl⟩
  rw [setH_map] at this
  obtain ⟨q, hq, e⟩ := List.mem_map.1 this
  exact ⟨q, hq, e⟩
theorem getH_mem {l : List (Nat × SO)} {i : Nat} {p : Nat × SO} (h : getH l i = some p) : p ∈ l := by
  induction l generalizing i with
  | nil => simp [getH] at h
  | cons x r ih =>
    cases i with
    | zero => simp [getH] at h; simp [h]
    | succ i => exact List.mem_cons_of_mem _ (ih h)
theorem getH_get (l : List (Nat × SO)) (i : Nat) : getH l i = l[i]? := by
  induction l generalizing i with
  | nil => simp [getH]
  | cons x r ih => cases i <;> simp [getH, ih]
theorem nodup_fst {l : List (Nat × SO)} (h : (l.map (·.1)).Nodup) {i j : Nat} {p q : Nat × SO} (hi : getH l i = some p) (hj : getH l j = some q) (e : p.1 = q.1) : i = j := by
  rw [getH_get] at hi hj
  have h1 : (l.map (·.1))[i]? = some p.1 := by simp [hi]
  have h2 : (l.map (·.1))[j]? = some q.1 := by simp [hj]
  rw [← e] at h2
  have hil : i < (l.map (·.1)).length := (List.getElem?_eq_some_iff.1 h1).1
  exact List.getElem?_inj hil h |>.1 (h1.trans h2.symm)

theorem SatH.set {s : St} {w w' : World} (h : SatH s w) {i b : Nat} {so so' : SO} (hi : getH s.hp i = some (b, so)) (hfar : ¬ s.fp b) (hb : so'.ok w'.heap[b]?)
    (hk : ∀ k, k ≠ b → w'.heap[k]? = w.heap[k]?) (ho : w'.os = w.os) (ht : w'.tape = w.tape) (hu : w'.output = w.output) (hz : w.heap.size ≤ w'.heap.size) : SatH { s with hp := setH s.hp i so' } w' where
  nd := by show ((setH s.hp i so').map (·.1)).Nodup; rw [setH_map]; exact h.nd
  obj := by
    intro j b' o hj
    simp only [getH_setH] at hj
    split at hj
    · rw [hi] at hj
      simp only [Option.map_some, Option.some.injEq, Prod.mk.injEq] at hj
      obtain ⟨rfl, rfl⟩ := hj
      exact hb
    · rename_i hne
      rw [hk b' (fun e => hne (nodup_fst h.nd hj hi e))]
      exact h.obj j b' o hj
  lt := by
    intro p hp
    obtain ⟨q, hq, e⟩ := mem_setH hp
    have := h.lt q hq
    omega
  far := by
    intro j b' cs t hj
    simp only [getH_setH] at hj
    split at hj
    · rw [hi] at hj
      simp only [Option.map_some, Option.some.injEq, Prod.mk.injEq] at hj
      obtain ⟨rfl, _⟩ := hj
      exact hfar
    · exact h.far j b' cs t hj
  fpl := fun k hk => Nat.lt_of_lt_of_le (h.fpl k hk) hz
  dep := h.dep
  rs := h.dep w w' (fun k hF => hk k (fun e => hfar (by rw [← e]; exact hF))) ho ht hu hz h.rs

theorem SatH.new {s : St} {w : World} (h : SatH s w) (ob : Obj) (so : SO) (hs : so.ok (some ob)) : SatH { s with hp := s.hp ++ [(w.heap.size, so)] } (w.alloc ob) where
  nd := by
    simp only [List.map_append, List.map_cons, List.map_nil]
    refine List.nodup_append.2 ⟨h.nd, by simp, ?_⟩
    intro a ha b hb
    obtain ⟨p, hp, rfl⟩ := List.mem_map.1 ha
    simp only [List.mem_singleton] at hb
    have := h.lt p hp
    omega
  obj := by
    intro j b o hj
    rw [getH_get] at hj
    rcases Nat.lt_or_ge j s.hp.length with hl | hl
    · rw [List.getElem?_append_left hl, ← getH_get] at hj
      rw [Below.heap_alloc _ _ _ (h.lt _ (getH_mem hj))]
      exact h.obj j b o hj
    · rw [List.getElem?_append_right hl] at hj
      obtain ⟨hlt, he⟩ := List.getElem?_eq_some_iff.1 hj
      have : j - s.hp.length = 0 := by simpa using hlt
      simp only [this] at he
      simp only [List.getElem_cons_zero, Prod.mk.injEq] at he
      obtain ⟨rfl, rfl⟩ := he
      rw [heap_alloc_new]
      exact hs
  lt := by
    intro p hp
    rcases List.mem_append.1 hp with hp | hp
    · have := h.lt p hp; simp; omega
    · simp at hp; subst hp; simp
  far := by
    intro j b cs t hj
    rw [getH_get] at hj
    rcases Nat.lt_or_ge j s.hp.length with hl | hl
    · rw [List.getElem?_append_left hl, ← getH_get] at hj
      exact h.far j b cs t hj
    · rw [List.getElem?_append_right hl] at hj
      obtain ⟨hlt, he⟩ := List.getElem?_eq_some_iff.1 hj
      have : j - s.hp.length = 0 := by simpa using hlt
      simp only [this] at he
      simp only [List.getElem_cons_zero, Prod.mk.injEq] at he
      obtain ⟨rfl, _⟩ := he
      intro hF
      have := h.fpl _ hF
      simp at this
  fpl := fun k hk => by have := h.fpl k hk; simp; omega
  dep := h.dep
  rs := h.dep w _ (fun k hF => Below.heap_alloc _ _ _ (h.fpl k hF)) rfl rfl rfl (by simp) h.rs

/-! ### Stores, new blocks -/
def storeK (Γ : Ty) (s : St) (t : TypeId) (x y : Operand) (kk : St → Prop) : Prop :=
  match findT Γ.ts t with
  | none => False
  | some ti => match evO s x with
    | .ptr i b o => match getH s.hp i with
      | some (b', .cells cs t') => b' = b ∧ (evO s y).flat ∧ (evO s y).cells.length = ti.size ∧ o + ti.size ≤ cs.length ∧ kk { s with hp := setH s.hp i (.cells (putL cs o (evO s y).cells) t') }
      | _ => False
    | _ => False
def allocK (Γ : Ty) (s : St) (t : TypeId) (kk : St → SV → Prop) : Prop :=
  match findT Γ.ts t with
  | none => False
  | some ti => ∀ b : Nat, kk { s with hp := s.hp ++ [(b, .cells (litL ti.zero) t)] } (.ptr s.hp.length b 0)
def boxK (s : St) (t : TypeId) (x : Operand) (kk : St → SV → Prop) : Prop :=
  (evO s x).flat ∧ ∀ b : Nat, kk { s with hp := s.hp ++ [(b, .cells (evO s x).cells t)] } (.ptr s.hp.length b 0)

theorem putL_den : ∀ (l : List SV) (o : Nat) (vs : List SV), o + vs.length ≤ l.length → denL (putL l o vs) = (denL l).take o ++ denL vs ++ (denL l).drop (o + vs.length)
  | [], o, vs, h => by
    have : vs = [] := by
      cases vs with
      | nil => rfl
      | cons v vs => simp at h
    subst this
    simp [putL, denL]
  | x :: r, 0, [], h => by simp [putL, denL]
  | x :: r, 0, v :: vs, h => by
    have := putL_den r 0 vs (by simp at h; omega)
    simp only [Nat.zero_add] at this
    simp [putL, denL, this]
  | x :: r, o + 1, [], h => by simp [putL, denL]
  | x :: r, o + 1, v :: vs, h => by
    have := putL_den r o (v :: vs) (by simp only [List.length_cons] at h ⊢; omega)
    simp only [putL, denL, this, List.take_succ_cons, List.cons_append, List.length_cons]
    rw [show o + 1 + (vs.length + 1) = (o + (vs.length + 1)) + 1 by omega, List.drop_succ_cons]

section
variable {P : Program} {s : St}
theorem storeK_ok {Γ : Ty} (hΓ : Γ.ok P) {t : TypeId} {x y : Operand} {kk : St → Prop} (h : storeK Γ s t x y kk) : ∃ s', kk s' ∧ s'.n = s.n ∧ s'.tm = s.tm ∧
    ∀ (o : Oper) (a : Act) (w : World), o.op = .store t x y → Sat s a w → ∃ w', (execOp a.eval o).run P w = .ok .skip w' ∧ SatH s' w' := by
  unfold storeK at h
  split at h
  · exact h.elim
  · rename_i ti hti
    have hok := findT_ok hΓ.ts hti
    split at h
    · rename_i i b o hx
      split at h
      · rename_i b' cs t' hi
        obtain ⟨rfl, hf, hl, hle, h⟩ := h
        refine ⟨_, h, rfl, rfl, fun oo a w ho hs => ?_⟩
        have e1 := ev_ok hs x (by rw [hx]; rfl)
        have e2 := ev_ok hs y (by
          cases hy : evO s y <;> first | rfl | (rw [hy] at hf; exact hf.elim))
        rw [hx] at e1
        simp only [SV.den] at e1
        obtain ⟨h1, hcl⟩ := SV.flat_cells hf
        have hblk := hs.H.blk hi
        have hsz : (evO s y).den.cells.size = ti.size := by rw [hcl]; simp [denL_length, hl]
        have hrun := run_storeCells_at (P := P) b' o t' (denL (evO s y).cells) 0 _ w hblk (by simp [denL_length, hl, hle]) (oneL_den h1)
        have hput := putL_den cs o (evO s y).cells (by omega)
        have hrun' : (storeCells ⟨b', o, none⟩ (denL (evO s y).cells)).run P w = .ok () (w.setRow b' (denL (putL cs o (evO s y).cells)).toArray) := by
          rw [hput]
          simpa [denL_length] using hrun
        refine ⟨w.setRow b' (denL (putL cs o (evO s y).cells)).toArray, ?_, hs.H.set hi (hs.H.far _ _ _ _ hi) ?_ (fun k hk => setRow_other _ _ _ _ hk) rfl rfl rfl (by simp)⟩
        · simp only [execOp, ho, e1, e2, Instr.storeAt, Instr.sureAddr, storeVar]
          have hs2 := run_sizeOf (P := P) w hok
          simp [hs2, hsz, hcl, hrun', denL_length, hl]
        · show _ = some _
          rw [setRow_heap w b' _ _ t' _ hblk]
      · exact h.elim
    · exact h.elim
end
end Go.Proofs.RX
