import Derived.Test.YtoplidleecbdeaaT2
import Derived.Test.YtoplidleecbdeaaK
import Derived.Test.YtoplidleecbdeaaRXn
set_option linter.unusedVariables false
set_option linter.unusedSimpArgs false
namespace Go.Proofs.Ytoplidleecbdeaa
open Go Go.RowKit Go.Proofs.RX Go.Maps Go.ChangeMaps

set_option maxRecDepth 100000 in
theorem behind_some {t m a x : Nat} {room : Int} {ea e : E} {f l pa p0 : Option Nat} {w : World} (hn : [t, x, a].Nodup)
    (ht : w.heap[t]? = some (tabO room m f (some a))) (hx : w.heap[x]? = some (nodeO e p0 none)) (ha : w.heap[a]? = some (nodeO ea pa none)) :
    Calls Try.prog 29 #[pv (some t), pv (some x)] w fun e' w' => e' = .returned (.tuple #[]) ∧ w'.heap[t]? = some (tabO room m f (some x)) ∧ w'.heap[x]? = some (nodeO e (some a) none) ∧ w'.heap[a]? = some (nodeO ea pa (some x)) ∧
      Keep (fun k => k ∈ [t, x, a]) w w' := by
  refine calls_rx Γok [.ptr 0 t 0, .ptr 1 x 0] [(t, tabS room m (.lit (pv f)) (.ptr 2 a 0)), (x, nodeS e (.lit (pv p0)) (.lit (.pointer none))), (a, nodeS ea (.lit (pv pa)) (.lit (.pointer none)))] _ _ Try.func29 rfl (by rw [Try.ntmps29]; exact Nat.le_of_ble_eq_true rfl) (SatH.startH _ _ _ w hn ⟨⟨_, ht, rfl⟩, ⟨_, hx, rfl⟩, ⟨_, ha, rfl⟩, trivial⟩) ?_
  rw [Try.ntmps29, Try.results29]
  simp only [tabS, nodeS]
  refine run_ok Γok (stops := []) 400 _ _ _ ?_
  simp only [List.mem_cons, List.not_mem_nil, or_false, argsF, Nat.zero_add, List.map_cons, List.map_nil, r_seq, r_reg, r_ops, rawOp, stopAt, memN, Bool.or_false, o_false, dstOk, Nat.reduceLT, gdK, stC, stpK, pureK, rdK, kn, SV.known, evO, getT, reduceCtorEq, ↓reduceIte, putA, St.put, f62_3, ne_eq, Nat.succ_ne_self, not_false_eq_true, loadK, g60, getH, getL, Nat.reduceEqDiff, f80_2, storeK, SV.flat, SV.one, SV.cells, List.length_cons, List.length_nil, Nat.reduceAdd, Nat.reduceLeDiff, putS, setH, putL, r_ops_nil, binK, nilS, isConstO, Bool.or_true, eqK, r_cond, cndK, f80_3, Nat.le_refl, Nat.lt_add_one, r_nil, RX.Ends, retK, resvK, oneTup, true_and]
  refine fun w' hw => ⟨rfl, hw.obj 0 _ _ rfl, hw.obj 1 _ _ rfl, hw.obj 2 _ _ rfl, hw.rs⟩
set_option maxRecDepth 100000 in
theorem behind_none {t m x : Nat} {room : Int} {e : E} {p0 : Option Nat} {w : World} (hn : [t, x].Nodup)
    (ht : w.heap[t]? = some (tabO room m none none)) (hx : w.heap[x]? = some (nodeO e p0 none)) :
    Calls Try.prog 29 #[pv (some t), pv (some x)] w fun e' w' => e' = .returned (.tuple #[]) ∧ w'.heap[t]? = some (tabO room m (some x) (some x)) ∧ w'.heap[x]? = some (nodeO e none none) ∧
      Keep (fun k => k ∈ [t, x]) w w' := by
  refine calls_rx Γok [.ptr 0 t 0, .ptr 1 x 0] [(t, tabS room m (.lit (.pointer none)) (.lit (.pointer none))), (x, nodeS e (.lit (pv p0)) (.lit (.pointer none)))] _ _ Try.func29 rfl (by rw [Try.ntmps29]; exact Nat.le_of_ble_eq_true rfl) (SatH.startH _ _ _ w hn ⟨⟨_, ht, rfl⟩, ⟨_, hx, rfl⟩, trivial⟩) ?_
  rw [Try.ntmps29, Try.results29]
  simp only [tabS, nodeS]
  refine run_ok Γok (stops := []) 400 _ _ _ ?_
  simp only [List.mem_cons, List.not_mem_nil, or_false, argsF, Nat.zero_add, List.map_cons, List.map_nil, r_seq, r_reg, r_ops, rawOp, stopAt, memN, Bool.or_false, o_false, dstOk, Nat.reduceLT, gdK, stC, stpK, pureK, rdK, kn, SV.known, evO, getT, reduceCtorEq, ↓reduceIte, putA, St.put, f62_3, ne_eq, Nat.succ_ne_self, not_false_eq_true, loadK, g60, getH, getL, Nat.reduceEqDiff, f80_2, storeK, SV.flat, SV.one, Value.oneCell', SV.cells, List.length_cons, List.length_nil, Nat.reduceAdd, Nat.reduceLeDiff, putS, setH, putL, r_ops_nil, binK, nilS, isConstO, Bool.or_true, eqK, r_cond, cndK, f62_2, Nat.lt_add_one, Nat.le_refl, r_nil, RX.Ends, retK, resvK, oneTup, true_and]
  refine fun w' hw => ⟨rfl, hw.obj 0 _ _ rfl, hw.obj 1 _ _ rfl, hw.rs⟩
/-- An entry goes to the chain's end. -/
theorem behind_calls {t m x : Nat} {room : Int} {l : List (Nat × E)} {e : E} {p0 : Option Nat} {w : World} (h : Chain t m room l w) (hx : w.heap[x]? = some (nodeO e p0 none)) (hxl : x ∉ l.map (·.1)) :
    Calls Try.prog 29 #[pv (some t), pv (some x)] w fun e' w' => e' = .returned (.tuple #[]) ∧ Chain t m room (l ++ [(x, e)]) w' ∧ Keep (fun k => k = t ∨ k = x ∨ k ∈ l.map (·.1)) w w' := by
  have hxt : x ≠ t := by
    intro he
    rw [he, h.tab] at hx
    simp [tabO, nodeO] at hx
  have hne := h.ne
  have hnd := h.nd
  have hnd' : ((l ++ [(x, e)]).map (·.1)).Nodup := by
    simp only [List.map_append, List.map_cons, List.map_nil]
    refine List.nodup_append.2 ⟨hnd, by simp, ?_⟩
    intro a ha b hb
    simp only [List.mem_singleton] at hb
    exact fun hab => hxl (hb ▸ hab ▸ ha)
  have hseg := h.seg
  have htab := h.tab
  rcases snoc_cases l with rfl | ⟨l', ⟨a, ea⟩, rfl⟩
  · refine (behind_none (w := w) (by simp [Ne.symm hxt]) htab hx).mono ?_
    rintro e' w' ⟨he, h1, h2, hk⟩
    exact ⟨he, ⟨h1, ⟨h2, trivial⟩, by simp⟩, hk.mono (by simp)⟩
  · rw [seg_append, hd_cons, seg_cons, hd_nil] at hseg
    obtain ⟨s0, ha, -⟩ := hseg
    rw [lst_snoc] at htab
    have hat : a ≠ t := hne (a, ea) (by simp)
    have hax : a ≠ x := fun he => hxl (by simp [he])
    refine (behind_some (l := none) (w := w) (by simp [Ne.symm hxt, Ne.symm hat, Ne.symm hax]) htab hx ha).mono ?_
    rintro e' w' ⟨he, h1, h2, h3, hk⟩
    have hk0 : Seg w' none l' (some a) := seg_keep (fun y hy => hk.block y.1 (seg_lt s0 y hy) (by
      have h4 : y.1 ∈ l'.map (·.1) := List.mem_map.2 ⟨y, hy, rfl⟩
      have h5 := hne y (by simp [hy])
      simp only [List.map_append, List.map_cons, List.map_nil] at hnd
      simp only [List.mem_cons, List.not_mem_nil, or_false, not_or]
      grind)) s0
    refine ⟨he, ⟨?_, ?_, hnd'⟩, hk.mono (by first | (simp; done) | (simp; grind))⟩
    · rw [h1, lst_snoc, hd_append, hd_append, hd_append]; rfl
    · rw [seg_append, seg_append, lst_append]
      exact ⟨⟨hk0, h3, trivial⟩, h2, trivial⟩

/-! ### The table -/
def ents (l : List (Nat × E)) : List (Value × Value) := l.map fun x => (whoV x.2, pv (some x.1))
/-- What the table is: the chain, and the map by whose it is. -/
structure Tab (t m : Nat) (room : Int) (l : List (Nat × E)) (w : World) : Prop where
  ch : Chain t m room l w
  mp : ∃ D, MapD Try.prog 38 m D w ∧ D.Perm (ents l)
def TabF (t m : Nat) (l : List (Nat × E)) (k : Nat) : Prop := k = t ∨ k = m ∨ k ∈ l.map (·.1)
theorem Tab.dep (t m : Nat) (room : Int) (l : List (Nat × E)) : Dep (TabF t m l) (Tab t m room l) := by
  intro w w' hk h1 h2 h3 h4 ⟨hc, D, hm, hp⟩
  exact ⟨Chain.dep t m room l w w' (fun k hk' => hk k (by rcases hk' with h | h; exact .inl h; exact .inr (.inr h))) h1 h2 h3 h4 hc, D, MapD.dep _ _ m D w w' (fun k hk' => hk k (.inr (.inl hk'))) h1 h2 h3 h4 hm, hp⟩
theorem Tab.mt {t m : Nat} {room : Int} {l : List (Nat × E)} {w : World} (h : Tab t m room l w) : m ≠ t := by
  obtain ⟨D, ⟨es, c, hb, _⟩, _⟩ := h.mp
  intro he
  rw [he, h.ch.tab] at hb
  simp [tabO] at hb
theorem Tab.ml {t m : Nat} {room : Int} {l : List (Nat × E)} {w : World} (h : Tab t m room l w) : m ∉ l.map (·.1) := by
  obtain ⟨D, ⟨es, c, hb, _⟩, _⟩ := h.mp
  intro he
  obtain ⟨y, hy, e⟩ := List.mem_map.1 he
  obtain ⟨p', n', h1⟩ := seg_obj h.ch.seg y hy
  rw [e, hb] at h1
  simp [nodeO] at h1
theorem Tab.lt {t m : Nat} {room : Int} {l : List (Nat × E)} {w : World} (h : Tab t m room l w) : ∀ k, TabF t m l k → k < w.heap.size := by
  intro k hk
  rcases hk with rfl | rfl | hk
  · exact h.ch.lt
  · exact h.mp.choose_spec.1.lt
  · obtain ⟨y, hy, rfl⟩ := List.mem_map.1 hk
    exact seg_lt h.ch.seg y hy
theorem Tab.isK {t m : Nat} {room : Int} {l : List (Nat × E)} {w : World} (h : Tab t m room l w) : ∀ x ∈ l, IsK Try.prog 38 (whoV x.2) := by
  intro x hx
  obtain ⟨D, ⟨es, c, hb, _, hk, _⟩, hp⟩ := h.mp
  exact hk (whoV x.2, pv (some x.1)) (hp.mem_iff.2 (List.mem_map.2 ⟨x, hx, rfl⟩))
theorem Tab.keys {t m : Nat} {room : Int} {l : List (Nat × E)} {w : World} (h : Tab t m room l w) : (l.map fun x => whoV x.2).Nodup := by
  obtain ⟨D, ⟨es, c, hb, _, hk, hn⟩, hp⟩ := h.mp
  have h1 : (D.map (·.1)).Perm ((ents l).map (·.1)) := hp.map _
  have h2 := h1.nodup_iff.1 hn
  simpa [ents, List.map_map, Function.comp_def] using h2
theorem Tab.len {t m : Nat} {room : Int} {l : List (Nat × E)} {w : World} (h : Tab t m room l w) : ∃ D, MapD Try.prog 38 m D w ∧ D.Perm (ents l) ∧ D.length = l.length := by
  obtain ⟨D, h1, h2⟩ := h.mp
  exact ⟨D, h1, h2, by rw [h2.length_eq]; simp [ents]⟩
end Go.Proofs.Ytoplidleecbdeaa
