import Derived.Test.YtoplidleecbdeaaDl
set_option linter.unusedVariables false
set_option linter.unusedSimpArgs false
namespace Go.Proofs.Ytoplidleecbdeaa
open Go Go.RowKit Go.Proofs.RX

def tabS (room : Int) (m : Nat) (f l : SV) : SO := .cells [.lit (.int .i64 room), .lit (.map (some m)), f, l] 62
def nodeS (e : E) (p n : SV) : SO := .cells [.lit (.int .i64 e.route), .lit (.int .i64 e.kind), .lit (.string e.name), .lit (.int .i64 e.pt), .lit (.int .i64 e.at_), p, n] 80

set_option maxRecDepth 100000 in
theorem unlink_both {t m a x c : Nat} {room : Int} {ea e ec : E} {f l pa nc : Option Nat} {w : World} (hn : [t, x, a, c].Nodup)
    (ht : w.heap[t]? = some (tabO room m f l)) (hx : w.heap[x]? = some (nodeO e (some a) (some c))) (ha : w.heap[a]? = some (nodeO ea pa (some x))) (hc : w.heap[c]? = some (nodeO ec (some x) nc)) :
    Calls Try.prog 28 #[pv (some t), pv (some x)] w fun e' w' => e' = .returned (.tuple #[]) ∧ w'.heap[t]? = some (tabO room m f l) ∧ w'.heap[x]? = some (nodeO e none none) ∧ w'.heap[a]? = some (nodeO ea pa (some c)) ∧
      w'.heap[c]? = some (nodeO ec (some a) nc) ∧ Keep (fun k => k ∈ [t, x, a, c]) w w' := by
  refine calls_rx Γok [.ptr 0 t 0, .ptr 1 x 0] [(t, tabS room m (.lit (pv f)) (.lit (pv l))), (x, nodeS e (.ptr 2 a 0) (.ptr 3 c 0)), (a, nodeS ea (.lit (pv pa)) (.ptr 1 x 0)), (c, nodeS ec (.ptr 1 x 0) (.lit (pv nc)))] _ _ Try.func28 rfl (by rw [Try.ntmps28]; exact Nat.le_of_ble_eq_true rfl) (SatH.startH _ _ _ w hn ⟨⟨_, ht, rfl⟩, ⟨_, hx, rfl⟩, ⟨_, ha, rfl⟩, ⟨_, hc, rfl⟩, trivial⟩) ?_
  rw [Try.ntmps28, Try.results28]
  simp only [tabS, nodeS]
  refine run_ok Γok (stops := []) 400 _ _ _ ?_
  simp only [List.mem_cons, List.not_mem_nil, or_false, argsF, Nat.zero_add, List.map_cons, List.map_nil, r_seq, r_reg, r_ops, rawOp, stopAt, memN, Bool.or_false, o_false, dstOk, Nat.reduceLT, gdK, stC, stpK, pureK, rdK, kn, SV.known, evO, getT, reduceCtorEq, ↓reduceIte, putA, St.put, f80_2, ne_eq, Nat.succ_ne_self, not_false_eq_true, loadK, g60, getH, getL, binK, nilS, isConstO, Bool.or_true, eqK, r_ops_nil, r_cond, cndK, r_regd, calmN, calmOp, Bool.not_false, Bool.and_true, Nat.reduceAdd, List.length_cons, List.length_nil, Nat.reduceBEq, List.drop_succ_cons, List.drop_zero, plainL, d_run, d_held, heldK, h_cons, pureC, Nat.reduceEqDiff, f80_3, h_zero, heldH, heldJ, tgtS, blurH, setH, keepH, soEq, and_true, heldT, tailK, storeK, SV.flat, SV.one, SV.cells, Nat.le_refl, putS, keptS, putL, Nat.reduceLeDiff, Value.oneCell', Nat.lt_add_one, r_nil, RX.Ends, retK, resvK, oneTup, true_and]
  refine ⟨by unfold LexHeldB; kernel_rfl, by first | (unfold LexTailB; kernel_rfl) | (unfold LexHeldB; kernel_rfl), fun w' hw => ⟨rfl, hw.obj 0 _ _ rfl, hw.obj 1 _ _ rfl, hw.obj 2 _ _ rfl, hw.obj 3 _ _ rfl, hw.rs⟩⟩
set_option maxRecDepth 100000 in
theorem unlink_left {t m a x : Nat} {room : Int} {ea e : E} {f l pa : Option Nat} {w : World} (hn : [t, x, a].Nodup)
    (ht : w.heap[t]? = some (tabO room m f l)) (hx : w.heap[x]? = some (nodeO e (some a) none)) (ha : w.heap[a]? = some (nodeO ea pa (some x))) :
    Calls Try.prog 28 #[pv (some t), pv (some x)] w fun e' w' => e' = .returned (.tuple #[]) ∧ w'.heap[t]? = some (tabO room m f (some a)) ∧ w'.heap[x]? = some (nodeO e none none) ∧ w'.heap[a]? = some (nodeO ea pa none) ∧
      Keep (fun k => k ∈ [t, x, a]) w w' := by
  refine calls_rx Γok [.ptr 0 t 0, .ptr 1 x 0] [(t, tabS room m (.lit (pv f)) (.lit (pv l))), (x, nodeS e (.ptr 2 a 0) (.lit (.pointer none))), (a, nodeS ea (.lit (pv pa)) (.ptr 1 x 0))] _ _ Try.func28 rfl (by rw [Try.ntmps28]; exact Nat.le_of_ble_eq_true rfl) (SatH.startH _ _ _ w hn ⟨⟨_, ht, rfl⟩, ⟨_, hx, rfl⟩, ⟨_, ha, rfl⟩, trivial⟩) ?_
  rw [Try.ntmps28, Try.results28]
  simp only [tabS, nodeS]
  refine run_ok Γok (stops := []) 400 _ _ _ ?_
  simp only [List.mem_cons, List.not_mem_nil, or_false, argsF, Nat.zero_add, List.map_cons, List.map_nil, r_seq, r_reg, r_ops, rawOp, stopAt, memN, Bool.or_false, o_false, dstOk, Nat.reduceLT, gdK, stC, stpK, pureK, rdK, kn, SV.known, evO, getT, reduceCtorEq, ↓reduceIte, putA, St.put, f80_2, ne_eq, Nat.succ_ne_self, not_false_eq_true, loadK, g60, getH, getL, binK, nilS, isConstO, Bool.or_true, eqK, r_ops_nil, r_cond, cndK, r_regd, calmN, calmOp, Bool.not_false, Bool.and_true, Nat.reduceAdd, List.length_cons, List.length_nil, Nat.reduceBEq, List.drop_succ_cons, List.drop_zero, plainL, d_run, d_held, heldK, h_cons, pureC, Nat.reduceEqDiff, f80_3, h_zero, heldH, heldJ, tgtS, blurH, setH, keepH, soEq, and_true, heldT, tailK, storeK, SV.flat, SV.one, Value.oneCell', SV.cells, Nat.le_refl, putS, keptS, putL, f62_3, Nat.reduceLeDiff, Nat.lt_add_one, r_nil, RX.Ends, retK, resvK, oneTup, true_and]
  refine ⟨by unfold LexHeldB; kernel_rfl, fun w' hw => ⟨rfl, hw.obj 0 _ _ rfl, hw.obj 1 _ _ rfl, hw.obj 2 _ _ rfl, hw.rs⟩⟩
set_option maxRecDepth 100000 in
theorem unlink_right {t m c x : Nat} {room : Int} {ec e : E} {f l nc : Option Nat} {w : World} (hn : [t, x, c].Nodup)
    (ht : w.heap[t]? = some (tabO room m f l)) (hx : w.heap[x]? = some (nodeO e none (some c))) (hc : w.heap[c]? = some (nodeO ec (some x) nc)) :
    Calls Try.prog 28 #[pv (some t), pv (some x)] w fun e' w' => e' = .returned (.tuple #[]) ∧ w'.heap[t]? = some (tabO room m (some c) l) ∧ w'.heap[x]? = some (nodeO e none none) ∧ w'.heap[c]? = some (nodeO ec none nc) ∧
      Keep (fun k => k ∈ [t, x, c]) w w' := by
  refine calls_rx Γok [.ptr 0 t 0, .ptr 1 x 0] [(t, tabS room m (.lit (pv f)) (.lit (pv l))), (x, nodeS e (.lit (.pointer none)) (.ptr 2 c 0)), (c, nodeS ec (.ptr 1 x 0) (.lit (pv nc)))] _ _ Try.func28 rfl (by rw [Try.ntmps28]; exact Nat.le_of_ble_eq_true rfl) (SatH.startH _ _ _ w hn ⟨⟨_, ht, rfl⟩, ⟨_, hx, rfl⟩, ⟨_, hc, rfl⟩, trivial⟩) ?_
  rw [Try.ntmps28, Try.results28]
  simp only [tabS, nodeS]
  refine run_ok Γok (stops := []) 400 _ _ _ ?_
  simp only [List.mem_cons, List.not_mem_nil, or_false, argsF, Nat.zero_add, List.map_cons, List.map_nil, r_seq, r_reg, r_ops, rawOp, stopAt, memN, Bool.or_false, o_false, dstOk, Nat.reduceLT, gdK, stC, stpK, pureK, rdK, kn, SV.known, evO, getT, reduceCtorEq, ↓reduceIte, putA, St.put, f80_2, ne_eq, Nat.succ_ne_self, not_false_eq_true, loadK, g60, getH, getL, binK, nilS, isConstO, Bool.or_true, eqK, r_ops_nil, r_cond, cndK, Nat.reduceEqDiff, f80_3, f62_2, storeK, SV.flat, SV.one, SV.cells, List.length_cons, List.length_nil, Nat.reduceAdd, Nat.reduceLeDiff, putS, setH, putL, r_regd, calmN, calmOp, Bool.not_false, Bool.and_true, Nat.reduceBEq, List.drop_succ_cons, List.drop_zero, plainL, d_run, d_held, heldK, h_cons, pureC, h_zero, heldH, heldJ, tgtS, blurH, keepH, soEq, and_true, heldT, tailK, Value.oneCell', keptS, Nat.lt_add_one, Nat.le_refl, r_nil, RX.Ends, retK, resvK, oneTup, true_and]
  refine ⟨by unfold LexHeldB; kernel_rfl, fun w' hw => ⟨rfl, hw.obj 0 _ _ rfl, hw.obj 1 _ _ rfl, hw.obj 2 _ _ rfl, hw.rs⟩⟩
set_option maxRecDepth 100000 in
theorem unlink_none {t m x : Nat} {room : Int} {e : E} {f l : Option Nat} {w : World} (hn : [t, x].Nodup)
    (ht : w.heap[t]? = some (tabO room m f l)) (hx : w.heap[x]? = some (nodeO e none none)) :
    Calls Try.prog 28 #[pv (some t), pv (some x)] w fun e' w' => e' = .returned (.tuple #[]) ∧ w'.heap[t]? = some (tabO room m none none) ∧ w'.heap[x]? = some (nodeO e none none) ∧ Keep (fun k => k ∈ [t, x]) w w' := by
  refine calls_rx Γok [.ptr 0 t 0, .ptr 1 x 0] [(t, tabS room m (.lit (pv f)) (.lit (pv l))), (x, nodeS e (.lit (.pointer none)) (.lit (.pointer none)))] _ _ Try.func28 rfl (by rw [Try.ntmps28]; exact Nat.le_of_ble_eq_true rfl) (SatH.startH _ _ _ w hn ⟨⟨_, ht, rfl⟩, ⟨_, hx, rfl⟩, trivial⟩) ?_
  rw [Try.ntmps28, Try.results28]
  simp only [tabS, nodeS]
  refine run_ok Γok (stops := []) 400 _ _ _ ?_
  simp only [List.mem_cons, List.not_mem_nil, or_false, argsF, Nat.zero_add, List.map_cons, List.map_nil, r_seq, r_reg, r_ops, rawOp, stopAt, memN, Bool.or_false, o_false, dstOk, Nat.reduceLT, gdK, stC, stpK, pureK, rdK, kn, SV.known, evO, getT, reduceCtorEq, ↓reduceIte, putA, St.put, f80_2, ne_eq, Nat.succ_ne_self, not_false_eq_true, loadK, g60, getH, getL, binK, nilS, isConstO, Bool.or_true, eqK, r_ops_nil, r_cond, cndK, Nat.reduceEqDiff, f80_3, f62_2, storeK, SV.flat, SV.one, Value.oneCell', SV.cells, List.length_cons, List.length_nil, Nat.reduceAdd, Nat.reduceLeDiff, putS, setH, putL, f62_3, Nat.le_refl, Nat.lt_add_one, r_nil, RX.Ends, retK, resvK, oneTup, true_and]
  refine fun w' hw => ⟨rfl, hw.obj 0 _ _ rfl, hw.obj 1 _ _ rfl, hw.rs⟩

theorem hd_cons (b : Nat) (e : E) (r : List (Nat × E)) (n : Option Nat) : hd ((b, e) :: r) n = some b := rfl
theorem hd_nil (n : Option Nat) : hd [] n = n := rfl
theorem lst_nil (n : Option Nat) : lst [] n = n := rfl
theorem lst_cons (b : Nat) (e : E) (r : List (Nat × E)) (n : Option Nat) : lst ((b, e) :: r) n = lst r (some b) := rfl
theorem seg_cons (w : World) (b : Nat) (e : E) (r : List (Nat × E)) (p n : Option Nat) : Seg w p ((b, e) :: r) n ↔ w.heap[b]? = some (nodeO e p (hd r n)) ∧ Seg w (some b) r n := Iff.rfl
theorem lst_some (l : List (Nat × E)) (c : Nat) (p : Option Nat) (h : l ≠ []) : lst l p = lst l (some c) := by
  cases l with
  | nil => exact absurd rfl h
  | cons x r => rfl

/-- An entry goes out of the chain. -/
theorem unlink_calls {t m x : Nat} {room : Int} {l1 l2 : List (Nat × E)} {e : E} {w : World} (h : Chain t m room (l1 ++ (x, e) :: l2) w) :
    Calls Try.prog 28 #[pv (some t), pv (some x)] w fun e' w' => e' = .returned (.tuple #[]) ∧ Chain t m room (l1 ++ l2) w' ∧ w'.heap[x]? = some (nodeO e none none) ∧ Keep (fun k => k = t ∨ k ∈ (l1 ++ (x, e) :: l2).map (·.1)) w w' := by
  have hnd := h.nd
  have hne := h.ne
  have hseg := h.seg
  have htab := h.tab
  rw [seg_append, hd_cons, seg_cons] at hseg
  rw [hd_append, lst_append, hd_cons, lst_cons] at htab
  obtain ⟨s1, hx, s2⟩ := hseg
  have hxt : x ≠ t := hne (x, e) (by simp)
  have hnd' : ((l1 ++ l2).map (·.1)).Nodup := by
    simp only [List.map_append, List.map_cons] at hnd ⊢
    exact hnd.sublist (List.Sublist.append_left (List.sublist_cons_self _ _) _)
  rcases snoc_cases l1 with rfl | ⟨l1', ⟨a, ea⟩, rfl⟩
  · rcases l2 with _ | ⟨⟨c, ec⟩, l2'⟩
    · refine (unlink_none (w := w) (by simp [Ne.symm hxt]) htab hx).mono ?_
      rintro e' w' ⟨he, h1, h2, hk⟩
      exact ⟨he, ⟨h1, trivial, by simp⟩, h2, hk.mono (by simp)⟩
    · rw [seg_cons] at s2
      obtain ⟨hc, s3⟩ := s2
      have hct : c ≠ t := hne (c, ec) (by simp)
      simp only [List.map_nil, List.nil_append, List.map_cons, List.nodup_cons, List.mem_cons, not_or] at hnd
      refine (unlink_right (w := w) (by simp [Ne.symm hxt, Ne.symm hct, hnd.1.1]) htab hx hc).mono ?_
      rintro e' w' ⟨he, h1, h2, h3, hk⟩
      refine ⟨he, ⟨h1, ⟨h3, seg_keep (fun y hy => hk.block y.1 (seg_lt s3 y hy) ?_) s3⟩, hnd'⟩, h2, hk.mono (by first | (simp; done) | (simp; grind))⟩
      have h4 : y.1 ∈ l2'.map (·.1) := List.mem_map.2 ⟨y, hy, rfl⟩
      have h5 := hne y (by simp [hy])
      simp only [List.mem_cons, List.not_mem_nil, or_false, not_or]
      exact ⟨h5, fun e' => hnd.1.2 (e' ▸ h4), fun e' => hnd.2.1 (e' ▸ h4)⟩
  · rw [seg_append, hd_cons, seg_cons, hd_nil] at s1
    obtain ⟨s0, ha, -⟩ := s1
    rw [lst_append, lst_cons, lst_nil] at hx
    have hat : a ≠ t := hne (a, ea) (by simp)
    rcases l2 with _ | ⟨⟨c, ec⟩, l2'⟩
    · simp only [List.map_append, List.map_cons, List.map_nil] at hnd
      have hax : a ≠ x := by grind
      refine (unlink_left (w := w) (by simp [Ne.symm hxt, Ne.symm hat, Ne.symm hax]) htab hx ha).mono ?_
      rintro e' w' ⟨he, h1, h2, h3, hk⟩
      have hk0 : Seg w' none l1' (some a) := seg_keep (fun y hy => hk.block y.1 (seg_lt s0 y hy) (by
        have h4 : y.1 ∈ l1'.map (·.1) := List.mem_map.2 ⟨y, hy, rfl⟩
        have h5 := hne y (by simp [hy])
        simp only [List.mem_cons, List.not_mem_nil, or_false, not_or]
        grind)) s0
      refine ⟨he, ⟨?_, ?_, hnd'⟩, h2, hk.mono (by first | (simp; done) | (simp; grind))⟩
      · rw [h1, List.append_nil, hd_append, lst_append, lst_cons, lst_nil, hd_append]; rfl
      · rw [List.append_nil, seg_append]
        exact ⟨hk0, h3, trivial⟩
    · rw [seg_cons] at s2
      obtain ⟨hc, s3⟩ := s2
      have hct : c ≠ t := hne (c, ec) (by simp)
      simp only [List.map_append, List.map_cons, List.map_nil] at hnd
      have hax : a ≠ x ∧ a ≠ c ∧ x ≠ c := by grind
      refine (unlink_both (w := w) (by simp [Ne.symm hxt, Ne.symm hat, Ne.symm hct, Ne.symm hax.1, hax.2.1, hax.2.2]) htab hx ha hc).mono ?_
      rintro e' w' ⟨he, h1, h2, h3, h4, hk⟩
      have hk0 : Seg w' none l1' (some a) := seg_keep (fun y hy => hk.block y.1 (seg_lt s0 y hy) (by
        have h4 : y.1 ∈ l1'.map (·.1) := List.mem_map.2 ⟨y, hy, rfl⟩
        have h5 := hne y (by simp [hy])
        simp only [List.mem_cons, List.not_mem_nil, or_false, not_or]
        grind)) s0
      have hk1 : Seg w' (some c) l2' none := seg_keep (fun y hy => hk.block y.1 (seg_lt s3 y hy) (by
        have h4 : y.1 ∈ l2'.map (·.1) := List.mem_map.2 ⟨y, hy, rfl⟩
        have h5 := hne y (by simp [hy])
        simp only [List.mem_cons, List.not_mem_nil, or_false, not_or]
        grind)) s3
      refine ⟨he, ⟨?_, ?_, hnd'⟩, h2, hk.mono (by first | (simp; done) | (simp; grind))⟩
      · rw [h1, hd_append, lst_append, hd_append, hd_append]; rfl
      · rw [seg_append, seg_append, hd_cons, seg_cons, seg_cons, lst_append]
        exact ⟨⟨hk0, h3, trivial⟩, h4, hk1⟩
end Go.Proofs.Ytoplidleecbdeaa
