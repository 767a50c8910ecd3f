import Derived.Test.YtoplidleecbdeaaT15
import Derived.Test.YtoplidleecbdeaaRXu
set_option linter.unusedVariables false
set_option linter.unusedSimpArgs false
namespace Go.Proofs.Ytoplidleecbdeaa
open Go Go.RowKit Go.Proofs.RX Go.Maps Go.ChangeMaps
theorem nm33 : (Try.f33.name == "runtime.NumGoroutine") = false := by kernel_rfl
theorem own_below {w w1 : World} {e : TypeId} {size n : Nat} {v : Value} {xs : List Value} (hv : w.ownsRow 0 e size v n xs) (h1 : Below w.heap.size w w1) : w1.ownsRow 0 e size v n xs := Dep.own e size n _ _ w w1 (fun k hk => h1.block k (hv.lt k hk).2) h1.os h1.tape h1.output h1.size hv
/-- 'bucket' of the reference. -/
def rBucket (room : Int) (L : List E) (q : E) (r p b now : Int) : Int × Int × Int :=
  if ¬ bOk r p b then (0, 0, 4)
  else if ¬ okT now ∨ room = 0 then (0, 0, 1)
  else match lk L q with
    | some e => (e.pt, e.at_, 0)
    | none => ((bFull r p b now).1, (bFull r p b now).2.1, numE (bFull r p b now).2.2)
theorem lk_place (L : List E) (q : E) : (∃ (j : Nat) (e : E), lk L q = some e ∧ L[j]? = some e ∧ tPlace L q = j ∧ same q e = true ∧ j < L.length) ∨ (lk L q = none ∧ tPlace L q = -1 ∧ ∀ e ∈ L, same q e = false) := by
  unfold lk tPlace
  cases h : L.findIdx? (same q) with
  | some j =>
    rw [List.findIdx?_eq_some_iff_getElem] at h
    obtain ⟨hlt, hs, hno⟩ := h
    refine .inl ⟨j, L[j], ?_, List.getElem?_eq_getElem hlt, rfl, hs, hlt⟩
    rw [List.find?_eq_some_iff_getElem]
    exact ⟨hs, j, hlt, rfl, fun k hk => by simpa using hno k hk⟩
  | none =>
    rw [List.findIdx?_eq_none_iff] at h
    exact .inr ⟨by rw [List.find?_eq_none]; simpa using h, rfl, h⟩
theorem rB_bad {room : Int} {L : List E} {q : E} {r p b now : Int} (hb : bOk r p b) (h : ¬ okT now ∨ room = 0) : rBucket room L q r p b now = (0, 0, 1) := by
  rw [rBucket, if_neg (by simpa using hb), if_pos h]
set_option maxRecDepth 100000 in
theorem rbucket_calls (room : Int) (q : E) (L : List E) (o : Option (Nat × Nat)) (ho : o = none → L.length = 0) (hlen : L.length ≤ 1024) (g r p b now : Int) (w : World) (hv : w.ownsRow 0 72 5 (slV L.length o) L.length (rowE L)) : AnsF Try.prog 33 #[.agg #[.int .i64 room, slV L.length o], whoV q, .agg #[.int .i64 g, .int .i64 r, .int .i64 p, .int .i64 b], .int .i64 now] w (.tuple #[.agg #[.int .i64 (rBucket room L q r p b now).1, .int .i64 (rBucket room L q r p b now).2.1], .int .i64 (rBucket room L q r p b now).2.2]) := by
  refine fn_rx Γok [.lit (.agg #[.int .i64 room, slV L.length o]), .lit (.agg #[.int .i64 q.route, .int .i64 q.kind, .string q.name]), .lit (.agg #[.int .i64 g, .int .i64 r, .int .i64 p, .int .i64 b]), .lit (.int .i64 now)] Try.func33 rfl (by rw [Try.ntmps33]; exact Nat.le_of_ble_eq_true rfl) ?_
  rw [Try.ntmps33, Try.results33]
  refine run_ok Γok (stops := []) 400 _ _ _ ?_
  simp only [argsF, slV, Nat.zero_add, Nat.reduceAdd, r_seq, r_reg, r_ops, rawOp, stopAt, memN, Bool.or_false, o_false, dstOk, Nat.reduceLT, gdK, stC, stpK, boxK, SV.flat, evO, getT, ↓reduceIte, litL, oneL, SV.one, Value.oneCell', and_true, true_and, putA, St.put, List.length_nil, SV.cells, List.nil_append, Nat.reduceEqDiff, reduceCtorEq, and_self, List.length_cons, List.cons_append, allocK, g70, pureK, rdK, kn, SV.known, r_ops_nil, loadK, g40, getH, Nat.le_refl, takeL, o_true, rawC]
  refine ⟨by cases o <;> rfl, fun b1 b2 b3 b4 => ?_⟩
  by_cases hb : bOk r p b
  · refine VdT.callA rfl rfl rfl Try.func17 rfl nm17 (by simp only [evL, evO, getT, ↓reduceIte, knownL, SV.known, and_self]) (by simp only [dstOk, Nat.reduceLT]) (.lit (.int .i64 0)) rfl (fun w1 hw1 => (by have := rvalid_calls g r p b w1; rw [if_pos hb] at this; exact this)) ?_
    refine run_ok Γok (stops := []) 400 _ _ _ ?_
    simp only [St.put, r_ops, rawOp, stopAt, memN, Bool.or_false, o_false, dstOk, Nat.reduceLT, gdK, stC, stpK, pureK, rdK, kn, SV.known, evO, getT, ↓reduceIte, putA, r_ops_nil, r_seq, r_reg, binK, intB, intK, bne_self_eq_false, r_cond, cndK, Bool.false_eq_true, setB, buildOpK, g70, s70, litL, partsL, buildK, aggC, Nat.reduceEqDiff, storeK, Nat.succ_ne_self, getH, SV.flat, oneL, SV.one, Value.oneCell', and_self, SV.cells, List.length_cons, List.length_nil, Nat.zero_add, Nat.reduceAdd, Nat.le_refl, putS, setH, putL, r_ret, r_code_ret, r_nil, EndsK, retK, resvK, loadK, oneTup, doneK, imp_self, forall_const, SV.den, denL, takeL, true_and, forall_false, r_skip, reduceCtorEq, dstAt, gdvK, decide_eq_true_eq, wantK, skC, pickK, selB, decide_eq_false_iff_not, f30_0, ne_eq, not_false_eq_true, Nat.add_zero, g3, getL, beq_iff_eq, beq_eq_false_iff_ne, g30, g38, o_true, rawC]
    (repeat' (first | refine And.intro (by unfold LexTailB; kernel_rfl) ?_ | refine And.intro (by unfold LexHeldB; kernel_rfl) ?_ | refine And.intro (by unfold LexB; kernel_rfl) ?_ | refine And.intro ?_ ?_ | refine fun (_ : (_ : Prop)) => ?_ | refine fun (_ : Nat) => ?_))
    · rw [rB_bad hb (.inl (by unfold okT; omega))]
    · rw [rB_bad hb (.inl (by unfold okT; omega))]
    · rw [rB_bad hb (.inr (by assumption))]
    · rename_i h1 h2 h3
      have ht : okT now := by unfold okT; omega
      refine VdT.callA rfl rfl rfl Try.func37 rfl nm37 (by simp only [evL, evO, getT, Nat.succ_ne_self, ↓reduceIte, knownL, SV.known, and_self]) (by simp only [dstOk, Nat.reduceLT]) (.lit (.int .i64 (tPlace L q))) rfl (fun w1 hw1 => place_calls room q L o ho hlen w1 (own_below hv hw1.rs)) ?_
      rcases lk_place L q with ⟨j, e, hl, hj, htp, hs, hlt⟩ | ⟨hl, htp, hno⟩
      · rw [htp]
        rcases o with _ | ⟨gg, c⟩
        · exact absurd (ho rfl) (by omega)
        refine run_ok Γok (stops := []) 400 _ _ _ ?_
        simp only [St.put, r_ops, rawOp, stopAt, memN, Bool.or_false, o_false, dstOk, Nat.reduceLT, gdK, stC, stpK, pureK, rdK, kn, SV.known, evO, getT, ↓reduceIte, putA, r_ops_nil, r_seq, r_reg, binK, intB, intK, r_cond, cndK, decide_eq_true_eq, setB, f30_1, ne_eq, Nat.succ_ne_self, not_false_eq_true, Nat.reduceEqDiff, Nat.zero_add, loadK, g28, getH, getL, iaK, g72, Int.toNat_natCast, f72_1, reduceCtorEq, g70, storeK, SV.flat, SV.cells, List.length_cons, List.length_nil, Nat.reduceAdd, Nat.le_refl, putS, setH, r_ret, r_code_ret, r_nil, EndsK, retK, resvK, oneTup, doneK, imp_self, forall_const, SV.den, denL, true_and, decide_eq_false_iff_not, r_skip, g40, takeL, o_true, rawC]
        refine ⟨fun _ => ⟨⟨by omega, by omega⟩, [.int .i64 e.pt, .int .i64 e.at_], rfl, fun w1 h1 i v hvv => ?_, ?_⟩, fun h => absurd h (by omega)⟩
        · have h5 : (entL e)[3 + i]? = some v := by
            match i with
            | 0 => exact hvv
            | 1 => exact hvv
            | i + 2 => simp at hvv
          have := own_ent (own_below hv h1) hj (3 + i) v h5
          simpa [add_none, Nat.add_assoc] using this
        · simp only [litL, oneL, SV.one, Value.oneCell', and_self, List.length_cons, List.length_nil, Nat.zero_add, Nat.reduceAdd, putL, Nat.le_refl, takeL, denL, SV.den, true_and]
          rw [rBucket, if_neg (by simpa using hb), if_neg (by simp [ht, h3]), hl]
      · rw [htp]
        refine run_ok Γok (stops := []) 400 _ _ _ ?_
        simp only [St.put, Int.reduceNeg, r_ops, rawOp, stopAt, memN, Bool.or_false, o_false, dstOk, Nat.reduceLT, gdK, stC, stpK, pureK, rdK, kn, SV.known, evO, getT, ↓reduceIte, putA, r_ops_nil, r_seq, r_reg, binK, intB, intK, Int.reduceLE, decide_false, r_cond, cndK, Bool.false_eq_true, setB, f30_1, ne_eq, Nat.succ_ne_self, not_false_eq_true, Nat.reduceEqDiff, Nat.zero_add, loadK, g28, getH, getL, iaK, g72, f72_1, reduceCtorEq, g70, storeK, SV.flat, SV.cells, List.length_cons, List.length_nil, Nat.reduceAdd, Nat.le_refl, putS, setH, r_ret, r_code_ret, r_nil, EndsK, retK, resvK, oneTup, doneK, imp_self, forall_const, SV.den, denL, true_and, forall_false, r_skip, g40, takeL, o_true, rawC]
        refine VdT.callA rfl rfl rfl Try.func40 rfl nm40 (by simp only [evL, evO, getT, Nat.succ_ne_self, ↓reduceIte, knownL, SV.known, and_self]) (by simp only [dstOk, Nat.reduceLT]) (.tup [.agg [.lit (.int .i64 (bFull r p b now).1), .lit (.int .i64 (bFull r p b now).2.1)], .lit (.int .i64 (numE (bFull r p b now).2.2))]) rfl (fun w1 hw1 => rfull_calls g r p b now w1) ?_
        refine run_ok Γok (stops := []) 400 _ _ _ ?_
        simp only [St.put, Int.reduceNeg, r_ops, rawOp, stopAt, memN, Bool.or_false, o_false, dstOk, Nat.reduceLT, gdK, stC, stpK, pureK, rdK, evO, getT, ↓reduceIte, getL, kn, SV.known, putA, Nat.lt_add_one, Nat.succ_ne_self, storeK, g70, Nat.reduceEqDiff, getH, SV.flat, oneL, SV.one, Value.oneCell', and_self, SV.cells, List.length_cons, List.length_nil, Nat.zero_add, Nat.reduceAdd, Nat.le_refl, putS, setH, putL, r_ops_nil, r_ret, r_nil, EndsK, retK, resvK, loadK, oneTup, doneK, imp_self, forall_const, SV.den, denL, takeL, true_and]
        rw [rBucket, if_neg (by simpa using hb), if_neg (by simp [ht, h3]), hl]
  · refine VdT.callA rfl rfl rfl Try.func17 rfl nm17 (by simp only [evL, evO, getT, ↓reduceIte, knownL, SV.known, and_self]) (by simp only [dstOk, Nat.reduceLT]) (.lit (.int .i64 4)) rfl (fun w1 hw1 => (by have := rvalid_calls g r p b w1; rw [if_neg hb] at this; exact this)) ?_
    refine run_ok Γok (stops := []) 400 _ _ _ ?_
    simp only [St.put, r_ops, rawOp, stopAt, memN, Bool.or_false, o_false, dstOk, Nat.reduceLT, gdK, stC, stpK, pureK, rdK, kn, SV.known, evO, getT, ↓reduceIte, putA, r_ops_nil, r_seq, r_reg, binK, intB, intK, Int.reduceBNe, r_cond, cndK, setB, buildOpK, g70, s70, litL, partsL, buildK, aggC, Nat.reduceEqDiff, storeK, Nat.succ_ne_self, getH, SV.flat, oneL, SV.one, Value.oneCell', and_self, SV.cells, List.length_cons, List.length_nil, Nat.zero_add, Nat.reduceAdd, Nat.le_refl, putS, setH, putL, r_ret, r_code_ret, r_nil, EndsK, retK, resvK, loadK, oneTup, doneK, imp_self, forall_const, SV.den, denL, takeL, true_and, Bool.true_eq_false, r_skip, reduceCtorEq, dstAt, gdvK, decide_eq_true_eq, wantK, skC, pickK, selB, decide_eq_false_iff_not, f30_0, ne_eq, not_false_eq_true, Nat.add_zero, g3, getL, beq_iff_eq, beq_eq_false_iff_ne, g30, g38, o_true, rawC, forall_false, and_true]
    rw [rBucket, if_pos hb]
