import Derived.Test.YtoplidleecbdeaaT14
import Derived.Test.YtoplidleecbdeaaRXs
set_option linter.unusedVariables false
set_option linter.unusedSimpArgs false
namespace Go.Proofs.Ytoplidleecbdeaa
open Go Go.RowKit Go.Proofs.RX Go.Maps Go.ChangeMaps
theorem nm37 : (Try.f37.name == "runtime.NumGoroutine") = false := by kernel_rfl
/-- Where somebody stands; -1: nowhere. -/
def tPlace (L : List E) (q : E) : Int := match L.findIdx? (same q) with
  | some i => i
  | none => -1
def PlS (w : World) (room : Int) (q : E) (L : List E) (g c b b1 j : Nat) : St :=
  { n := 22, tm := [(5, .lit (.int .i64 j)), (3, .ptr 1 b1 0), (2, .ptr 0 b 0)], hp := [(b, .cells [.lit (.int .i64 room), .lit (.slice (some ⟨g, 0, none⟩) L.length c)] 30), (b1, .cells [.lit (.int .i64 q.route), .lit (.int .i64 q.kind), .lit (.string q.name)] 38)], fp := fun x => x < w.heap.size, res := Below w.heap.size w }
def PlI (w : World) (room : Int) (q : E) (L : List E) (g c b b1 j : Nat) (s : St) : Prop := j ≤ L.length ∧ s = PlS w room q L g c b b1 j ∧ ∀ i e, i < j → L[i]? = some e → same q e = false
theorem tPlace_at {L : List E} {q e : E} {j : Nat} (h : ∀ i e, i < j → L[i]? = some e → same q e = false) (hj : L[j]? = some e) (he : same q e = true) : tPlace L q = j := by
  have : L.findIdx? (same q) = some j := by
    rw [List.findIdx?_eq_some_iff_getElem]
    obtain ⟨hlt, hg⟩ := List.getElem?_eq_some_iff.1 hj
    refine ⟨hlt, by rw [hg]; exact he, fun i hi => ?_⟩
    simpa using h i _ hi (List.getElem?_eq_getElem (by omega))
  rw [tPlace, this]
theorem tPlace_none {L : List E} {q : E} (h : ∀ i e, i < L.length → L[i]? = some e → same q e = false) : tPlace L q = -1 := by
  have : L.findIdx? (same q) = none := by
    rw [List.findIdx?_eq_none_iff]
    intro e he
    obtain ⟨i, hi⟩ := List.getElem?_of_mem he
    exact h i e (List.getElem?_eq_some_iff.1 hi).1 hi
  rw [tPlace, this]
set_option maxRecDepth 100000 in
theorem place_calls (room : Int) (q : E) (L : List E) (o : Option (Nat × Nat)) (ho : o = none → L.length = 0) (hlen : L.length ≤ 1024) (w : World) (hv : w.ownsRow 0 72 5 (slV L.length o) L.length (rowE L)) : Calls Try.prog 37 #[.agg #[.int .i64 room, slV L.length o], whoV q] w fun e w' => e = .returned (.int .i64 (tPlace L q)) ∧ Below w.heap.size w w' := by
  rcases o with _ | ⟨g, c⟩
  · have hl0 : L = [] := List.eq_nil_of_length_eq_zero (ho rfl)
    subst hl0
    refine calls_rx Γok [.lit (.agg #[.int .i64 room, .slice none 0 0]), .lit (.agg #[.int .i64 q.route, .int .i64 q.kind, .string q.name])] [] _ _ Try.func37 rfl (by rw [Try.ntmps37]; exact Nat.le_of_ble_eq_true rfl) (SatH.start _ _ w) ?_
    rw [Try.ntmps37, Try.results37]
    refine run_ok Γok (stops := []) 400 _ _ _ ?_
    simp only [argsF, Nat.zero_add, r_seq, r_reg, r_ops, rawOp, stopAt, memN, Bool.or_false, o_false, dstOk, Nat.reduceLT, gdK, stC, stpK, boxK, SV.flat, evO, getT, ↓reduceIte, litL, oneL, SV.one, Value.oneCell', and_true, putA, St.put, List.length_nil, SV.cells, List.nil_append, Nat.succ_ne_self, reduceCtorEq, List.length_cons, List.cons_append, pureK, rdK, kn, SV.known, r_ops_nil, r_block, r_loop, true_and]
    intro b b1
    refine VdT.loop (α := Unit) (fun _ s => s = _) (fun _ => 0) () rfl ?_
    rintro _ s' rfl
    refine run_ok Γok (stops := []) 400 _ _ _ ?_
    simp only [Nat.reduceLT, false_and, r_seq, r_reg, r_ops, rawOp, stopAt, memN, Bool.or_false, o_false, dstOk, gdK, stC, stpK, pureK, rdK, kn, SV.known, evO, getT, ↓reduceIte, putA, St.put, f30_1, ne_eq, Nat.succ_ne_self, not_false_eq_true, Nat.reduceEqDiff, Nat.zero_add, loadK, g28, getH, getL, callK, blenK, lenK, binK, intB, intK, r_ops_nil, r_cond, cndK, setB, r_skip, r_block, r_regd, calmN, calmOp, Bool.not_false, Bool.and_true, Nat.reduceAdd, List.length_cons, List.length_nil, Nat.reduceBEq, List.drop_succ_cons, List.drop_zero, plainL, d_run, d_true, h_cons, pureC, iaK, g72, and_false, r_exit, r_code_exit, r_nil, true_and]
    refine ⟨fun h => absurd (of_decide_eq_true h) (by omega), fun _ => ?_⟩
    refine run_ok Γok (stops := []) 400 _ _ _ ?_
    simp only [r_blk_hit, r_seq, r_reg, r_ops, rawOp, stopAt, memN, Bool.or_false, o_false, dstOk, Nat.reduceLT, gdK, stC, stpK, pureK, rdK, kn, SV.known, evO, putA, St.put, r_ops_nil, r_ret, r_nil, RX.Ends, retK, resvK, getT, ↓reduceIte, oneTup, true_and]
    exact fun w' hw => ⟨rfl, hw.rs⟩
  · refine calls_rx Γok [.lit (.agg #[.int .i64 room, .slice (some ⟨g, 0, none⟩) L.length c]), .lit (.agg #[.int .i64 q.route, .int .i64 q.kind, .string q.name])] [] _ _ Try.func37 rfl (by rw [Try.ntmps37]; exact Nat.le_of_ble_eq_true rfl) (SatH.start _ _ w) ?_
    rw [Try.ntmps37, Try.results37]
    refine run_ok Γok (stops := []) 400 _ _ _ ?_
    simp only [argsF, Nat.zero_add, r_seq, r_reg, r_ops, rawOp, stopAt, memN, Bool.or_false, o_false, dstOk, Nat.reduceLT, gdK, stC, stpK, boxK, SV.flat, evO, getT, ↓reduceIte, litL, oneL, SV.one, Value.oneCell', and_true, putA, St.put, List.length_nil, SV.cells, List.nil_append, Nat.succ_ne_self, reduceCtorEq, List.length_cons, List.cons_append, pureK, rdK, kn, SV.known, r_ops_nil, r_block, r_loop, true_and]
    intro b b1
    refine VdT.wk (s' := PlS w room q L g c b b1 0) (fun a w1 hs => hs.cutT _ ⟨rfl, rfl, rfl, trivial⟩) ?_
    refine VdT.loop (α := Nat) (PlI w room q L g c b b1) (fun j => L.length - j) 0 ⟨Nat.zero_le _, rfl, fun i e hi => absurd hi (by omega)⟩ ?_
    rintro j s' ⟨hj, rfl, hno⟩
    unfold PlS
    refine run_ok Γok (stops := []) 400 _ _ _ ?_
    simp only [r_seq, r_reg, r_ops, rawOp, stopAt, memN, Bool.or_false, o_false, dstOk, Nat.reduceLT, gdK, stC, stpK, pureK, rdK, kn, SV.known, evO, getT, ↓reduceIte, putA, St.put, f30_1, ne_eq, Nat.succ_ne_self, not_false_eq_true, Nat.reduceEqDiff, Nat.zero_add, loadK, g28, getH, getL, callK, blenK, lenK, binK, intB, intK, r_ops_nil, r_cond, cndK, setB, r_skip, r_block, r_regd, calmN, calmOp, Bool.not_false, Bool.and_true, Nat.reduceAdd, List.length_cons, List.length_nil, Nat.reduceBEq, List.drop_succ_cons, List.drop_zero, plainL, d_run, d_true, h_cons, pureC, iaK, g72, f72_0, reduceCtorEq, g38, Nat.le_refl, takeL, nilS, fb2, h_zero, Nat.lt_add_one, r_ret, r_blk_ret, r_code_ret, r_nil, true_and, r_blk_normal, r_exit, r_code_exit]
    refine ⟨fun hlt => ?_, fun hlt => ?_⟩
    · have hjl : j < L.length := by have := of_decide_eq_true hlt; omega
      obtain ⟨e, he⟩ : ∃ e, L[j]? = some e := ⟨L[j], by simp [hjl]⟩
      refine ⟨by unfold LexB; kernel_rfl, ⟨by omega, by omega⟩, [.int .i64 e.route, .int .i64 e.kind, .string e.name], rfl, fun w1 h1 i v hvv => ?_, .bs (sameB e q), rfl, fun w1 _ => eq38 _ _ e q w1, ?_⟩
      · rw [Int.toNat_natCast]
        have hown : w1.ownsRow 0 72 5 (slV L.length (some (g, c))) L.length (rowE L) := Dep.own 72 5 L.length _ _ w w1 (fun k hk => h1.block k (hv.lt k hk).2) h1.os h1.tape h1.output h1.size hv
        have h5 : (entL e)[i]? = some v := by
          match i with
          | 0 => exact hvv
          | 1 => exact hvv
          | 2 => exact hvv
          | i + 3 => simp at hvv
        have := own_ent hown he i v h5
        rw [add_none, add_none] at this
        rw [add_none, add_none, add_none]
        simpa using this
      simp only [fb2, intB, strB, iaK, r_nil, r_skip, r_seq, r_block, r_ret, r_exit, r_cond, r_reg, r_regd, d_stop, d_run, r_rg, r_chk, d_true, d_false, d_held, plainL, heldK, heldH, heldJ, heldT, tailK, keptS, blurH, tgtS, keepH, soEq, r_loop, r_code_ret, r_code_exit, r_ops_nil, r_ops, o_true, o_false, r_ops_ret, r_ops_exit, r_blk_normal, r_blk_ret, r_blk_hit, r_blk_miss, h_zero, h_cons, rawOp, stopAt, memN, calmOp, calmN, dstOk, gdK, gdvK, wantK, dstAt, stC, skC, pureC, rawC, stpK, pureK, rdK, kn, evO, getT, St.put, SV.known, pickK, selB, binK, intK, strK, eqK, notS, nilS, isConstO, loadK, lenK, blenK, callK, idxK, cnvK, mkiK, unK, bndK, cutK, storeK, allocK, boxK, putS, putA, buildOpK, buildK, aggC, partsL, bslK, bslC, catK, catC, nthP, getL, getH, setH, takeL, putL, SV.flat, SV.cells, SV.one, oneL, litL, cndK, setB, argsF, RX.Ends, retK, resvK, oneTup, evL, knownL, Value.oneCell', List.toList_toArray, List.length_cons, List.length_nil, List.append_eq, List.nil_append, List.cons_append, List.drop_succ_cons, List.drop_zero, List.map_cons, List.map_nil, List.mem_cons, List.not_mem_nil, or_false, forall_eq_or_imp, forall_eq, Nat.reduceAdd, Nat.reduceLT, Nat.reduceLeDiff, Nat.reduceEqDiff, Nat.reduceBEq, Nat.reduceMul, Nat.zero_add, Nat.add_zero, ↓reduceIte, Bool.or_false, Bool.or_true, Bool.false_or, Bool.true_or, Bool.and_true, Bool.true_and, Bool.and_false, Bool.false_and, Bool.not_true, Bool.not_false, reduceCtorEq, true_and, and_true, false_and, and_false, forall_false, forall_const, implies_true, imp_self, ne_eq, not_true_eq_false, not_false_eq_true, Nat.succ_ne_self, Nat.lt_add_one, Nat.le_refl, Nat.zero_le, Nat.zero_lt_succ, g3, g4, g9, g25, g23, g28, g30, g60, g62, g72, g73, g70, g80, g38, g40, g58, g59, g54, g42, s30, s72, s73, s70, s80, s38, s62, s40, f30_0, f30_1, f72_0, f72_1, f40_0, f40_1, f40_2, f40_3, f73_0, f73_1, f70_0, f70_1, f62_0, f62_1, f62_2, f62_3, f80_0, f80_1, f80_2, f80_3, f38_0, f38_1, f38_2, f42_0, f42_1, f42_2, f42_3]
      refine ⟨fun hs => ?_, fun hs => ?_⟩
      · refine run_ok Γok (stops := []) 400 _ _ _ ?_
        simp only [r_blk_ret, r_code_ret, r_nil, RX.Ends, retK, resvK, kn, SV.known, getT, ↓reduceIte, oneTup, true_and]
        intro w' hw
        rw [tPlace_at hno he (by rw [same_iff, ← (sameB_iff e q).1 hs])]
        exact ⟨rfl, hw.rs⟩
      · refine ⟨j + 1, PlS w room q L g c b b1 (j + 1), by omega, fun a w1 hs1 => hs1.cutT _ ⟨?_, rfl, rfl, trivial⟩, by omega, rfl, fun i e' hi he' => ?_⟩
        · simp only [getT, fb2, intB, strB, iaK, r_nil, r_skip, r_seq, r_block, r_ret, r_exit, r_cond, r_reg, r_regd, d_stop, d_run, r_rg, r_chk, d_true, d_false, d_held, plainL, heldK, heldH, heldJ, heldT, tailK, keptS, blurH, tgtS, keepH, soEq, r_loop, r_code_ret, r_code_exit, r_ops_nil, r_ops, o_true, o_false, r_ops_ret, r_ops_exit, r_blk_normal, r_blk_ret, r_blk_hit, r_blk_miss, h_zero, h_cons, rawOp, stopAt, memN, calmOp, calmN, dstOk, gdK, gdvK, wantK, dstAt, stC, skC, pureC, rawC, stpK, pureK, rdK, kn, evO, getT, St.put, SV.known, pickK, selB, binK, intK, strK, eqK, notS, nilS, isConstO, loadK, lenK, blenK, callK, idxK, cnvK, mkiK, unK, bndK, cutK, storeK, allocK, boxK, putS, putA, buildOpK, buildK, aggC, partsL, bslK, bslC, catK, catC, nthP, getL, getH, setH, takeL, putL, SV.flat, SV.cells, SV.one, oneL, litL, cndK, setB, argsF, RX.Ends, retK, resvK, oneTup, evL, knownL, Value.oneCell', List.toList_toArray, List.length_cons, List.length_nil, List.append_eq, List.nil_append, List.cons_append, List.drop_succ_cons, List.drop_zero, List.map_cons, List.map_nil, List.mem_cons, List.not_mem_nil, or_false, forall_eq_or_imp, forall_eq, Nat.reduceAdd, Nat.reduceLT, Nat.reduceLeDiff, Nat.reduceEqDiff, Nat.reduceBEq, Nat.reduceMul, Nat.zero_add, Nat.add_zero, ↓reduceIte, Bool.or_false, Bool.or_true, Bool.false_or, Bool.true_or, Bool.and_true, Bool.true_and, Bool.and_false, Bool.false_and, Bool.not_true, Bool.not_false, reduceCtorEq, true_and, and_true, false_and, and_false, forall_false, forall_const, implies_true, imp_self, ne_eq, not_true_eq_false, not_false_eq_true, Nat.succ_ne_self, Nat.lt_add_one, Nat.le_refl, Nat.zero_le, Nat.zero_lt_succ, g3, g4, g9, g25, g23, g28, g30, g60, g62, g72, g73, g70, g80, g38, g40, g58, g59, g54, g42, s30, s72, s73, s70, s80, s38, s62, s40, f30_0, f30_1, f72_0, f72_1, f40_0, f40_1, f40_2, f40_3, f73_0, f73_1, f70_0, f70_1, f62_0, f62_1, f62_2, f62_3, f80_0, f80_1, f80_2, f80_3, f38_0, f38_1, f38_2, f42_0, f42_1, f42_2, f42_3]
          rw [wrap_in (by omega) (by omega)]; rfl
        · by_cases hij : i < j
          · exact hno i e' hij he'
          · obtain rfl : i = j := by omega
            rw [he] at he'
            cases he'
            cases hss : same q e with
            | false => rfl
            | true =>
              have := (sameB_iff e q).2 ((same_iff q e).1 hss).symm
              rw [this] at hs
              cases hs
    · have hje : j = L.length := by have := of_decide_eq_false hlt; omega
      refine run_ok Γok (stops := []) 400 _ _ _ ?_
      simp only [r_blk_hit, r_seq, r_reg, r_ops, rawOp, stopAt, memN, Bool.or_false, o_false, dstOk, Nat.reduceLT, gdK, stC, stpK, pureK, rdK, kn, SV.known, evO, putA, St.put, r_ops_nil, r_ret, r_nil, RX.Ends, retK, resvK, getT, ↓reduceIte, oneTup, true_and]
      intro w' hw
      rw [tPlace_none (fun i e hi he => hno i e (by omega) he)]
      exact ⟨rfl, hw.rs⟩
end Go.Proofs.Ytoplidleecbdeaa
