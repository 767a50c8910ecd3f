import Derived.Test.YtoplidleecbdeaaT17
import Derived.Test.YtoplidleecbdeaaRXu
set_option linter.unusedVariables false
set_option linter.unusedSimpArgs false
namespace Go.Proofs.Ytoplidleecbdeaa
open Go Go.RowKit Go.Proofs.RX Go.Maps Go.ChangeMaps
def dE : E := ⟨0, 0, ⟨#[]⟩, 0, 0⟩
def entS (e : E) : List SV := [.lit (.int .i64 e.route), .lit (.int .i64 e.kind), .lit (.string e.name), .lit (.int .i64 e.pt), .lit (.int .i64 e.at_)]
def vecE (L : List E) (o : Option (Nat × Nat)) : SV := rowSV o L.length (fun j => entS (L.getD j dE))
/-- A row of entries. -/
def RowE (L : List E) (o : Option (Nat × Nat)) : World → Prop := Row 72 5 o L.length (rowL entS L)
theorem rowE_L (L : List E) : rowE L = rowL entS L := rfl
theorem slV_row (n : Nat) (o : Option (Nat × Nat)) (ho : o = none → n = 0) : slV n o = rowV n o := by
  rcases o with _ | ⟨g, c⟩
  · simp [slV, rowV, ho rfl]
  · rfl
theorem RowE.own {L : List E} {o : Option (Nat × Nat)} {w : World} (h : RowE L o w) : w.ownsRow 0 72 5 (slV L.length o) L.length (rowE L) := by
  rw [slV_row _ _ h.nil]; exact Row.own h
/-- A row of entries is being made. -/
def mkR (w : World) (o : Option (Nat × Nat)) (M : List E) (w' : World) : Prop := Below w.heap.size w w' ∧ RowE M o w'
def mkF (w : World) (o : Option (Nat × Nat)) (k : Nat) : Prop := k < w.heap.size ∨ rowB o = some k
theorem mkR_dep (w : World) (o : Option (Nat × Nat)) (M : List E) : Dep (mkF w o) (mkR w o M) := (Dep.below _ _ (Nat.le_refl _)).and (Row.dep 72 5 o M.length (rowL entS M))
theorem u28 : Try.prog.underlying 28 = some (.slice 72) := by kernel_rfl
theorem i72 : (Try.prog.info? 72).map (fun i => (i.size, i.bytes, i.zero.map (fun z => z.cells.size))) = some (5, 48, some 5) := by kernel_rfl
theorem far_e {w : World} {L M : List E} {o q : Option (Nat × Nat)} (hv : RowE L o w) {j : Nat} (hj : j < L.length) : Option.map (fun p : Nat × Nat => (p.1, 0)) o ≠ none ∧ Far (mkR w q M) ((Option.map (fun p : Nat × Nat => (p.1, 0)) o).getD (0, 0)).1 (((Option.map (fun p : Nat × Nat => (p.1, 0)) o).getD (0, 0)).2 + j * 5) (entS (L.getD j dE)) :=
  ⟨(Row.at (enc := entS) (fun _ => rfl) hv dE hj).1, fun w1 h1 => (Row.at (enc := entS) (fun _ => rfl) (Row.below hv h1.1) dE hj).2⟩
theorem take_snoc {L : List E} {j : Nat} (hj : j < L.length) : L.take (j + 1) = L.take j ++ [L.getD j dE] := by
  rw [List.take_add_one]
  congr 1
  simp [List.getElem?_eq_getElem hj, List.getD_eq_getElem?_getD]
theorem take_filter {L : List E} {p : E → Bool} {j : Nat} (hj : j < L.length) : (L.take (j + 1)).filter p = (L.take j).filter p ++ (if p (L.getD j dE) then [L.getD j dE] else []) := by
  rw [take_snoc hj, List.filter_append]
  congr 1
  generalize L.getD j dE = x
  cases h : p x <;> simp [List.filter, h]
def K23 (L : List E) (route : Int) (j : Nat) : List E := (L.take j).filter fun e => e.route != route
def S23 (w : World) (room route : Int) (L : List E) (o : Option (Nat × Nat)) (b1 b2 : Nat) (x : Nat × Option (Nat × Nat)) : St :=
  { n := 42, tm := [(7, .lit (.int .i64 x.1)), (6, vecE (K23 L route x.1) x.2), (5, .lit (.int .i64 0)), (4, .ptr 1 b2 0), (2, .ptr 0 b1 0), (1, .lit (.int .i64 route))], hp := [(b1, .cells [.lit (.int .i64 room), vecE L o] 30), (b2, .cells [.lit (.int .i64 0), .lit (.slice none 0 0)] 30)], fp := mkF w x.2, res := mkR w x.2 (K23 L route x.1) }
def I23 (w : World) (L : List E) (x : Nat × Option (Nat × Nat)) : Prop := x.1 ≤ L.length ∧ ∀ k, k < w.heap.size → rowB x.2 ≠ some k
set_option maxRecDepth 100000 in
/-- 'Drop' of the reference. -/
theorem r22drop_calls (room : Int) (hr : 1 ≤ room) (L : List E) (o : Option (Nat × Nat)) (hlen : L.length ≤ 1024) (w : World) (hv : RowE L o w) (route : Int) : Calls Try.prog 23 #[.agg #[.int .i64 room, rowV L.length o], .int .i64 route] w fun e w' =>
    ∃ o', e = .returned (.tuple #[.agg #[.int .i64 room, rowV (L.filter fun e => e.route != route).length o'], .int .i64 (L.length - (L.filter fun e => e.route != route).length)]) ∧ Below w.heap.size w w' ∧ RowE (L.filter fun e => e.route != route) o' w' ∧ ∀ k, rowB o' = some k → w.heap.size ≤ k := by
  refine args_eq [.agg [.lit (.int .i64 room), vecE L o], .lit (.int .i64 route)] (by simp only [vecE, ← rowSV_den o L.length (fun j => entS (L.getD j dE)), SV.den, denL]) ?_
  refine calls_rx Γok _ [] _ _ Try.func23 rfl (by rw [Try.ntmps23]; exact Nat.le_of_ble_eq_true rfl) (SatH.start _ _ w) ?_
  rw [Try.ntmps23, Try.results23]
  refine run_ok Γok (stops := []) 400 _ _ _ ?_
  simp only [argsF, vecE, rowSV, entS, Nat.zero_add, r_seq, r_reg, r_ops, rawOp, stopAt, memN, Bool.or_false, o_false, dstOk, Nat.reduceLT, gdK, stC, stpK, boxK, SV.flat, evO, getT, ↓reduceIte, oneL, SV.one, Value.oneCell', and_self, putA, St.put, List.length_nil, SV.cells, List.nil_append, allocK, g30, List.length_cons, litL, List.cons_append, pureK, rdK, kn, SV.known, r_ops_nil, r_block, r_loop, true_and]
  intro b1 b2
  refine VdT.loopS (S23 w room route L o b1 b2) (I23 w L) (fun x => L.length - x.1) (0, none) ⟨Nat.zero_le _, by simp [rowB]⟩ (Weak.cutD rfl ?_ ?_ (fun k hk => by rcases hk with h | h; exact h; simp [rowB] at h) (mkR_dep _ _ _) (fun w1 h1 => ⟨h1.rs, Row.empty _ _ _⟩)) ?_
  · (repeat' (first | exact trivial | rfl | refine And.intro ?_ ?_))
    all_goals simp only [fb2, intB, strB, iaK, r_nil, r_skip, r_seq, r_block, r_ret, r_exit, r_cond, r_reg, r_regd, d_stop, d_run, r_rg, r_chk, d_true, d_false, d_held, plainL, heldK, heldH, heldJ, heldT, tailK, keptS, blurH, tgtS, keepH, soEq, r_loop, r_code_ret, r_code_exit, r_ops_nil, r_ops, o_true, o_false, r_ops_ret, r_ops_exit, r_blk_normal, r_blk_ret, r_blk_hit, r_blk_miss, h_zero, h_cons, rawOp, stopAt, memN, calmOp, calmN, dstOk, gdK, gdvK, wantK, dstAt, stC, skC, pureC, rawC, stpK, pureK, rdK, kn, evO, getT, St.put, SV.known, pickK, selB, binK, intK, strK, eqK, notS, nilS, isConstO, loadK, lenK, blenK, callK, idxK, cnvK, mkiK, unK, bndK, cutK, storeK, allocK, boxK, putS, putA, buildOpK, buildK, aggC, partsL, bslK, bslC, catK, catC, nthP, getL, getH, setH, takeL, putL, SV.flat, SV.cells, SV.one, oneL, litL, cndK, setB, argsF, RX.Ends, retK, resvK, oneTup, evL, knownL, Value.oneCell', List.toList_toArray, List.length_cons, List.length_nil, List.append_eq, List.nil_append, List.cons_append, List.drop_succ_cons, List.drop_zero, List.map_cons, List.map_nil, List.mem_cons, List.not_mem_nil, or_false, forall_eq_or_imp, forall_eq, Nat.reduceAdd, Nat.reduceLT, Nat.reduceLeDiff, Nat.reduceEqDiff, Nat.reduceBEq, Nat.reduceMul, Nat.zero_add, Nat.add_zero, ↓reduceIte, Bool.or_false, Bool.or_true, Bool.false_or, Bool.true_or, Bool.and_true, Bool.true_and, Bool.and_false, Bool.false_and, Bool.not_true, Bool.not_false, reduceCtorEq, true_and, and_true, false_and, and_false, forall_false, forall_const, implies_true, imp_self, ne_eq, not_true_eq_false, not_false_eq_true, Nat.succ_ne_self, Nat.lt_add_one, Nat.le_refl, Nat.zero_le, Nat.zero_lt_succ, rowV_eq, rowSV, LoopK, Int.toNat_natCast, EndsK, doneK, SV.den, denL, Int.reduceBNe, Int.reduceBEq, Int.reduceLT, Int.reduceLE, Int.reduceEq, Int.reduceNe, Int.reduceNeg, Int.reduceAdd, Int.reduceSub, Int.reduceMul, beq_self_eq_true, bne_self_eq_false, decide_true, decide_false, decide_eq_true_eq, decide_eq_false_iff_not, beq_iff_eq, bne_iff_ne, beq_eq_false_iff_ne, bne_eq_false_iff_eq, Bool.not_eq_true', Bool.not_eq_false', Bool.true_eq_false, Bool.false_eq_true, not_false_eq_true, false_implies, true_implies, and_self, entS, vecE, g3, g4, g9, g25, g23, g28, g30, g60, g62, g72, g73, g70, g80, g38, g40, g58, g59, g54, g42, s30, s72, s73, s70, s80, s38, s62, s40, f30_0, f30_1, f72_0, f72_1, f40_0, f40_1, f40_2, f40_3, f73_0, f73_1, f70_0, f70_1, f62_0, f62_1, f62_2, f62_3, f80_0, f80_1, f80_2, f80_3, f38_0, f38_1, f38_2, f42_0, f42_1, f42_2, f42_3]
  · (repeat' (first | exact trivial | rfl | refine And.intro ?_ ?_))
    all_goals simp only [fb2, intB, strB, iaK, r_nil, r_skip, r_seq, r_block, r_ret, r_exit, r_cond, r_reg, r_regd, d_stop, d_run, r_rg, r_chk, d_true, d_false, d_held, plainL, heldK, heldH, heldJ, heldT, tailK, keptS, blurH, tgtS, keepH, soEq, r_loop, r_code_ret, r_code_exit, r_ops_nil, r_ops, o_true, o_false, r_ops_ret, r_ops_exit, r_blk_normal, r_blk_ret, r_blk_hit, r_blk_miss, h_zero, h_cons, rawOp, stopAt, memN, calmOp, calmN, dstOk, gdK, gdvK, wantK, dstAt, stC, skC, pureC, rawC, stpK, pureK, rdK, kn, evO, getT, St.put, SV.known, pickK, selB, binK, intK, strK, eqK, notS, nilS, isConstO, loadK, lenK, blenK, callK, idxK, cnvK, mkiK, unK, bndK, cutK, storeK, allocK, boxK, putS, putA, buildOpK, buildK, aggC, partsL, bslK, bslC, catK, catC, nthP, getL, getH, setH, takeL, putL, SV.flat, SV.cells, SV.one, oneL, litL, cndK, setB, argsF, RX.Ends, retK, resvK, oneTup, evL, knownL, Value.oneCell', List.toList_toArray, List.length_cons, List.length_nil, List.append_eq, List.nil_append, List.cons_append, List.drop_succ_cons, List.drop_zero, List.map_cons, List.map_nil, List.mem_cons, List.not_mem_nil, or_false, forall_eq_or_imp, forall_eq, Nat.reduceAdd, Nat.reduceLT, Nat.reduceLeDiff, Nat.reduceEqDiff, Nat.reduceBEq, Nat.reduceMul, Nat.zero_add, Nat.add_zero, ↓reduceIte, Bool.or_false, Bool.or_true, Bool.false_or, Bool.true_or, Bool.and_true, Bool.true_and, Bool.and_false, Bool.false_and, Bool.not_true, Bool.not_false, reduceCtorEq, true_and, and_true, false_and, and_false, forall_false, forall_const, implies_true, imp_self, ne_eq, not_true_eq_false, not_false_eq_true, Nat.succ_ne_self, Nat.lt_add_one, Nat.le_refl, Nat.zero_le, Nat.zero_lt_succ, rowV_eq, rowSV, LoopK, Int.toNat_natCast, EndsK, doneK, SV.den, denL, Int.reduceBNe, Int.reduceBEq, Int.reduceLT, Int.reduceLE, Int.reduceEq, Int.reduceNe, Int.reduceNeg, Int.reduceAdd, Int.reduceSub, Int.reduceMul, beq_self_eq_true, bne_self_eq_false, decide_true, decide_false, decide_eq_true_eq, decide_eq_false_iff_not, beq_iff_eq, bne_iff_ne, beq_eq_false_iff_ne, bne_eq_false_iff_eq, Bool.not_eq_true', Bool.not_eq_false', Bool.true_eq_false, Bool.false_eq_true, not_false_eq_true, false_implies, true_implies, and_self, entS, vecE, g3, g4, g9, g25, g23, g28, g30, g60, g62, g72, g73, g70, g80, g38, g40, g58, g59, g54, g42, s30, s72, s73, s70, s80, s38, s62, s40, f30_0, f30_1, f72_0, f72_1, f40_0, f40_1, f40_2, f40_3, f73_0, f73_1, f70_0, f70_1, f62_0, f62_1, f62_2, f62_3, f80_0, f80_1, f80_2, f80_3, f38_0, f38_1, f38_2, f42_0, f42_1, f42_2, f42_3]
  rintro ⟨j, q⟩ ⟨hj, hvb⟩
  simp only [S23]
  refine run_ok Γok (stops := []) 400 _ _ _ ?_
  simp only [vecE, rowSV, entS, r_seq, r_reg, r_ops, rawOp, stopAt, memN, Bool.or_false, o_false, dstOk, Nat.reduceLT, gdK, stC, stpK, pureK, rdK, kn, SV.known, evO, getT, ↓reduceIte, putA, St.put, f30_1, ne_eq, Nat.succ_ne_self, not_false_eq_true, Nat.reduceEqDiff, Nat.zero_add, loadK, g28, getH, getL, callK, blenK, lenK, binK, intB, intK, r_ops_nil, r_cond, cndK, decide_eq_true_eq, setB, r_skip, r_block, iaK, g72, Int.toNat_natCast, f72_0, reduceCtorEq, Nat.add_zero, f38_0, g3, bne_iff_ne, List.length_cons, List.length_nil, Nat.reduceAdd, Nat.le_refl, takeL, bslK, Nat.lt_add_one, Nat.zero_lt_succ, Nat.reduceMul, Nat.reduceLeDiff, partsL, catK, SV.flat, oneL, SV.one, Value.oneCell', and_self, SV.cells, catC, bslC, List.cons_append, List.nil_append, o_true, rawC, true_and, bne_eq_false_iff_eq, r_blk_normal, r_nil, LoopK, decide_eq_false_iff_not, r_exit, r_code_exit]
  refine ⟨fun hlt => ?_, fun hlt => ?_⟩
  · have hjl : j < L.length := by omega
    obtain ⟨hn, hfar⟩ := far_e (q := q) (M := K23 L route j) hv hjl
    refine ⟨⟨by omega, hlt, hn⟩, hfar, fun hne => ⟨⟨by omega, hlt, hn⟩, hfar, fun b => ?_⟩, fun heq => ?_⟩
    · have hle : (K23 L route j).length ≤ j := Nat.le_trans (List.length_filter_le _ _) (by simp; omega)
      refine VdT.appendV (fun i => entS ((K23 L route (j + 1)).getD i dE)) rfl rfl u28 i72 (by omega) rfl rfl rfl rfl (by simp [oneL, SV.one, Value.oneCell']) (by simp [dstOk]) rfl rfl (Dep.below _ _ (Nat.le_refl _)) hvb (by omega) (by omega) fun q' hq' => ?_
      have hK : K23 L route (j + 1) = K23 L route j ++ [L.getD j dE] := by
        rw [K23, take_filter hjl, if_pos (by simpa using hne)]; rfl
      refine run_ok Γok (stops := []) 400 _ _ _ ?_
      simp only [St.put, rowSV, entS, denL, SV.den, r_ops, rawOp, stopAt, memN, Bool.or_false, o_false, dstOk, Nat.reduceLT, gdK, stC, stpK, pureK, rdK, kn, SV.known, evO, getT, ↓reduceIte, putA, r_ops_nil, r_blk_normal, r_reg, Nat.reduceEqDiff, Nat.succ_ne_self, binK, intB, intK, r_nil, LoopK, true_and]
      refine ⟨(j + 1, q'), by simp only; omega, ⟨by simp only; omega, hq'⟩, Weak.cutD rfl ?_ ?_ (fun k hk => hk) (mkR_dep _ _ _) (fun w1 h1 => ?_)⟩
      · (repeat' (first | exact trivial | rfl | refine And.intro ?_ ?_))
        all_goals simp only [getT, ↓reduceIte, SV.den, Nat.succ_ne_self, Nat.reduceEqDiff, rowV_eq, vecE, rowSV, entS]
        · rw [wrap_in (by omega) (by omega)]; rfl
        · rw [hK, List.length_append]; rfl
      · (repeat' (first | exact trivial | rfl | refine And.intro ?_ ?_))
        all_goals simp only [fb2, intB, strB, iaK, r_nil, r_skip, r_seq, r_block, r_ret, r_exit, r_cond, r_reg, r_regd, d_stop, d_run, r_rg, r_chk, d_true, d_false, d_held, plainL, heldK, heldH, heldJ, heldT, tailK, keptS, blurH, tgtS, keepH, soEq, r_loop, r_code_ret, r_code_exit, r_ops_nil, r_ops, o_true, o_false, r_ops_ret, r_ops_exit, r_blk_normal, r_blk_ret, r_blk_hit, r_blk_miss, h_zero, h_cons, rawOp, stopAt, memN, calmOp, calmN, dstOk, gdK, gdvK, wantK, dstAt, stC, skC, pureC, rawC, stpK, pureK, rdK, kn, evO, getT, St.put, SV.known, pickK, selB, binK, intK, strK, eqK, notS, nilS, isConstO, loadK, lenK, blenK, callK, idxK, cnvK, mkiK, unK, bndK, cutK, storeK, allocK, boxK, putS, putA, buildOpK, buildK, aggC, partsL, bslK, bslC, catK, catC, nthP, getL, getH, setH, takeL, putL, SV.flat, SV.cells, SV.one, oneL, litL, cndK, setB, argsF, RX.Ends, retK, resvK, oneTup, evL, knownL, Value.oneCell', List.toList_toArray, List.length_cons, List.length_nil, List.append_eq, List.nil_append, List.cons_append, List.drop_succ_cons, List.drop_zero, List.map_cons, List.map_nil, List.mem_cons, List.not_mem_nil, or_false, forall_eq_or_imp, forall_eq, Nat.reduceAdd, Nat.reduceLT, Nat.reduceLeDiff, Nat.reduceEqDiff, Nat.reduceBEq, Nat.reduceMul, Nat.zero_add, Nat.add_zero, ↓reduceIte, Bool.or_false, Bool.or_true, Bool.false_or, Bool.true_or, Bool.and_true, Bool.true_and, Bool.and_false, Bool.false_and, Bool.not_true, Bool.not_false, reduceCtorEq, true_and, and_true, false_and, and_false, forall_false, forall_const, implies_true, imp_self, ne_eq, not_true_eq_false, not_false_eq_true, Nat.succ_ne_self, Nat.lt_add_one, Nat.le_refl, Nat.zero_le, Nat.zero_lt_succ, rowV_eq, rowSV, LoopK, Int.toNat_natCast, EndsK, doneK, SV.den, denL, Int.reduceBNe, Int.reduceBEq, Int.reduceLT, Int.reduceLE, Int.reduceEq, Int.reduceNe, Int.reduceNeg, Int.reduceAdd, Int.reduceSub, Int.reduceMul, beq_self_eq_true, bne_self_eq_false, decide_true, decide_false, decide_eq_true_eq, decide_eq_false_iff_not, beq_iff_eq, bne_iff_ne, beq_eq_false_iff_ne, bne_eq_false_iff_eq, Bool.not_eq_true', Bool.not_eq_false', Bool.true_eq_false, Bool.false_eq_true, not_false_eq_true, false_implies, true_implies, and_self, entS, vecE, g3, g4, g9, g25, g23, g28, g30, g60, g62, g72, g73, g70, g80, g38, g40, g58, g59, g54, g42, s30, s72, s73, s70, s80, s38, s62, s40, f30_0, f30_1, f72_0, f72_1, f40_0, f40_1, f40_2, f40_3, f73_0, f73_1, f70_0, f70_1, f62_0, f62_1, f62_2, f62_3, f80_0, f80_1, f80_2, f80_3, f38_0, f38_1, f38_2, f42_0, f42_1, f42_2, f42_3]
      · have h2 := h1.rs
        refine ⟨h2.1, ?_⟩
        unfold RowE
        simp only
        rw [hK, List.length_append, rowL_snoc]
        exact h2.2
    · have hK : K23 L route (j + 1) = K23 L route j := by
        rw [K23, take_filter hjl, if_neg (by simpa using heq), List.append_nil]; rfl
      refine ⟨(j + 1, q), by simp only; omega, ⟨by simp only; omega, hvb⟩, Weak.cutD rfl ?_ ?_ (fun k hk => hk) (mkR_dep _ _ _) (fun w1 h1 => ?_)⟩
      · (repeat' (first | exact trivial | rfl | refine And.intro ?_ ?_))
        all_goals simp only [getT, ↓reduceIte, SV.den, Nat.succ_ne_self, Nat.reduceEqDiff, rowV_eq, vecE, rowSV, entS]
        · rw [wrap_in (by omega) (by omega)]; rfl
        · rw [hK]
      · (repeat' (first | exact trivial | rfl | refine And.intro ?_ ?_))
        all_goals simp only [fb2, intB, strB, iaK, r_nil, r_skip, r_seq, r_block, r_ret, r_exit, r_cond, r_reg, r_regd, d_stop, d_run, r_rg, r_chk, d_true, d_false, d_held, plainL, heldK, heldH, heldJ, heldT, tailK, keptS, blurH, tgtS, keepH, soEq, r_loop, r_code_ret, r_code_exit, r_ops_nil, r_ops, o_true, o_false, r_ops_ret, r_ops_exit, r_blk_normal, r_blk_ret, r_blk_hit, r_blk_miss, h_zero, h_cons, rawOp, stopAt, memN, calmOp, calmN, dstOk, gdK, gdvK, wantK, dstAt, stC, skC, pureC, rawC, stpK, pureK, rdK, kn, evO, getT, St.put, SV.known, pickK, selB, binK, intK, strK, eqK, notS, nilS, isConstO, loadK, lenK, blenK, callK, idxK, cnvK, mkiK, unK, bndK, cutK, storeK, allocK, boxK, putS, putA, buildOpK, buildK, aggC, partsL, bslK, bslC, catK, catC, nthP, getL, getH, setH, takeL, putL, SV.flat, SV.cells, SV.one, oneL, litL, cndK, setB, argsF, RX.Ends, retK, resvK, oneTup, evL, knownL, Value.oneCell', List.toList_toArray, List.length_cons, List.length_nil, List.append_eq, List.nil_append, List.cons_append, List.drop_succ_cons, List.drop_zero, List.map_cons, List.map_nil, List.mem_cons, List.not_mem_nil, or_false, forall_eq_or_imp, forall_eq, Nat.reduceAdd, Nat.reduceLT, Nat.reduceLeDiff, Nat.reduceEqDiff, Nat.reduceBEq, Nat.reduceMul, Nat.zero_add, Nat.add_zero, ↓reduceIte, Bool.or_false, Bool.or_true, Bool.false_or, Bool.true_or, Bool.and_true, Bool.true_and, Bool.and_false, Bool.false_and, Bool.not_true, Bool.not_false, reduceCtorEq, true_and, and_true, false_and, and_false, forall_false, forall_const, implies_true, imp_self, ne_eq, not_true_eq_false, not_false_eq_true, Nat.succ_ne_self, Nat.lt_add_one, Nat.le_refl, Nat.zero_le, Nat.zero_lt_succ, rowV_eq, rowSV, LoopK, Int.toNat_natCast, EndsK, doneK, SV.den, denL, Int.reduceBNe, Int.reduceBEq, Int.reduceLT, Int.reduceLE, Int.reduceEq, Int.reduceNe, Int.reduceNeg, Int.reduceAdd, Int.reduceSub, Int.reduceMul, beq_self_eq_true, bne_self_eq_false, decide_true, decide_false, decide_eq_true_eq, decide_eq_false_iff_not, beq_iff_eq, bne_iff_ne, beq_eq_false_iff_ne, bne_eq_false_iff_eq, Bool.not_eq_true', Bool.not_eq_false', Bool.true_eq_false, Bool.false_eq_true, not_false_eq_true, false_implies, true_implies, and_self, entS, vecE, g3, g4, g9, g25, g23, g28, g30, g60, g62, g72, g73, g70, g80, g38, g40, g58, g59, g54, g42, s30, s72, s73, s70, s80, s38, s62, s40, f30_0, f30_1, f72_0, f72_1, f40_0, f40_1, f40_2, f40_3, f73_0, f73_1, f70_0, f70_1, f62_0, f62_1, f62_2, f62_3, f80_0, f80_1, f80_2, f80_3, f38_0, f38_1, f38_2, f42_0, f42_1, f42_2, f42_3]
      · have h2 := h1.rs
        refine ⟨h2.1, ?_⟩
        unfold RowE
        simp only
        rw [hK]
        exact h2.2
  · obtain rfl : j = L.length := by simp only at hj; omega
    refine run_ok Γok (stops := []) 400 _ _ _ ?_
    simp only [r_blk_hit, r_seq, r_regd, calmN, calmOp, rawOp, Bool.not_false, stopAt, memN, Bool.and_true, Nat.zero_add, Nat.reduceAdd, List.length_cons, List.length_nil, Nat.reduceBEq, List.drop_succ_cons, List.drop_zero, plainL, Bool.or_false, d_run, d_held, heldK, h_cons, dstOk, Nat.reduceLT, gdK, pureC, pureK, rdK, f30_0, ne_eq, Nat.succ_ne_self, not_false_eq_true, evO, getT, Nat.reduceEqDiff, ↓reduceIte, putA, St.put, Nat.add_zero, loadK, g3, getH, getL, kn, SV.known, buildOpK, g30, s30, litL, partsL, buildK, nthP, SV.flat, SV.one, Value.oneCell', SV.cells, Nat.reduceLeDiff, putL, Nat.le_refl, aggC, f30_1, g28, callK, blenK, lenK, Nat.lt_add_one, binK, intB, intK, h_zero, heldH, heldJ, tgtS, blurH, setH, keepH, soEq, denL, SV.den, rowV_eq, and_self, heldT, tailK, stC, stpK, storeK, oneL, putS, keptS, r_ret, r_nil, RX.Ends, retK, resvK, oneTup, takeL, true_and]
    refine And.intro (by first | (unfold LexTailB; kernel_rfl) | (unfold LexB; kernel_rfl) | (unfold LexHeldB; kernel_rfl)) ?_
    intro w' hw
    have h2 := hw.rs
    have hK : K23 L route L.length = L.filter fun e => e.route != route := by rw [K23, List.take_length]
    refine ⟨q, ?_, h2.1, hK ▸ h2.2, fun k hk => Nat.le_of_not_lt fun h => hvb k h hk⟩
    have hle : (L.filter fun e => e.route != route).length ≤ L.length := List.length_filter_le _ _
    rw [hK, wrap_in (by omega) (by omega)]
