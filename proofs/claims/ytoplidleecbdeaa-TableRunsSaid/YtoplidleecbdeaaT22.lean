import Derived.Test.YtoplidleecbdeaaT21
set_option linter.unusedVariables false
set_option linter.unusedSimpArgs false
namespace Go.Proofs.Ytoplidleecbdeaa
open Go Go.RowKit Go.Proofs.RX Go.Maps Go.ChangeMaps
structure Ac where
  kd : Int
  q : E
  g : Int
  r : Int
  p : Int
  b : Int
  now : Int
def actS (a : Ac) : List SV := [.lit (.int .i64 a.kd), .lit (.int .i64 a.q.route), .lit (.int .i64 a.q.kind), .lit (.string a.q.name), .lit (.int .i64 a.g), .lit (.int .i64 a.r), .lit (.int .i64 a.p), .lit (.int .i64 a.b), .lit (.int .i64 a.now)]
set_option maxRecDepth 100000 in
theorem rnew_calls (room : Int) (w : World) (h : 1 ≤ room ∧ room ≤ 1024) : AnsF Try.prog 6 #[.int .i64 room] w (.tuple #[.agg #[.int .i64 room, .slice none 0 0], .int .i64 0]) := by
  refine fn_rx Γok [.lit (.int .i64 room)] Try.func6 rfl (by rw [Try.ntmps6]; exact Nat.le_of_ble_eq_true rfl) ?_
  rw [Try.ntmps6, Try.results6]
  refine run_ok Γok (stops := []) 400 _ _ _ ?_
  simp only [argsF, r_seq, r_reg, r_ops, rawOp, stopAt, memN, Bool.or_false, o_false, dstOk, Nat.reduceLT, gdK, stC, stpK, allocK, g30, putA, St.put, List.length_nil, litL, List.nil_append, pureK, rdK, kn, SV.known, evO, r_ops_nil, getT, reduceCtorEq, ↓reduceIte, binK, intB, intK, dstAt, gdvK, decide_eq_true_eq, wantK, skC, Nat.succ_ne_self, pickK, Nat.reduceEqDiff, selB, r_cond, cndK, buildOpK, s30, partsL, buildK, aggC, storeK, getH, SV.flat, oneL, SV.one, Value.oneCell', and_self, SV.cells, List.length_cons, Nat.zero_add, Nat.reduceAdd, Nat.le_refl, putS, setH, putL, r_ret, r_code_ret, r_nil, EndsK, retK, resvK, loadK, oneTup, doneK, imp_self, forall_const, SV.den, denL, takeL, true_and, decide_eq_false_iff_not, setB, r_skip, Nat.lt_add_one, nthP, Nat.reduceLeDiff, implies_true, and_true]
  (repeat' (first | assumption | omega | refine And.intro (by unfold LexTailB; kernel_rfl) ?_ | refine And.intro (by unfold LexHeldB; kernel_rfl) ?_ | refine And.intro (by unfold LexB; kernel_rfl) ?_ | refine And.intro ?_ ?_ | refine fun (_ : (_ : Prop)) => ?_ | refine fun (_ : Nat) => ?_))
set_option maxRecDepth 100000 in
theorem rnew_bad (room : Int) (w : World) (h : ¬ (1 ≤ room ∧ room ≤ 1024)) : AnsF Try.prog 6 #[.int .i64 room] w (.tuple #[.agg #[.int .i64 0, .slice none 0 0], .int .i64 1]) := by
  refine fn_rx Γok [.lit (.int .i64 room)] Try.func6 rfl (by rw [Try.ntmps6]; exact Nat.le_of_ble_eq_true rfl) ?_
  rw [Try.ntmps6, Try.results6]
  refine run_ok Γok (stops := []) 400 _ _ _ ?_
  simp only [argsF, r_seq, r_reg, r_ops, rawOp, stopAt, memN, Bool.or_false, o_false, dstOk, Nat.reduceLT, gdK, stC, stpK, allocK, g30, putA, St.put, List.length_nil, litL, List.nil_append, pureK, rdK, kn, SV.known, evO, r_ops_nil, getT, reduceCtorEq, ↓reduceIte, binK, intB, intK, dstAt, gdvK, decide_eq_true_eq, wantK, skC, Nat.succ_ne_self, pickK, Nat.reduceEqDiff, selB, r_cond, cndK, buildOpK, s30, partsL, buildK, aggC, storeK, getH, SV.flat, oneL, SV.one, Value.oneCell', and_self, SV.cells, List.length_cons, Nat.zero_add, Nat.reduceAdd, Nat.le_refl, putS, setH, putL, r_ret, r_code_ret, r_nil, EndsK, retK, resvK, loadK, oneTup, doneK, imp_self, forall_const, SV.den, denL, takeL, implies_true, decide_eq_false_iff_not, setB, r_skip, Nat.lt_add_one, nthP, Nat.reduceLeDiff, true_and]
  (repeat' (first | assumption | omega | refine And.intro (by unfold LexTailB; kernel_rfl) ?_ | refine And.intro (by unfold LexHeldB; kernel_rfl) ?_ | refine And.intro (by unfold LexB; kernel_rfl) ?_ | refine And.intro ?_ ?_ | refine fun (_ : (_ : Prop)) => ?_ | refine fun (_ : Nat) => ?_))
theorem _root_.Go.Proofs.RX.cellsAt.below {w w1 : World} {b o : Nat} {l : List SV} (h : cellsAt w b o l) (hb : b < w.heap.size) (h1 : Below w.heap.size w w1) : cellsAt w1 b o l := fun j v hv => by
  rw [← h j v hv]
  unfold World.cell?
  rw [h1.block b hb]
theorem len_of {w0 w : World} {t m : Nat} {room : Int} {l : List (Nat × E)} {L M : List E} {o : Option (Nat × Nat)} (h : DI w0 t m room l L M o w) :
    Calls Try.prog 11 #[pv (some t)] w fun e' w' => e' = .returned (.int .i64 L.length) ∧ Below w.heap.size w w' := by
  have h2 := len_calls h.1.1
  have h3 : l.length = L.length := by rw [← h.1.2.2.1]; simp
  rw [h3] at h2
  exact h2
structure X3 where
  j : Nat
  l : List (Nat × E)
  L : List E
  o : Option (Nat × Nat)
def S3 (w : World) (room : Int) (t m : Nat) (oA : Option (Nat × Nat)) (n cA : Nat) (A : Nat → Ac) (b1 : Nat) (x : X3) : St :=
  { n := 83, tm := [(9, .lit (.int .i64 x.j)), (5, .lit (.pointer (some ⟨t, 0, none⟩))), (7, .ptr 0 b1 0), (4, .lit (.bool false)), (1, .vec oA n cA fun j => actS (A j)), (0, .lit (.int .i64 room))], hp := [(b1, .cells [.lit (.int .i64 room), vecE x.L x.o] 30)], fp := DF w t m x.l x.o, res := DI w t m room x.l x.L x.L x.o }
def I3 (room : Int) (n : Nat) (x : X3) : Prop := x.j ≤ n ∧ x.j ≤ 300 ∧ (x.L.length : Int) ≤ room
set_option maxRecDepth 100000 in
theorem runs_calls (room : Int) (n : Nat) (hn : n ≤ 9223372036854775807) (oA : Option (Nat × Nat)) (cA : Nat) (A : Nat → Ac) (w : World) (hq : ∀ j, j < n → okE (A j).q) (hA : ∀ j, j < n → oA ≠ none ∧ (oA.getD (0, 0)).1 < w.heap.size ∧ cellsAt w (oA.getD (0, 0)).1 ((oA.getD (0, 0)).2 + j * 9) (actS (A j))) : Calls Try.prog 3 #[.int .i64 room, (SV.vec oA n cA fun j => actS (A j)).den] w fun e w' => e = .returned (.bool true) ∧ Below w.heap.size w w' := by
  refine args_eq [.lit (.int .i64 room), .vec oA n cA fun j => actS (A j)] rfl ?_
  refine calls_rx Γok _ [] _ _ Try.func3 rfl (by rw [Try.ntmps3]; exact Nat.le_of_ble_eq_true rfl) (SatH.start _ _ w) ?_
  rw [Try.ntmps3, Try.results3]
  refine run_ok Γok (stops := []) 400 _ _ _ ?_
  simp only [argsF, Nat.zero_add, actS, r_seq, r_reg, r_ops, rawOp, stopAt, memN, Bool.or_false, o_false, dstOk, Nat.reduceLT, gdK, stC, stpK, pureK, rdK, kn, SV.known, evO, putA, St.put, r_ops_nil, getT, reduceCtorEq, ↓reduceIte, o_true, rawC, true_and]
  by_cases hroom : 1 ≤ room ∧ room ≤ 1024
  · obtain ⟨hr1, hr2⟩ := hroom
    refine VdT.callR rfl rfl rfl Try.func5 rfl nm5 (by simp only [evL, evO, getT, ↓reduceIte, knownL, SV.known, and_self]) (by simp only [dstOk, Nat.reduceLT]) (fun tm : Nat × Nat => .tup [.lit (.pointer (some ⟨tm.1, 0, none⟩)), .lit .nilIface]) (fun tm => TIF w tm.1 tm.2 []) (fun tm => TI w tm.1 tm.2 room [] []) (fun w1 hw1 => ?c1) ?_
    case c1 =>
      have hb : Below w.heap.size w w1 := hw1.rs
      refine (new_calls room w1 hr1 hr2).mono ?_
      rintro e' w' ⟨t, m, he, hT, hb', ht, hm⟩
      refine ⟨(t, m), fun _ => False, he, rfl, Keep.of_below hb', fun k hk => hk.elim, ⟨hT, ?_, rfl, fun k hk => ?_⟩, fun k hk => ?_, TI.dep _ _ _ _ _ _⟩
      · exact ⟨hb'.os.trans hb.os, hb'.tape.trans hb.tape, hb'.output.trans hb.output, Nat.le_trans hb.size hb'.size, fun k hk => (hb'.block k (Nat.lt_of_lt_of_le hk hb.size)).trans (hb.block k hk)⟩
      · rcases hk with rfl | rfl | hk
        · exact Nat.le_trans hb.size ht
        · exact Nat.le_trans hb.size hm
        · simp at hk
      · rcases hk with hk | hk
        · exact ⟨Nat.lt_of_lt_of_le hk (Nat.le_trans hb.size hb'.size), .inl hk⟩
        · refine ⟨hT.lt k hk, .inr ?_⟩
          rcases hk with rfl | rfl | hk
          · exact ht
          · exact hm
          · simp at hk
    rintro ⟨t, m⟩
    refine run_ok Γok (stops := []) 400 _ _ _ ?_
    simp only [St.put, r_ops, rawOp, stopAt, memN, Bool.or_false, o_false, dstOk, Nat.reduceLT, gdK, stC, stpK, pureK, rdK, kn, SV.known, evO, getT, ↓reduceIte, putA, getL, Nat.reduceEqDiff, Nat.succ_ne_self, r_ops_nil, r_seq, r_reg, reduceCtorEq, o_true, rawC, true_and]
    refine VdT.callA rfl rfl rfl Try.func6 rfl nm6 (by simp only [evL, evO, getT, ↓reduceIte, knownL, SV.known, and_self]) (by simp only [dstOk, Nat.reduceLT]) (.tup [.agg [.lit (.int .i64 room), .lit (.slice none 0 0)], .lit (.int .i64 0)]) rfl (fun w1 hw1 => rnew_calls room w1 ⟨hr1, hr2⟩) ?_
    refine run_ok Γok (stops := []) 400 _ _ _ ?_
    simp only [St.put, r_ops, rawOp, stopAt, memN, Bool.or_false, o_false, dstOk, Nat.reduceLT, gdK, stC, stpK, pureK, rdK, kn, SV.known, evO, getT, ↓reduceIte, putA, getL, Nat.reduceEqDiff, allocK, g30, List.length_nil, litL, List.nil_append, storeK, getH, SV.flat, Nat.succ_ne_self, oneL, SV.one, Value.oneCell', and_self, SV.cells, List.length_cons, Nat.zero_add, Nat.reduceAdd, Nat.le_refl, putS, setH, putL, r_ops_nil, r_seq, r_reg, binK, intB, intK, bne_self_eq_false, dstAt, gdvK, Bool.false_eq_true, wantK, skC, pickK, selB, r_cond, cndK, g23, nilS, isConstO, Bool.or_true, eqK, o_true, r_ret, r_code_ret, r_nil, RX.Ends, retK, resvK, oneTup, SV.den, true_and, forall_false, g25, notS, Bool.not_true, r_skip, r_block, r_loop, forall_const]
    intro b1
    refine VdT.loopS (S3 w room t m oA n cA A b1) (I3 room n) (fun x => 301 - x.j) ⟨0, [], [], none⟩ ⟨Nat.zero_le _, Nat.zero_le _, by simp; omega⟩ (Weak.cutD rfl ?_ ?_ (fun k hk => by rcases hk with h | h; exact h; simp [rowB] at h) (DI.dep _ _ _ _ _ _ _ _) (fun w1 h1 => ⟨h1.rs, Row.empty _ _ _, by simp [rowB]⟩)) ?_
    · (repeat' (first | exact trivial | rfl | refine And.intro ?_ ?_))
      all_goals simp only [fb2, intB, strB, iaK, r_nil, r_skip, r_seq, r_block, r_ret, r_exit, r_cond, r_reg, r_regd, d_stop, d_run, r_rg, r_chk, d_true, d_false, d_held, plainL, heldK, heldH, heldJ, heldT, tailK, keptS, blurH, tgtS, keepH, soEq, r_loop, r_code_ret, r_code_exit, r_ops_nil, r_ops, o_true, o_false, r_ops_ret, r_ops_exit, r_blk_normal, r_blk_ret, r_blk_hit, r_blk_miss, h_zero, h_cons, rawOp, stopAt, memN, calmOp, calmN, dstOk, gdK, gdvK, wantK, dstAt, stC, skC, pureC, rawC, stpK, pureK, rdK, kn, evO, getT, St.put, SV.known, pickK, selB, binK, intK, strK, eqK, notS, nilS, isConstO, loadK, lenK, blenK, callK, idxK, cnvK, mkiK, unK, bndK, cutK, storeK, allocK, boxK, putS, putA, buildOpK, buildK, aggC, partsL, bslK, bslC, catK, catC, nthP, getL, getH, setH, takeL, putL, SV.flat, SV.cells, SV.one, oneL, litL, cndK, setB, argsF, RX.Ends, retK, resvK, oneTup, evL, knownL, Value.oneCell', List.toList_toArray, List.length_cons, List.length_nil, List.append_eq, List.nil_append, List.cons_append, List.drop_succ_cons, List.drop_zero, List.map_cons, List.map_nil, List.mem_cons, List.not_mem_nil, or_false, forall_eq_or_imp, forall_eq, Nat.reduceAdd, Nat.reduceLT, Nat.reduceLeDiff, Nat.reduceEqDiff, Nat.reduceBEq, Nat.reduceMul, Nat.zero_add, Nat.add_zero, ↓reduceIte, Bool.or_false, Bool.or_true, Bool.false_or, Bool.true_or, Bool.and_true, Bool.true_and, Bool.and_false, Bool.false_and, Bool.not_true, Bool.not_false, reduceCtorEq, true_and, and_true, false_and, and_false, forall_false, forall_const, implies_true, imp_self, ne_eq, not_true_eq_false, not_false_eq_true, Nat.succ_ne_self, Nat.lt_add_one, Nat.le_refl, Nat.zero_le, Nat.zero_lt_succ, rowV_eq, rowSV, LoopK, Int.toNat_natCast, EndsK, doneK, SV.den, denL, Int.reduceBNe, Int.reduceBEq, Int.reduceLT, Int.reduceLE, Int.reduceEq, Int.reduceNe, Int.reduceNeg, Int.reduceAdd, Int.reduceSub, Int.reduceMul, beq_self_eq_true, bne_self_eq_false, decide_true, decide_false, decide_eq_true_eq, decide_eq_false_iff_not, beq_iff_eq, bne_iff_ne, beq_eq_false_iff_ne, bne_eq_false_iff_eq, Bool.not_eq_true', Bool.not_eq_false', Bool.true_eq_false, Bool.false_eq_true, not_false_eq_true, false_implies, true_implies, and_self, actS, entS, vecE, g3, g4, g9, g22, g25, g23, g28, g30, g60, g62, g72, g73, g70, g80, g38, g40, g58, g59, g54, g42, s30, s72, s73, s70, s80, s38, s62, s40, s42, f30_0, f30_1, f72_0, f72_1, f40_0, f40_1, f40_2, f40_3, f73_0, f73_1, f70_0, f70_1, f62_0, f62_1, f62_2, f62_3, f80_0, f80_1, f80_2, f80_3, f38_0, f38_1, f38_2, f42_0, f42_1, f42_2, f42_3]
    · (repeat' (first | exact trivial | rfl | refine And.intro ?_ ?_))
      all_goals simp only [fb2, intB, strB, iaK, r_nil, r_skip, r_seq, r_block, r_ret, r_exit, r_cond, r_reg, r_regd, d_stop, d_run, r_rg, r_chk, d_true, d_false, d_held, plainL, heldK, heldH, heldJ, heldT, tailK, keptS, blurH, tgtS, keepH, soEq, r_loop, r_code_ret, r_code_exit, r_ops_nil, r_ops, o_true, o_false, r_ops_ret, r_ops_exit, r_blk_normal, r_blk_ret, r_blk_hit, r_blk_miss, h_zero, h_cons, rawOp, stopAt, memN, calmOp, calmN, dstOk, gdK, gdvK, wantK, dstAt, stC, skC, pureC, rawC, stpK, pureK, rdK, kn, evO, getT, St.put, SV.known, pickK, selB, binK, intK, strK, eqK, notS, nilS, isConstO, loadK, lenK, blenK, callK, idxK, cnvK, mkiK, unK, bndK, cutK, storeK, allocK, boxK, putS, putA, buildOpK, buildK, aggC, partsL, bslK, bslC, catK, catC, nthP, getL, getH, setH, takeL, putL, SV.flat, SV.cells, SV.one, oneL, litL, cndK, setB, argsF, RX.Ends, retK, resvK, oneTup, evL, knownL, Value.oneCell', List.toList_toArray, List.length_cons, List.length_nil, List.append_eq, List.nil_append, List.cons_append, List.drop_succ_cons, List.drop_zero, List.map_cons, List.map_nil, List.mem_cons, List.not_mem_nil, or_false, forall_eq_or_imp, forall_eq, Nat.reduceAdd, Nat.reduceLT, Nat.reduceLeDiff, Nat.reduceEqDiff, Nat.reduceBEq, Nat.reduceMul, Nat.zero_add, Nat.add_zero, ↓reduceIte, Bool.or_false, Bool.or_true, Bool.false_or, Bool.true_or, Bool.and_true, Bool.true_and, Bool.and_false, Bool.false_and, Bool.not_true, Bool.not_false, reduceCtorEq, true_and, and_true, false_and, and_false, forall_false, forall_const, implies_true, imp_self, ne_eq, not_true_eq_false, not_false_eq_true, Nat.succ_ne_self, Nat.lt_add_one, Nat.le_refl, Nat.zero_le, Nat.zero_lt_succ, rowV_eq, rowSV, LoopK, Int.toNat_natCast, EndsK, doneK, SV.den, denL, Int.reduceBNe, Int.reduceBEq, Int.reduceLT, Int.reduceLE, Int.reduceEq, Int.reduceNe, Int.reduceNeg, Int.reduceAdd, Int.reduceSub, Int.reduceMul, beq_self_eq_true, bne_self_eq_false, decide_true, decide_false, decide_eq_true_eq, decide_eq_false_iff_not, beq_iff_eq, bne_iff_ne, beq_eq_false_iff_ne, bne_eq_false_iff_eq, Bool.not_eq_true', Bool.not_eq_false', Bool.true_eq_false, Bool.false_eq_true, not_false_eq_true, false_implies, true_implies, and_self, actS, entS, vecE, g3, g4, g9, g22, g25, g23, g28, g30, g60, g62, g72, g73, g70, g80, g38, g40, g58, g59, g54, g42, s30, s72, s73, s70, s80, s38, s62, s40, s42, f30_0, f30_1, f72_0, f72_1, f40_0, f40_1, f40_2, f40_3, f73_0, f73_1, f70_0, f70_1, f62_0, f62_1, f62_2, f62_3, f80_0, f80_1, f80_2, f80_3, f38_0, f38_1, f38_2, f42_0, f42_1, f42_2, f42_3]
    rintro ⟨j, l, L, o⟩ ⟨hj1, hj2, hL⟩
    simp only [S3] at hj1 hj2 hL ⊢
    have hend : ∀ w', DI w t m room l L L o w' → Below w.heap.size w w' := fun w' h => h.1.2.1
    by_cases hjl : j < n
    · by_cases hj3 : j < 300
      · refine run_ok Γok (stops := [1008]) 400 _ _ _ ?_
        simp only [actS, vecE, rowSV, entS, r_seq, r_reg, r_ops, rawOp, stopAt, memN, Nat.reduceEqDiff, ↓reduceIte, Bool.or_false, o_false, dstOk, Nat.reduceLT, gdK, stC, stpK, pureK, rdK, kn, SV.known, evO, getT, putA, St.put, callK, blenK, lenK, g22, binK, Nat.succ_ne_self, intB, intK, dstAt, gdvK, decide_eq_true_eq, wantK, pickK, selB, r_ops_nil, r_cond, cndK, setB, r_skip, r_block, r_regd, calmN, calmOp, Bool.not_false, Bool.and_true, Bool.not_true, Nat.zero_add, Nat.reduceAdd, List.length_cons, List.length_nil, Nat.reduceBEq, List.drop_succ_cons, List.drop_zero, plainL, d_stop, decide_eq_false_iff_not, r_exit, r_code_exit, r_nil, LoopK, true_and, skC]
        refine ⟨fun _ => ⟨fun _ => ?_, fun h => absurd h (by omega)⟩, fun h => absurd h (by omega)⟩
        refine VdT.regIn Γok (SatH ⟨0, [], [(b1, .cells [.lit (.int .i64 room), vecE L o] 30)], (· < w.heap.size), (Below w.heap.size w)⟩) (NoPanic.loop (NoPanic.vdt (NoPanic.ends' _ _ _))) ?_
        refine VdT.regGo Γok [0, 1, 2, 3, 4, 5] [6, 10] (by unfold LexC; kernel_rfl) (NoPanic.loop (NoPanic.vdt (NoPanic.ends' _ _ _))) (fun _ hw => hw.cutD (s' := ⟨0, [], [(b1, .cells [.lit (.int .i64 room), vecE L o] 30)], (· < w.heap.size), Below w.heap.size w⟩) (by repeat' first | exact trivial | rfl | refine And.intro ?_ ?_) (fun k hk => .inl (.inl hk)) (Dep.below _ _ (Nat.le_refl _)) hw.rs.1.2.1) ?_
        simp only [List.length_cons, List.length_nil, Nat.zero_add, Nat.reduceAdd, pickO, nthO, vecE, rowSV, entS, revA, h_cons, dstOk, Nat.reduceLT, gdK, pureC, pureK, rdK, kn, SV.known, evO, getT, Nat.reduceEqDiff, ↓reduceIte, putA, St.put, loadK, g30, getH, Nat.le_refl, takeL, iaK, g22, g42, Nat.succ_ne_self, ne_eq, Int.toNat_natCast, h_zero, contK, contO, and_true, true_and]
        obtain ⟨a1, a2, a3⟩ := hA j hjl
        refine ⟨⟨by omega, by omega, a1⟩, fun w1 h1 => a3.below a2 h1, ?_, ?_⟩
        · refine VdT.callR rfl rfl rfl Try.func9 rfl nm9 (by simp only [evL, evO, getT, Nat.reduceEqDiff, ↓reduceIte, Nat.succ_ne_self, knownL, SV.known, and_self]) (by simp only [dstOk, Nat.reduceLT]) (fun x : { x : X3 // (x.L.length : Int) ≤ room } => .tup [.agg [.lit (.int .i64 room), vecE x.1.L x.1.o], .lit (.bool true)]) (fun x => DF w t m x.1.l x.1.o) (fun x => DI w t m room x.1.l x.1.L x.1.L x.1.o) (fun w1 hw1 => ?d1) ?_
          case d1 =>
            refine (do_calls w t m room hr1 hr2 l L o hL (A j).kd (A j).q (hq j hjl) (A j).g (A j).r (A j).p (A j).b (A j).now w1 hw1.rs).mono ?_
            rintro e w' ⟨l', L', o', he, hD, hL', hk, hf⟩
            exact ⟨⟨⟨0, l', L', o'⟩, hL'⟩, _, he, rfl, hk, fun k hk => hk, hD, fun k hk => ⟨hD.lt k hk, hf k hk⟩, DI.dep _ _ _ _ _ _ _ _⟩
          rintro ⟨⟨_, l', L', o'⟩, hL'⟩
          simp only at hL' ⊢
          refine run_ok Γok (stops := []) 400 _ _ _ ?_
          simp only [St.put, vecE, rowSV, entS, r_ops_nil, r_chk, r_rg]
          refine And.intro (fun _ hw => hw.cutD (s' := ⟨0, [], [(b1, .cells [.lit (.int .i64 room), vecE L o] 30)], (· < w.heap.size), Below w.heap.size w⟩) (by repeat' first | exact trivial | rfl | refine And.intro ?_ ?_) (fun k hk => .inl (.inl hk)) (Dep.below _ _ (Nat.le_refl _)) hw.rs.1.2.1) ?_
          refine VdT.regGo Γok [7, 8, 9] [10] (by unfold LexC; kernel_rfl) (NoPanic.loop (NoPanic.vdt (NoPanic.ends' _ _ _))) (fun _ hw => hw.cutD (s' := ⟨0, [], [(b1, .cells [.lit (.int .i64 room), vecE L o] 30)], (· < w.heap.size), Below w.heap.size w⟩) (by repeat' first | exact trivial | rfl | refine And.intro ?_ ?_) (fun k hk => .inl (.inl hk)) (Dep.below _ _ (Nat.le_refl _)) hw.rs.1.2.1) ?_
          simp only [List.length_cons, List.length_nil, Nat.zero_add, Nat.reduceAdd, pickO, nthO, revA, h_cons, dstOk, Nat.reduceLT, gdK, pureC, pureK, rdK, kn, SV.known, evO, getT, ↓reduceIte, putA, St.put, getL, Nat.reduceEqDiff, h_zero, contK, contO, and_true, true_and]
          refine run_ok Γok (stops := []) 400 _ _ _ ?_
          simp only [r_ops, rawOp, stopAt, memN, Bool.or_false, o_false, dstOk, Nat.reduceLT, gdK, stC, stpK, allocK, g30, putA, St.put, List.length_cons, List.length_nil, Nat.zero_add, litL, List.cons_append, List.nil_append, r_ops_nil, r_chk, r_rg, true_and]
          intro b2
          refine And.intro (fun _ hw => hw.cutD (s' := ⟨0, [], [(b1, .cells [.lit (.int .i64 room), vecE L o] 30)], (· < w.heap.size), Below w.heap.size w⟩) (by repeat' first | exact trivial | rfl | refine And.intro ?_ ?_) (fun k hk => .inl (.inl hk)) (Dep.below _ _ (Nat.le_refl _)) hw.rs.1.2.1) ?_
          refine VdT.regGo Γok [] [11] (by unfold LexC; kernel_rfl) (NoPanic.loop (NoPanic.vdt (NoPanic.ends' _ _ _))) (fun _ hw => hw.cutD (s' := ⟨0, [], [(b1, .cells [.lit (.int .i64 room), vecE L o] 30)], (· < w.heap.size), Below w.heap.size w⟩) (by repeat' first | exact trivial | rfl | refine And.intro ?_ ?_) (fun k hk => .inl (.inl hk)) (Dep.below _ _ (Nat.le_refl _)) hw.rs.1.2.1) ?_
          simp only [List.length_nil, pickO, revA, h_zero, contK, contO, nthO, and_true]
          refine run_ok Γok (stops := []) 400 _ _ _ ?_
          simp only [r_ops, rawOp, stopAt, Bool.or_false, o_false, dstOk, gdK, stC, stpK, storeK, g30, evO, getT, ↓reduceIte, getH, SV.flat, Nat.reduceEqDiff, Nat.succ_ne_self, oneL, SV.one, Value.oneCell', and_self, SV.cells, List.length_cons, List.length_nil, Nat.zero_add, Nat.reduceAdd, Nat.le_refl, putS, St.put, setH, putL, r_ops_nil, r_chk, r_rg, true_and]
          refine And.intro (fun _ hw => hw.cutD (s' := ⟨0, [], [(b1, .cells [.lit (.int .i64 room), vecE L o] 30)], (· < w.heap.size), Below w.heap.size w⟩) (by repeat' first | exact trivial | rfl | refine And.intro ?_ ?_) (fun k hk => .inl (.inl hk)) (Dep.below _ _ (Nat.le_refl _)) hw.rs.1.2.1) ?_
          refine VdT.regGo Γok [] [12] (by unfold LexC; kernel_rfl) (NoPanic.loop (NoPanic.vdt (NoPanic.ends' _ _ _))) (fun _ hw => hw.cutD (s' := ⟨0, [], [(b1, .cells [.lit (.int .i64 room), vecE L o] 30)], (· < w.heap.size), Below w.heap.size w⟩) (by repeat' first | exact trivial | rfl | refine And.intro ?_ ?_) (fun k hk => .inl (.inl hk)) (Dep.below _ _ (Nat.le_refl _)) hw.rs.1.2.1) ?_
          simp only [List.length_nil, pickO, revA, h_zero, contK, contO, nthO, and_true]
          refine run_ok Γok (stops := []) 400 _ _ _ ?_
          simp only [r_ops, rawOp, stopAt, memN, Bool.or_false, o_false, dstOk, Nat.reduceLT, gdK, stC, stpK, pureK, rdK, kn, SV.known, evO, getT, Nat.reduceEqDiff, ↓reduceIte, putA, St.put, r_ops_nil, r_chk, r_rg, true_and]
          refine And.intro (fun _ hw => hw.cutD (s' := ⟨0, [], [(b1, .cells [.lit (.int .i64 room), vecE L o] 30)], (· < w.heap.size), Below w.heap.size w⟩) (by repeat' first | exact trivial | rfl | refine And.intro ?_ ?_) (fun k hk => .inl (.inl hk)) (Dep.below _ _ (Nat.le_refl _)) hw.rs.1.2.1) ?_
          refine VdT.regGo Γok [] [] (by unfold LexC; kernel_rfl) (NoPanic.loop (NoPanic.vdt (NoPanic.ends' _ _ _))) (fun _ hw => hw.cutD (s' := ⟨0, [], [(b1, .cells [.lit (.int .i64 room), vecE L o] 30)], (· < w.heap.size), Below w.heap.size w⟩) (by repeat' first | exact trivial | rfl | refine And.intro ?_ ?_) (fun k hk => .inl (.inl hk)) (Dep.below _ _ (Nat.le_refl _)) hw.rs.1.2.1) ?_
          simp only [List.length_nil, pickO, revA, h_zero, contK]
          refine run_ok Γok (stops := []) 400 _ _ _ ?_
          simp only [r_seq, r_reg, r_ops, rawOp, stopAt, memN, Bool.or_false, o_false, dstOk, Nat.reduceLT, gdK, stC, stpK, pureK, rdK, loadK, g30, evO, getT, Nat.succ_ne_self, ↓reduceIte, getH, Nat.zero_add, List.length_cons, List.length_nil, Nat.reduceAdd, Nat.le_refl, putA, St.put, takeL, storeK, Nat.reduceEqDiff, SV.flat, oneL, SV.one, Value.oneCell', and_self, SV.cells, putS, setH, putL, r_ops_nil, kn, SV.known, unK, Bool.not_true, dstAt, gdvK, wantK, o_true, rawC, true_and]
          refine VdT.callA rfl rfl rfl Try.func10 rfl nm10 (by simp only [evL, evO, getT, Nat.succ_ne_self, ↓reduceIte, knownL, SV.known, and_self]) (by simp only [dstOk, Nat.reduceLT]) (.lit (.bool true)) rfl (fun w1 hw1 => same_calls w t m room hr1 hr2 l' L' o' hL' w1 hw1.rs) ?_
          refine run_ok Γok (stops := []) 400 _ _ _ ?_
          simp only [St.put, r_ops, rawOp, stopAt, memN, Bool.or_false, o_false, dstOk, Nat.reduceLT, gdK, dstAt, gdvK, getT, Nat.reduceEqDiff, ↓reduceIte, Nat.succ_ne_self, wantK, stC, stpK, pureK, rdK, unK, evO, putA, Bool.not_true, pickK, kn, SV.known, selB, o_true, rawC, true_and]
          refine VdT.callA rfl rfl rfl Try.func11 rfl nm11 (by simp only [evL, evO, getT, ↓reduceIte, knownL, SV.known, and_self]) (by simp only [dstOk, Nat.reduceLT]) (.lit (.int .i64 L'.length)) rfl (fun w1 hw1 => (len_of hw1.rs)) ?_
          refine run_ok Γok (stops := []) 400 _ _ _ ?_
          simp only [St.put, r_ops, rawOp, stopAt, memN, Bool.or_false, o_false, dstOk, Nat.reduceLT, gdK, dstAt, gdvK, getT, Nat.reduceEqDiff, ↓reduceIte, Nat.succ_ne_self, wantK, stC, stpK, pureK, rdK, kn, SV.known, evO, reduceCtorEq, putA, binK, intB, intK, pickK, selB, r_ops_nil, r_cond, cndK, decide_eq_true_eq, setB, r_seq, r_reg, r_ret, r_blk_ret, r_code_ret, r_nil, LoopK, true_and, decide_eq_false_iff_not, r_skip, r_blk_normal]
          refine ⟨fun h => absurd h (by omega), fun _ => ⟨⟨j + 1, l', L', o'⟩, by simp only; omega, ⟨by simp only; omega, by simp only; omega, hL'⟩, Weak.cutS ?_ ?_⟩⟩
          · (repeat' (first | exact trivial | rfl | refine And.intro ?_ ?_))
            all_goals simp only [getT, ↓reduceIte, SV.den]
            rw [wrap_in (by omega) (by omega)]; rfl
          · (repeat' (first | exact trivial | rfl | refine And.intro ?_ ?_))
            all_goals simp only [fb2, intB, strB, iaK, r_nil, r_skip, r_seq, r_block, r_ret, r_exit, r_cond, r_reg, r_regd, d_stop, d_run, r_rg, r_chk, d_true, d_false, d_held, plainL, heldK, heldH, heldJ, heldT, tailK, keptS, blurH, tgtS, keepH, soEq, r_loop, r_code_ret, r_code_exit, r_ops_nil, r_ops, o_true, o_false, r_ops_ret, r_ops_exit, r_blk_normal, r_blk_ret, r_blk_hit, r_blk_miss, h_zero, h_cons, rawOp, stopAt, memN, calmOp, calmN, dstOk, gdK, gdvK, wantK, dstAt, stC, skC, pureC, rawC, stpK, pureK, rdK, kn, evO, getT, St.put, SV.known, pickK, selB, binK, intK, strK, eqK, notS, nilS, isConstO, loadK, lenK, blenK, callK, idxK, cnvK, mkiK, unK, bndK, cutK, storeK, allocK, boxK, putS, putA, buildOpK, buildK, aggC, partsL, bslK, bslC, catK, catC, nthP, getL, getH, setH, takeL, putL, SV.flat, SV.cells, SV.one, oneL, litL, cndK, setB, argsF, RX.Ends, retK, resvK, oneTup, evL, knownL, Value.oneCell', List.toList_toArray, List.length_cons, List.length_nil, List.append_eq, List.nil_append, List.cons_append, List.drop_succ_cons, List.drop_zero, List.map_cons, List.map_nil, List.mem_cons, List.not_mem_nil, or_false, forall_eq_or_imp, forall_eq, Nat.reduceAdd, Nat.reduceLT, Nat.reduceLeDiff, Nat.reduceEqDiff, Nat.reduceBEq, Nat.reduceMul, Nat.zero_add, Nat.add_zero, ↓reduceIte, Bool.or_false, Bool.or_true, Bool.false_or, Bool.true_or, Bool.and_true, Bool.true_and, Bool.and_false, Bool.false_and, Bool.not_true, Bool.not_false, reduceCtorEq, true_and, and_true, false_and, and_false, forall_false, forall_const, implies_true, imp_self, ne_eq, not_true_eq_false, not_false_eq_true, Nat.succ_ne_self, Nat.lt_add_one, Nat.le_refl, Nat.zero_le, Nat.zero_lt_succ, rowV_eq, rowSV, LoopK, Int.toNat_natCast, EndsK, doneK, SV.den, denL, Int.reduceBNe, Int.reduceBEq, Int.reduceLT, Int.reduceLE, Int.reduceEq, Int.reduceNe, Int.reduceNeg, Int.reduceAdd, Int.reduceSub, Int.reduceMul, beq_self_eq_true, bne_self_eq_false, decide_true, decide_false, decide_eq_true_eq, decide_eq_false_iff_not, beq_iff_eq, bne_iff_ne, beq_eq_false_iff_ne, bne_eq_false_iff_eq, Bool.not_eq_true', Bool.not_eq_false', Bool.true_eq_false, Bool.false_eq_true, not_false_eq_true, false_implies, true_implies, and_self, actS, entS, vecE, g3, g4, g9, g22, g25, g23, g28, g30, g60, g62, g72, g73, g70, g80, g38, g40, g58, g59, g54, g42, s30, s72, s73, s70, s80, s38, s62, s40, s42, f30_0, f30_1, f72_0, f72_1, f40_0, f40_1, f40_2, f40_3, f73_0, f73_1, f70_0, f70_1, f62_0, f62_1, f62_2, f62_3, f80_0, f80_1, f80_2, f80_3, f38_0, f38_1, f38_2, f42_0, f42_1, f42_2, f42_3]
        · refine run_ok Γok (stops := []) 400 _ _ _ ?_
          simp only [r_ops, rawOp, stopAt, memN, Bool.or_false, o_false, dstOk, Nat.reduceLT, gdK, stC, stpK, allocK, g30, putA, St.put, List.length_cons, List.length_nil, Nat.zero_add, litL, List.cons_append, List.nil_append, r_ops_nil, r_chk, r_rg, true_and]
          intro b2
          refine And.intro (fun _ hw => hw.cutD (s' := ⟨0, [], [(b1, .cells [.lit (.int .i64 room), vecE L o] 30)], (· < w.heap.size), Below w.heap.size w⟩) (by repeat' first | exact trivial | rfl | refine And.intro ?_ ?_) (fun k hk => .inl (.inl hk)) (Dep.below _ _ (Nat.le_refl _)) hw.rs.1.2.1) ?_
          refine VdT.regGo Γok [] [6] (by unfold LexC; kernel_rfl) (NoPanic.loop (NoPanic.vdt (NoPanic.ends' _ _ _))) (fun _ hw => hw.cutD (s' := ⟨0, [], [(b1, .cells [.lit (.int .i64 room), vecE L o] 30)], (· < w.heap.size), Below w.heap.size w⟩) (by repeat' first | exact trivial | rfl | refine And.intro ?_ ?_) (fun k hk => .inl (.inl hk)) (Dep.below _ _ (Nat.le_refl _)) hw.rs.1.2.1) ?_
          simp only [List.length_nil, pickO, revA, h_zero, contK, contO, nthO, and_true]
          refine VdT.callR rfl rfl rfl Try.func9 rfl nm9 (by simp only [evL, evO, getT, Nat.reduceEqDiff, ↓reduceIte, Nat.succ_ne_self, knownL, SV.known, and_self]) (by simp only [dstOk, Nat.reduceLT]) (fun x : { x : X3 // (x.L.length : Int) ≤ room } => .tup [.agg [.lit (.int .i64 room), vecE x.1.L x.1.o], .lit (.bool true)]) (fun x => DF w t m x.1.l x.1.o) (fun x => DI w t m room x.1.l x.1.L x.1.L x.1.o) (fun w1 hw1 => ?d2) ?_
          case d2 =>
            refine (do_calls w t m room hr1 hr2 l L o hL (A j).kd (A j).q (hq j hjl) (A j).g (A j).r (A j).p (A j).b (A j).now w1 hw1.rs).mono ?_
            rintro e w' ⟨l', L', o', he, hD, hL', hk, hf⟩
            exact ⟨⟨⟨0, l', L', o'⟩, hL'⟩, _, he, rfl, hk, fun k hk => hk, hD, fun k hk => ⟨hD.lt k hk, hf k hk⟩, DI.dep _ _ _ _ _ _ _ _⟩
          rintro ⟨⟨_, l', L', o'⟩, hL'⟩
          simp only at hL' ⊢
          refine run_ok Γok (stops := []) 400 _ _ _ ?_
          simp only [St.put, vecE, rowSV, entS, r_ops_nil, r_chk, r_rg]
          refine And.intro (fun _ hw => hw.cutD (s' := ⟨0, [], [(b1, .cells [.lit (.int .i64 room), vecE L o] 30)], (· < w.heap.size), Below w.heap.size w⟩) (by repeat' first | exact trivial | rfl | refine And.intro ?_ ?_) (fun k hk => .inl (.inl hk)) (Dep.below _ _ (Nat.le_refl _)) hw.rs.1.2.1) ?_
          refine VdT.regGo Γok [7, 8, 9] [11] (by unfold LexC; kernel_rfl) (NoPanic.loop (NoPanic.vdt (NoPanic.ends' _ _ _))) (fun _ hw => hw.cutD (s' := ⟨0, [], [(b1, .cells [.lit (.int .i64 room), vecE L o] 30)], (· < w.heap.size), Below w.heap.size w⟩) (by repeat' first | exact trivial | rfl | refine And.intro ?_ ?_) (fun k hk => .inl (.inl hk)) (Dep.below _ _ (Nat.le_refl _)) hw.rs.1.2.1) ?_
          simp only [List.length_cons, List.length_nil, Nat.zero_add, Nat.reduceAdd, pickO, nthO, revA, h_cons, dstOk, Nat.reduceLT, gdK, pureC, pureK, rdK, kn, SV.known, evO, getT, ↓reduceIte, putA, St.put, getL, Nat.reduceEqDiff, h_zero, contK, contO, and_true, true_and]
          refine run_ok Γok (stops := []) 400 _ _ _ ?_
          simp only [r_ops, rawOp, stopAt, Bool.or_false, o_false, dstOk, gdK, stC, stpK, storeK, g30, evO, getT, Nat.reduceEqDiff, ↓reduceIte, getH, SV.flat, Nat.succ_ne_self, oneL, SV.one, Value.oneCell', and_self, SV.cells, List.length_cons, List.length_nil, Nat.zero_add, Nat.reduceAdd, Nat.le_refl, putS, St.put, setH, putL, r_ops_nil, r_chk, r_rg, true_and]
          refine And.intro (fun _ hw => hw.cutD (s' := ⟨0, [], [(b1, .cells [.lit (.int .i64 room), vecE L o] 30)], (· < w.heap.size), Below w.heap.size w⟩) (by repeat' first | exact trivial | rfl | refine And.intro ?_ ?_) (fun k hk => .inl (.inl hk)) (Dep.below _ _ (Nat.le_refl _)) hw.rs.1.2.1) ?_
          refine VdT.regGo Γok [] [12] (by unfold LexC; kernel_rfl) (NoPanic.loop (NoPanic.vdt (NoPanic.ends' _ _ _))) (fun _ hw => hw.cutD (s' := ⟨0, [], [(b1, .cells [.lit (.int .i64 room), vecE L o] 30)], (· < w.heap.size), Below w.heap.size w⟩) (by repeat' first | exact trivial | rfl | refine And.intro ?_ ?_) (fun k hk => .inl (.inl hk)) (Dep.below _ _ (Nat.le_refl _)) hw.rs.1.2.1) ?_
          simp only [List.length_nil, pickO, revA, h_zero, contK, contO, nthO, and_true]
          refine run_ok Γok (stops := []) 400 _ _ _ ?_
          simp only [r_ops, rawOp, stopAt, memN, Bool.or_false, o_false, dstOk, Nat.reduceLT, gdK, stC, stpK, pureK, rdK, kn, SV.known, evO, getT, ↓reduceIte, putA, St.put, r_ops_nil, r_chk, r_rg, true_and]
          refine And.intro (fun _ hw => hw.cutD (s' := ⟨0, [], [(b1, .cells [.lit (.int .i64 room), vecE L o] 30)], (· < w.heap.size), Below w.heap.size w⟩) (by repeat' first | exact trivial | rfl | refine And.intro ?_ ?_) (fun k hk => .inl (.inl hk)) (Dep.below _ _ (Nat.le_refl _)) hw.rs.1.2.1) ?_
          refine VdT.regGo Γok [] [] (by unfold LexC; kernel_rfl) (NoPanic.loop (NoPanic.vdt (NoPanic.ends' _ _ _))) (fun _ hw => hw.cutD (s' := ⟨0, [], [(b1, .cells [.lit (.int .i64 room), vecE L o] 30)], (· < w.heap.size), Below w.heap.size w⟩) (by repeat' first | exact trivial | rfl | refine And.intro ?_ ?_) (fun k hk => .inl (.inl hk)) (Dep.below _ _ (Nat.le_refl _)) hw.rs.1.2.1) ?_
          simp only [List.length_nil, pickO, revA, h_zero, contK]
          refine run_ok Γok (stops := []) 400 _ _ _ ?_
          simp only [r_seq, r_reg, r_ops, rawOp, stopAt, memN, Bool.or_false, o_false, dstOk, Nat.reduceLT, gdK, stC, stpK, pureK, rdK, loadK, g30, evO, getT, Nat.succ_ne_self, ↓reduceIte, Nat.reduceEqDiff, getH, Nat.zero_add, List.length_cons, List.length_nil, Nat.reduceAdd, Nat.le_refl, putA, St.put, takeL, storeK, SV.flat, oneL, SV.one, Value.oneCell', and_self, SV.cells, putS, setH, putL, r_ops_nil, kn, SV.known, unK, Bool.not_true, dstAt, gdvK, wantK, o_true, rawC, true_and]
          refine VdT.callA rfl rfl rfl Try.func10 rfl nm10 (by simp only [evL, evO, getT, Nat.succ_ne_self, ↓reduceIte, knownL, SV.known, and_self]) (by simp only [dstOk, Nat.reduceLT]) (.lit (.bool true)) rfl (fun w1 hw1 => same_calls w t m room hr1 hr2 l' L' o' hL' w1 hw1.rs) ?_
          refine run_ok Γok (stops := []) 400 _ _ _ ?_
          simp only [St.put, r_ops, rawOp, stopAt, memN, Bool.or_false, o_false, dstOk, Nat.reduceLT, gdK, dstAt, gdvK, getT, Nat.reduceEqDiff, ↓reduceIte, Nat.succ_ne_self, wantK, stC, stpK, pureK, rdK, unK, evO, putA, Bool.not_true, pickK, kn, SV.known, selB, o_true, rawC, true_and]
          refine VdT.callA rfl rfl rfl Try.func11 rfl nm11 (by simp only [evL, evO, getT, ↓reduceIte, knownL, SV.known, and_self]) (by simp only [dstOk, Nat.reduceLT]) (.lit (.int .i64 L'.length)) rfl (fun w1 hw1 => (len_of hw1.rs)) ?_
          refine run_ok Γok (stops := []) 400 _ _ _ ?_
          simp only [St.put, r_ops, rawOp, stopAt, memN, Bool.or_false, o_false, dstOk, Nat.reduceLT, gdK, dstAt, gdvK, getT, Nat.reduceEqDiff, ↓reduceIte, Nat.succ_ne_self, wantK, stC, stpK, pureK, rdK, kn, SV.known, evO, reduceCtorEq, putA, binK, intB, intK, pickK, selB, r_ops_nil, r_cond, cndK, decide_eq_true_eq, setB, r_seq, r_reg, r_ret, r_blk_ret, r_code_ret, r_nil, LoopK, true_and, decide_eq_false_iff_not, r_skip, r_blk_normal]
          refine ⟨fun h => absurd h (by omega), fun _ => ⟨⟨j + 1, l', L', o'⟩, by simp only; omega, ⟨by simp only; omega, by simp only; omega, hL'⟩, Weak.cutS ?_ ?_⟩⟩
          · (repeat' (first | exact trivial | rfl | refine And.intro ?_ ?_))
            all_goals simp only [getT, ↓reduceIte, SV.den]
            rw [wrap_in (by omega) (by omega)]; rfl
          · (repeat' (first | exact trivial | rfl | refine And.intro ?_ ?_))
            all_goals simp only [fb2, intB, strB, iaK, r_nil, r_skip, r_seq, r_block, r_ret, r_exit, r_cond, r_reg, r_regd, d_stop, d_run, r_rg, r_chk, d_true, d_false, d_held, plainL, heldK, heldH, heldJ, heldT, tailK, keptS, blurH, tgtS, keepH, soEq, r_loop, r_code_ret, r_code_exit, r_ops_nil, r_ops, o_true, o_false, r_ops_ret, r_ops_exit, r_blk_normal, r_blk_ret, r_blk_hit, r_blk_miss, h_zero, h_cons, rawOp, stopAt, memN, calmOp, calmN, dstOk, gdK, gdvK, wantK, dstAt, stC, skC, pureC, rawC, stpK, pureK, rdK, kn, evO, getT, St.put, SV.known, pickK, selB, binK, intK, strK, eqK, notS, nilS, isConstO, loadK, lenK, blenK, callK, idxK, cnvK, mkiK, unK, bndK, cutK, storeK, allocK, boxK, putS, putA, buildOpK, buildK, aggC, partsL, bslK, bslC, catK, catC, nthP, getL, getH, setH, takeL, putL, SV.flat, SV.cells, SV.one, oneL, litL, cndK, setB, argsF, RX.Ends, retK, resvK, oneTup, evL, knownL, Value.oneCell', List.toList_toArray, List.length_cons, List.length_nil, List.append_eq, List.nil_append, List.cons_append, List.drop_succ_cons, List.drop_zero, List.map_cons, List.map_nil, List.mem_cons, List.not_mem_nil, or_false, forall_eq_or_imp, forall_eq, Nat.reduceAdd, Nat.reduceLT, Nat.reduceLeDiff, Nat.reduceEqDiff, Nat.reduceBEq, Nat.reduceMul, Nat.zero_add, Nat.add_zero, ↓reduceIte, Bool.or_false, Bool.or_true, Bool.false_or, Bool.true_or, Bool.and_true, Bool.true_and, Bool.and_false, Bool.false_and, Bool.not_true, Bool.not_false, reduceCtorEq, true_and, and_true, false_and, and_false, forall_false, forall_const, implies_true, imp_self, ne_eq, not_true_eq_false, not_false_eq_true, Nat.succ_ne_self, Nat.lt_add_one, Nat.le_refl, Nat.zero_le, Nat.zero_lt_succ, rowV_eq, rowSV, LoopK, Int.toNat_natCast, EndsK, doneK, SV.den, denL, Int.reduceBNe, Int.reduceBEq, Int.reduceLT, Int.reduceLE, Int.reduceEq, Int.reduceNe, Int.reduceNeg, Int.reduceAdd, Int.reduceSub, Int.reduceMul, beq_self_eq_true, bne_self_eq_false, decide_true, decide_false, decide_eq_true_eq, decide_eq_false_iff_not, beq_iff_eq, bne_iff_ne, beq_eq_false_iff_ne, bne_eq_false_iff_eq, Bool.not_eq_true', Bool.not_eq_false', Bool.true_eq_false, Bool.false_eq_true, not_false_eq_true, false_implies, true_implies, and_self, actS, entS, vecE, g3, g4, g9, g22, g25, g23, g28, g30, g60, g62, g72, g73, g70, g80, g38, g40, g58, g59, g54, g42, s30, s72, s73, s70, s80, s38, s62, s40, s42, f30_0, f30_1, f72_0, f72_1, f40_0, f40_1, f40_2, f40_3, f73_0, f73_1, f70_0, f70_1, f62_0, f62_1, f62_2, f62_3, f80_0, f80_1, f80_2, f80_3, f38_0, f38_1, f38_2, f42_0, f42_1, f42_2, f42_3]
      · refine run_ok Γok (stops := []) 400 _ _ _ ?_
        simp only [actS, vecE, rowSV, entS, r_seq, r_reg, r_ops, rawOp, stopAt, memN, Bool.or_false, o_false, dstOk, Nat.reduceLT, gdK, stC, stpK, pureK, rdK, kn, SV.known, evO, getT, ↓reduceIte, putA, St.put, Nat.reduceEqDiff, callK, blenK, lenK, g22, binK, Nat.succ_ne_self, intB, intK, dstAt, gdvK, decide_eq_true_eq, wantK, pickK, selB, r_ops_nil, r_cond, cndK, setB, r_skip, r_block, r_regd, calmN, calmOp, Bool.not_false, Bool.and_true, Bool.not_true, Nat.zero_add, Nat.reduceAdd, List.length_cons, List.length_nil, Nat.reduceBEq, List.drop_succ_cons, List.drop_zero, plainL, d_run, d_false, h_cons, pureC, loadK, g30, getH, Nat.le_refl, takeL, iaK, g42, ne_eq, Int.toNat_natCast, h_zero, o_true, rawC, true_and, decide_eq_false_iff_not, r_exit, r_code_exit, r_nil, LoopK, skC]
        refine ⟨fun _ => ⟨fun h => absurd h (by omega), fun _ => ?_⟩, fun h => absurd h (by omega)⟩
        refine run_ok Γok (stops := []) 400 _ _ _ ?_
        simp only [r_blk_hit, r_seq, r_reg, r_ops, rawOp, stopAt, memN, Bool.or_false, o_true, dstOk, Nat.lt_add_one, gdK, rawC, true_and]
        refine VdT.callA rfl rfl rfl Try.func8 rfl nm8 (by simp only [evL, knownL]) (by simp only [dstOk, Nat.lt_add_one]) (.lit (.bool true)) rfl (fun w1 hw1 => works_calls w1) ?_
        refine run_ok Γok (stops := []) 400 _ _ _ ?_
        simp only [St.put, r_ops, rawOp, stopAt, memN, Bool.or_false, o_false, dstOk, Nat.reduceLT, gdK, stC, stpK, pureK, rdK, kn, SV.known, evO, getT, ↓reduceIte, putA, r_ops_nil, r_ret, r_nil, RX.Ends, retK, resvK, oneTup, SV.den, true_and]
        exact fun w' hw => hend w' hw.rs
    · refine run_ok Γok (stops := []) 400 _ _ _ ?_
      simp only [actS, vecE, rowSV, entS, r_seq, r_reg, r_ops, rawOp, stopAt, memN, Bool.or_false, o_false, dstOk, Nat.reduceLT, gdK, stC, stpK, pureK, rdK, kn, SV.known, evO, getT, ↓reduceIte, putA, St.put, Nat.reduceEqDiff, callK, blenK, lenK, g22, binK, Nat.succ_ne_self, intB, intK, dstAt, gdvK, decide_eq_true_eq, wantK, pickK, selB, r_ops_nil, r_cond, cndK, setB, r_skip, r_block, r_regd, calmN, calmOp, Bool.not_false, Bool.and_true, Bool.not_true, Nat.zero_add, Nat.reduceAdd, List.length_cons, List.length_nil, Nat.reduceBEq, List.drop_succ_cons, List.drop_zero, plainL, d_run, d_false, h_cons, pureC, loadK, g30, getH, Nat.le_refl, takeL, iaK, g42, ne_eq, Int.toNat_natCast, h_zero, o_true, rawC, true_and, decide_eq_false_iff_not, r_exit, r_code_exit, r_nil, LoopK, skC]
      refine ⟨fun h => absurd h (by omega), fun _ => ?_⟩
      refine run_ok Γok (stops := []) 400 _ _ _ ?_
      simp only [r_blk_hit, r_seq, r_reg, r_ops, rawOp, stopAt, memN, Bool.or_false, o_true, dstOk, Nat.lt_add_one, gdK, rawC, true_and]
      refine VdT.callA rfl rfl rfl Try.func8 rfl nm8 (by simp only [evL, knownL]) (by simp only [dstOk, Nat.lt_add_one]) (.lit (.bool true)) rfl (fun w1 hw1 => works_calls w1) ?_
      refine run_ok Γok (stops := []) 400 _ _ _ ?_
      simp only [St.put, r_ops, rawOp, stopAt, memN, Bool.or_false, o_false, dstOk, Nat.reduceLT, gdK, stC, stpK, pureK, rdK, kn, SV.known, evO, getT, ↓reduceIte, putA, r_ops_nil, r_ret, r_nil, RX.Ends, retK, resvK, oneTup, SV.den, true_and]
      exact fun w' hw => hend w' hw.rs
  · refine VdT.callA rfl rfl rfl Try.func5 rfl nm5 (by simp only [evL, evO, getT, ↓reduceIte, knownL, SV.known, and_self]) (by simp only [dstOk, Nat.reduceLT]) (.tup [.lit (.pointer none), .lit (.iface 58 (.int .i64 1))]) rfl (fun w1 hw1 => new_bad room w1 hroom) ?_
    refine run_ok Γok (stops := []) 400 _ _ _ ?_
    simp only [St.put, r_ops, rawOp, stopAt, memN, Bool.or_false, o_false, dstOk, Nat.reduceLT, gdK, stC, stpK, pureK, rdK, kn, SV.known, evO, getT, ↓reduceIte, putA, getL, Nat.reduceEqDiff, Nat.succ_ne_self, r_ops_nil, r_seq, r_reg, reduceCtorEq, o_true, rawC, true_and]
    refine VdT.callA rfl rfl rfl Try.func6 rfl nm6 (by simp only [evL, evO, getT, ↓reduceIte, knownL, SV.known, and_self]) (by simp only [dstOk, Nat.reduceLT]) (.tup [.agg [.lit (.int .i64 0), .lit (.slice none 0 0)], .lit (.int .i64 1)]) rfl (fun w1 hw1 => rnew_bad room w1 hroom) ?_
    refine run_ok Γok (stops := []) 400 _ _ _ ?_
    simp only [St.put, r_ops, rawOp, stopAt, memN, Bool.or_false, o_false, dstOk, Nat.reduceLT, gdK, stC, stpK, pureK, rdK, kn, SV.known, evO, getT, ↓reduceIte, putA, getL, Nat.reduceEqDiff, allocK, g30, List.length_nil, litL, List.nil_append, storeK, getH, SV.flat, Nat.succ_ne_self, oneL, SV.one, Value.oneCell', and_self, SV.cells, List.length_cons, Nat.zero_add, Nat.reduceAdd, Nat.le_refl, putS, setH, putL, r_ops_nil, r_seq, r_reg, binK, intB, intK, Int.reduceBNe, dstAt, gdvK, wantK, skC, pickK, selB, r_cond, cndK, g23, nilS, isConstO, Bool.or_true, eqK, o_true, rawC, true_and, forall_const, Bool.true_eq_false, g25, notS, Bool.not_false, forall_false, and_true]
    intro b1
    refine VdT.callA rfl rfl rfl Try.func7 rfl nm7 (by simp only [evL, evO, getT, ↓reduceIte, knownL, SV.known, and_self]) (by simp only [dstOk, Nat.reduceLT]) (.lit (.int .i64 1)) rfl (fun w1 hw1 => num_some 1 w1) ?_
    refine run_ok Γok (stops := []) 400 _ _ _ ?_
    simp only [St.put, r_ops, rawOp, stopAt, memN, Bool.or_false, o_false, dstOk, Nat.reduceLT, gdK, dstAt, gdvK, getT, Nat.reduceEqDiff, ↓reduceIte, Nat.succ_ne_self, wantK, stC, stpK, pureK, rdK, kn, SV.known, evO, putA, binK, intB, intK, beq_self_eq_true, pickK, selB, Int.reduceBNe, o_true, rawC, forall_const, Bool.true_eq_false, skC, r_ops_nil, r_ret, r_code_ret, r_nil, RX.Ends, retK, resvK, oneTup, SV.den, true_and, forall_false, and_true]
    refine VdT.callA rfl rfl rfl Try.func8 rfl nm8 (by simp only [evL, knownL]) (by simp only [dstOk, Nat.reduceLT]) (.lit (.bool true)) rfl (fun w1 hw1 => works_calls w1) ?_
    refine run_ok Γok (stops := []) 400 _ _ _ ?_
    simp only [St.put, r_ops, rawOp, stopAt, memN, Bool.or_false, o_false, dstOk, Nat.reduceLT, gdK, stC, stpK, pureK, rdK, pickK, evO, getT, Nat.succ_ne_self, ↓reduceIte, kn, SV.known, selB, putA, r_ops_nil, r_ret, r_code_ret, r_nil, RX.Ends, retK, resvK, oneTup, SV.den, true_and]
    exact fun w' hw => hw.rs
