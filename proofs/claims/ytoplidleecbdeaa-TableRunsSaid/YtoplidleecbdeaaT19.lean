import Derived.Test.YtoplidleecbdeaaT18
import Derived.Test.YtoplidleecbdeaaT6
import Derived.Test.YtoplidleecbdeaaRXw
set_option linter.unusedVariables false
set_option linter.unusedSimpArgs false
namespace Go.Proofs.Ytoplidleecbdeaa
open Go Go.RowKit Go.Proofs.RX Go.Maps Go.ChangeMaps
theorem tT_err {x y r p b now x' y' c : Int} {k' : Bool} (h : bTake x y r p b now = (x', y', k', some c)) : k' = false ∧ (c = 1 ∨ c = 4) := by
  unfold bTake at h
  obtain ⟨⟨u, v, z⟩, hf⟩ : ∃ q, bFill x y r p b now = q := ⟨_, rfl⟩
  rw [hf] at h
  cases z with
  | none =>
    simp at h
    split at h <;> simp at h
  | some d =>
    have := (fill_err hf).2.2
    simp at h
    obtain ⟨_, _, h1, rfl⟩ := h
    exact ⟨by simp_all, this⟩
/-- Which entries 'Take' keeps. -/
def kB (L : List E) (room a : Int) (j : Nat) : Bool := (j : Int) != a && (decide (0 ≤ a) || decide ((L.length : Int) < room) || decide (0 < j))
def kp (L : List E) (room a : Int) : Nat → List E
  | 0 => []
  | j + 1 => kp L room a j ++ (if kB L room a j then [L.getD j dE] else [])
theorem kp_len (L : List E) (room a : Int) : ∀ j, (kp L room a j).length ≤ j
  | 0 => by simp [kp]
  | j + 1 => by
    have := kp_len L room a j
    simp only [kp, List.length_append]
    split <;> simp <;> omega
theorem kp_at {L : List E} {room : Int} {i : Nat} : ∀ j, j ≤ L.length → kp L room i j = (L.take j).eraseIdx i
  | 0, _ => by simp [kp]
  | j + 1, h => by
    rw [kp, kp_at j (by omega), take_snoc (by omega)]
    have hl : (L.take j).length = j := by simp; omega
    by_cases hij : j = i
    · subst hij
      rw [if_neg (by simp [kB]), List.append_nil, List.eraseIdx_append_of_length_le (by omega), hl]
      rw [List.eraseIdx_of_length_le (by omega)]
      simp
    · rw [if_pos (by simp [kB]; omega)]
      rcases Nat.lt_or_ge i j with hlt | hge
      · rw [List.eraseIdx_append_of_lt_length (by omega)]
      · rw [List.eraseIdx_of_length_le (by omega), List.eraseIdx_of_length_le (by simp; omega)]
theorem kp_none {L : List E} {room : Int} (hroom : (L.length : Int) < room) : ∀ j, j ≤ L.length → kp L room (-1) j = L.take j
  | 0, _ => by simp [kp]
  | j + 1, h => by
    rw [kp, kp_none hroom j (by omega), take_snoc (by omega), if_pos (by simp [kB, hroom])]
theorem kp_tail {L : List E} {room : Int} (hroom : ¬ (L.length : Int) < room) : ∀ j, j ≤ L.length → kp L room (-1) j = (L.take j).tail
  | 0, _ => by simp [kp]
  | j + 1, h => by
    rw [kp, kp_tail hroom j (by omega), take_snoc (by omega)]
    cases j with
    | zero => simp [kB, hroom]
    | succ j =>
      rw [if_pos (by simp [kB]; omega)]
      rw [List.tail_append_of_ne_nil (by intro hc; have := congrArg List.length hc; simp only [List.length_take, List.length_nil] at this; omega)]
theorem kp_all {room : Int} (hr : 1 ≤ room) {L : List E} {q : E} (hroom : (L.length : Int) ≤ room) : kp L room (tPlace L q) L.length = (match lk L q with
      | some _ => L.eraseP (same q)
      | none => if (L.length : Int) = room then L.tail else L) := by
  unfold lk tPlace
  cases h : L.findIdx? (same q) with
  | some j =>
    have h0 := h
    rw [List.findIdx?_eq_some_iff_getElem] at h
    obtain ⟨hlt, hs, hno⟩ := h
    have : L.find? (same q) = some L[j] := by
      rw [List.find?_eq_some_iff_getElem]
      exact ⟨hs, j, hlt, rfl, fun k hk => by simpa using hno k hk⟩
    rw [this]
    simp only
    rw [kp_at L.length (Nat.le_refl _), List.take_length, List.eraseP_eq_eraseIdx, h0]
  | none =>
    rw [List.findIdx?_eq_none_iff] at h
    have : L.find? (same q) = none := by rw [List.find?_eq_none]; simpa using h
    rw [this]
    simp only
    by_cases hc : (L.length : Int) < room
    · rw [kp_none hc L.length (Nat.le_refl _), if_neg (by omega), List.take_length]
    · rw [kp_tail hc L.length (Nat.le_refl _), if_pos (by omega), List.take_length]
def S24 (w : World) (room now g r p b : Int) (q : E) (L : List E) (o : Option (Nat × Nat)) (b1 b2 b3 b4 b5 : Nat) (x' y' : Int) (k' : Bool) (x : Nat × Option (Nat × Nat)) : St :=
  { n := 88, tm := [(16, .lit (.int .i64 x.1)), (15, vecE (kp L room (tPlace L q) x.1) x.2), (14, .lit (.int .i64 (tPlace L q))), (13, .lit (.bool k')), (12, .lit (.int .i64 0)), (11, .ptr 4 b5 0), (10, .lit (.int .i64 0)), (9, .lit (.bool false)), (8, .ptr 3 b4 0), (6, .ptr 2 b3 0), (5, .ptr 1 b2 0), (4, .ptr 0 b1 0), (3, .lit (.int .i64 now))],
    hp := [(b1, .cells [.lit (.int .i64 room), vecE L o] 30), (b2, .cells [.lit (.int .i64 q.route), .lit (.int .i64 q.kind), .lit (.string q.name)] 38), (b3, .cells [.lit (.int .i64 g), .lit (.int .i64 r), .lit (.int .i64 p), .lit (.int .i64 b)] 40), (b4, .cells [.lit (.int .i64 0), .lit (.slice none 0 0)] 30), (b5, .cells [.lit (.int .i64 x'), .lit (.int .i64 y')] 70)],
    fp := mkF w x.2, res := mkR w x.2 (kp L room (tPlace L q) x.1) }
def I24 (w : World) (L : List E) (x : Nat × Option (Nat × Nat)) : Prop := x.1 ≤ L.length ∧ ∀ k, k < w.heap.size → rowB x.2 ≠ some k
set_option maxRecDepth 100000 in
/-- 'Take' of the reference. -/
theorem r22take_calls (room : Int) (hr : 1 ≤ room) (q : E) (L : List E) (o : Option (Nat × Nat)) (hlen : L.length ≤ 1024) (g : Int) (r : Int) (p : Int) (b : Int) (now : Int) (w : World) (hv : RowE L o w) {L' : List E} {ok : Bool} {z0 : Option Int} (hroom : (L.length : Int) ≤ room) (hT : tTake room L q r p b now = (L', ok, z0)) : Calls Try.prog 24 #[.agg #[.int .i64 room, rowV L.length o], whoV q, .agg #[.int .i64 g, .int .i64 r, .int .i64 p, .int .i64 b], .int .i64 now] w fun e w' =>
    ∃ o', e = .returned (.tuple #[.agg #[.int .i64 room, rowV L'.length o'], .bool ok, .int .i64 (numE z0)]) ∧ Below w.heap.size w w' ∧ RowE L' o' w' ∧ (o' = o ∨ ∀ k, rowB o' = some k → w.heap.size ≤ k) := by
  refine args_eq [.agg [.lit (.int .i64 room), vecE L o], .agg [.lit (.int .i64 q.route), .lit (.int .i64 q.kind), .lit (.string q.name)], .agg [.lit (.int .i64 g), .lit (.int .i64 r), .lit (.int .i64 p), .lit (.int .i64 b)], .lit (.int .i64 now)] (by simp only [vecE, ← rowSV_den o L.length (fun j => entS (L.getD j dE)), SV.den, denL, whoV]) ?_
  refine calls_rx Γok _ [] _ _ Try.func24 rfl (by rw [Try.ntmps24]; exact Nat.le_of_ble_eq_true rfl) (SatH.start _ _ w) ?_
  rw [Try.ntmps24, Try.results24]
  refine run_ok Γok (stops := []) 400 _ _ _ ?_
  simp only [argsF, vecE, rowSV, entS, Nat.zero_add, Nat.reduceAdd, r_seq, r_reg, r_ops, rawOp, stopAt, memN, Bool.or_false, o_false, dstOk, Nat.reduceLT, gdK, stC, stpK, boxK, SV.flat, evO, getT, ↓reduceIte, oneL, SV.one, Value.oneCell', and_self, putA, St.put, List.length_nil, SV.cells, List.nil_append, Nat.reduceEqDiff, reduceCtorEq, List.length_cons, List.cons_append, allocK, g30, litL, pureK, rdK, kn, SV.known, r_ops_nil, loadK, Nat.succ_ne_self, getH, Nat.le_refl, takeL, g38, g40, o_true, rawC, true_and]
  intro b1 b2 b3 b4
  obtain ⟨⟨x, y, z⟩, hf⟩ : ∃ q', tBucket L q r p b now = q' := ⟨_, rfl⟩
  refine VdT.callA rfl rfl rfl Try.func33 rfl nm33 (by simp only [evL, evO, getT, Nat.reduceEqDiff, ↓reduceIte, Nat.succ_ne_self, knownL, SV.known, and_self]) (by simp only [dstOk, Nat.reduceLT]) (.tup [.agg [.lit (.int .i64 x), .lit (.int .i64 y)], .lit (.int .i64 (numE z))]) rfl (fun w1 hw1 => (by have := rb_is room hr q L o hv.nil hlen g r p b now w hv.own hf w1 hw1.rs; rw [slV_row _ _ hv.nil] at this; exact this)) ?_
  cases z with
  | some c =>
    obtain ⟨rfl, rfl, hc⟩ := tB_err hf
    have hTe : tTake room L q r p b now = (L, false, some c) := by simp [tTake, hf]
    rw [hTe] at hT
    cases hT
    rw [show numE (some c) = c from rfl]
    refine run_ok Γok (stops := []) 400 _ _ _ ?_
    simp only [St.put, r_ops, rawOp, stopAt, memN, Bool.or_false, o_false, dstOk, Nat.reduceLT, gdK, stC, stpK, pureK, rdK, kn, SV.known, evO, getT, ↓reduceIte, putA, getL, Nat.reduceEqDiff, allocK, g70, List.length_cons, List.length_nil, Nat.zero_add, Nat.reduceAdd, litL, List.cons_append, List.nil_append, storeK, getH, SV.flat, Nat.succ_ne_self, oneL, SV.one, Value.oneCell', and_self, SV.cells, Nat.le_refl, putS, setH, putL, r_ops_nil, r_seq, r_reg, binK, intB, intK, r_cond, cndK, bne_iff_ne, ne_eq, setB, loadK, g30, takeL, r_ret, r_code_ret, r_nil, RX.Ends, retK, resvK, oneTup, SV.den, denL, rowV_eq, true_and, bne_eq_false_iff_eq, r_skip, g40, reduceCtorEq, o_true, rawC]
    (repeat' (first | refine And.intro (by unfold LexTailB; kernel_rfl) ?_ | refine And.intro (by unfold LexHeldB; kernel_rfl) ?_ | refine And.intro (by unfold LexB; kernel_rfl) ?_ | refine And.intro ?_ ?_ | refine fun (_ : (_ : Prop)) => ?_ | refine fun (_ : Nat) => ?_))
    · intro w' hw
      exact ⟨o, rfl, hw.rs, Row.below hv hw.rs, .inl rfl⟩
    · omega
  | none =>
    rw [show numE none = 0 from rfl]
    refine run_ok Γok (stops := []) 400 _ _ _ ?_
    simp only [St.put, r_ops, rawOp, stopAt, memN, Bool.or_false, o_false, dstOk, Nat.reduceLT, gdK, stC, stpK, pureK, rdK, kn, SV.known, evO, getT, ↓reduceIte, putA, getL, Nat.reduceEqDiff, allocK, g70, List.length_cons, List.length_nil, Nat.zero_add, Nat.reduceAdd, litL, List.cons_append, List.nil_append, storeK, getH, SV.flat, Nat.succ_ne_self, oneL, SV.one, Value.oneCell', and_self, SV.cells, Nat.le_refl, putS, setH, putL, r_ops_nil, r_seq, r_reg, binK, intB, intK, bne_self_eq_false, r_cond, cndK, Bool.false_eq_true, setB, loadK, g30, takeL, r_ret, r_code_ret, r_nil, RX.Ends, retK, resvK, oneTup, SV.den, denL, rowV_eq, true_and, forall_false, r_skip, g40, reduceCtorEq, o_true, rawC, forall_const]
    intro b5
    obtain ⟨⟨x', y', k', z'⟩, hf'⟩ : ∃ q', bTake x y r p b now = q' := ⟨_, rfl⟩
    refine VdT.callA rfl rfl rfl Try.func36 rfl nm36 (by simp only [evL, evO, getT, Nat.reduceEqDiff, ↓reduceIte, Nat.succ_ne_self, knownL, SV.known, and_self]) (by simp only [dstOk, Nat.reduceLT]) (.tup [.agg [.lit (.int .i64 x'), .lit (.int .i64 y')], .lit (.bool k'), .lit (.int .i64 (numE z'))]) rfl (fun w1 hw1 => (by have := rtake_calls g r p b now x y w1; rw [hf'] at this; exact this)) ?_
    cases z' with
    | some c =>
      obtain ⟨rfl, hc⟩ := tT_err hf'
      have hTe : tTake room L q r p b now = (L, false, some c) := by simp [tTake, hf, hf']
      rw [hTe] at hT
      cases hT
      rw [show numE (some c) = c from rfl]
      refine run_ok Γok (stops := []) 400 _ _ _ ?_
      simp only [St.put, r_ops, rawOp, stopAt, memN, Bool.or_false, o_false, dstOk, Nat.reduceLT, gdK, stC, stpK, pureK, rdK, kn, SV.known, evO, getT, ↓reduceIte, putA, getL, Nat.reduceEqDiff, storeK, g70, Nat.succ_ne_self, getH, SV.flat, oneL, SV.one, Value.oneCell', and_self, SV.cells, List.length_cons, List.length_nil, Nat.zero_add, Nat.reduceAdd, Nat.le_refl, putS, setH, putL, r_ops_nil, r_seq, r_reg, binK, intB, intK, r_cond, cndK, bne_iff_ne, ne_eq, setB, loadK, g30, takeL, r_ret, r_code_ret, r_nil, RX.Ends, retK, resvK, oneTup, SV.den, denL, rowV_eq, true_and, bne_eq_false_iff_eq, r_skip, g38, o_true, rawC]
      (repeat' (first | refine And.intro (by unfold LexTailB; kernel_rfl) ?_ | refine And.intro (by unfold LexHeldB; kernel_rfl) ?_ | refine And.intro (by unfold LexB; kernel_rfl) ?_ | refine And.intro ?_ ?_ | refine fun (_ : (_ : Prop)) => ?_ | refine fun (_ : Nat) => ?_))
      · intro w' hw
        exact ⟨o, rfl, hw.rs, Row.below hv hw.rs, .inl rfl⟩
      · omega
    | none =>
      rw [show numE none = 0 from rfl]
      refine run_ok Γok (stops := []) 400 _ _ _ ?_
      simp only [St.put, r_ops, rawOp, stopAt, memN, Bool.or_false, o_false, dstOk, Nat.reduceLT, gdK, stC, stpK, pureK, rdK, kn, SV.known, evO, getT, ↓reduceIte, putA, getL, Nat.reduceEqDiff, storeK, g70, Nat.succ_ne_self, getH, SV.flat, oneL, SV.one, Value.oneCell', and_self, SV.cells, List.length_cons, List.length_nil, Nat.zero_add, Nat.reduceAdd, Nat.le_refl, putS, setH, putL, r_ops_nil, r_seq, r_reg, binK, intB, intK, bne_self_eq_false, r_cond, cndK, Bool.false_eq_true, setB, loadK, g30, takeL, r_ret, r_code_ret, r_nil, RX.Ends, retK, resvK, oneTup, SV.den, denL, rowV_eq, true_and, forall_false, r_skip, g38, o_true, rawC, forall_const]
      refine VdT.callA rfl rfl rfl Try.func37 rfl nm37 (by simp only [evL, evO, getT, Nat.succ_ne_self, ↓reduceIte, knownL, SV.known, and_self]) (by simp only [dstOk, Nat.reduceLT]) (.lit (.int .i64 (tPlace L q))) rfl (fun w1 hw1 => (by have := place_calls room q L o hv.nil hlen w1 (own_below hv.own hw1.rs); rw [slV_row _ _ hv.nil] at this; exact this)) ?_
      refine run_ok Γok (stops := []) 400 _ _ _ ?_
      simp only [St.put, r_ops, rawOp, stopAt, memN, Bool.or_false, o_false, dstOk, Nat.reduceLT, gdK, stC, stpK, pureK, rdK, kn, SV.known, evO, getT, ↓reduceIte, putA, r_ops_nil, r_seq, r_reg, r_block, r_loop, true_and]
      have hTe : tTake room L q r p b now = (kp L room (tPlace L q) L.length ++ [q.with x' y'], k', none) := by
        rw [kp_all hr hroom]
        simp only [tTake, hf, hf']
        cases lk L q <;> rfl
      rw [hTe] at hT
      cases hT
      refine VdT.loopS (S24 w room now g r p b q L o b1 b2 b3 b4 b5 x' y' ok) (I24 w L) (fun x => L.length - x.1) (0, none) ⟨Nat.zero_le _, by simp [rowB]⟩ (Weak.cutD rfl ?_ ?_ (fun k hk => by rcases hk with h | h; exact h; simp [rowB] at h) (mkR_dep _ _ _) (fun w1 h1 => ⟨h1.rs, Row.empty _ _ _⟩)) ?_
      · (repeat' (first | exact trivial | rfl | refine And.intro ?_ ?_))
        all_goals simp only [fb2, intB, strB, iaK, r_nil, r_skip, r_seq, r_block, r_ret, r_exit, r_cond, r_reg, r_regd, d_stop, d_run, r_rg, r_chk, d_true, d_false, d_held, plainL, heldK, heldH, heldJ, heldT, tailK, keptS, blurH, tgtS, keepH, soEq, r_loop, r_code_ret, r_code_exit, r_ops_nil, r_ops, o_true, o_false, r_ops_ret, r_ops_exit, r_blk_normal, r_blk_ret, r_blk_hit, r_blk_miss, h_zero, h_cons, rawOp, stopAt, memN, calmOp, calmN, dstOk, gdK, gdvK, wantK, dstAt, stC, skC, pureC, rawC, stpK, pureK, rdK, kn, evO, getT, St.put, SV.known, pickK, selB, binK, intK, strK, eqK, notS, nilS, isConstO, loadK, lenK, blenK, callK, idxK, cnvK, mkiK, unK, bndK, cutK, storeK, allocK, boxK, putS, putA, buildOpK, buildK, aggC, partsL, bslK, bslC, catK, catC, nthP, getL, getH, setH, takeL, putL, SV.flat, SV.cells, SV.one, oneL, litL, cndK, setB, argsF, RX.Ends, retK, resvK, oneTup, evL, knownL, Value.oneCell', List.toList_toArray, List.length_cons, List.length_nil, List.append_eq, List.nil_append, List.cons_append, List.drop_succ_cons, List.drop_zero, List.map_cons, List.map_nil, List.mem_cons, List.not_mem_nil, or_false, forall_eq_or_imp, forall_eq, Nat.reduceAdd, Nat.reduceLT, Nat.reduceLeDiff, Nat.reduceEqDiff, Nat.reduceBEq, Nat.reduceMul, Nat.zero_add, Nat.add_zero, ↓reduceIte, Bool.or_false, Bool.or_true, Bool.false_or, Bool.true_or, Bool.and_true, Bool.true_and, Bool.and_false, Bool.false_and, Bool.not_true, Bool.not_false, reduceCtorEq, true_and, and_true, false_and, and_false, forall_false, forall_const, implies_true, imp_self, ne_eq, not_true_eq_false, not_false_eq_true, Nat.succ_ne_self, Nat.lt_add_one, Nat.le_refl, Nat.zero_le, Nat.zero_lt_succ, rowV_eq, rowSV, LoopK, Int.toNat_natCast, EndsK, doneK, SV.den, denL, Int.reduceBNe, Int.reduceBEq, Int.reduceLT, Int.reduceLE, Int.reduceEq, Int.reduceNe, Int.reduceNeg, Int.reduceAdd, Int.reduceSub, Int.reduceMul, beq_self_eq_true, bne_self_eq_false, decide_true, decide_false, decide_eq_true_eq, decide_eq_false_iff_not, beq_iff_eq, bne_iff_ne, beq_eq_false_iff_ne, bne_eq_false_iff_eq, Bool.not_eq_true', Bool.not_eq_false', Bool.true_eq_false, Bool.false_eq_true, not_false_eq_true, false_implies, true_implies, and_self, entS, vecE, g3, g4, g9, g25, g23, g28, g30, g60, g62, g72, g73, g70, g80, g38, g40, g58, g59, g54, g42, s30, s72, s73, s70, s80, s38, s62, s40, f30_0, f30_1, f72_0, f72_1, f40_0, f40_1, f40_2, f40_3, f73_0, f73_1, f70_0, f70_1, f62_0, f62_1, f62_2, f62_3, f80_0, f80_1, f80_2, f80_3, f38_0, f38_1, f38_2, f42_0, f42_1, f42_2, f42_3]
      · (repeat' (first | exact trivial | rfl | refine And.intro ?_ ?_))
        all_goals simp only [fb2, intB, strB, iaK, r_nil, r_skip, r_seq, r_block, r_ret, r_exit, r_cond, r_reg, r_regd, d_stop, d_run, r_rg, r_chk, d_true, d_false, d_held, plainL, heldK, heldH, heldJ, heldT, tailK, keptS, blurH, tgtS, keepH, soEq, r_loop, r_code_ret, r_code_exit, r_ops_nil, r_ops, o_true, o_false, r_ops_ret, r_ops_exit, r_blk_normal, r_blk_ret, r_blk_hit, r_blk_miss, h_zero, h_cons, rawOp, stopAt, memN, calmOp, calmN, dstOk, gdK, gdvK, wantK, dstAt, stC, skC, pureC, rawC, stpK, pureK, rdK, kn, evO, getT, St.put, SV.known, pickK, selB, binK, intK, strK, eqK, notS, nilS, isConstO, loadK, lenK, blenK, callK, idxK, cnvK, mkiK, unK, bndK, cutK, storeK, allocK, boxK, putS, putA, buildOpK, buildK, aggC, partsL, bslK, bslC, catK, catC, nthP, getL, getH, setH, takeL, putL, SV.flat, SV.cells, SV.one, oneL, litL, cndK, setB, argsF, RX.Ends, retK, resvK, oneTup, evL, knownL, Value.oneCell', List.toList_toArray, List.length_cons, List.length_nil, List.append_eq, List.nil_append, List.cons_append, List.drop_succ_cons, List.drop_zero, List.map_cons, List.map_nil, List.mem_cons, List.not_mem_nil, or_false, forall_eq_or_imp, forall_eq, Nat.reduceAdd, Nat.reduceLT, Nat.reduceLeDiff, Nat.reduceEqDiff, Nat.reduceBEq, Nat.reduceMul, Nat.zero_add, Nat.add_zero, ↓reduceIte, Bool.or_false, Bool.or_true, Bool.false_or, Bool.true_or, Bool.and_true, Bool.true_and, Bool.and_false, Bool.false_and, Bool.not_true, Bool.not_false, reduceCtorEq, true_and, and_true, false_and, and_false, forall_false, forall_const, implies_true, imp_self, ne_eq, not_true_eq_false, not_false_eq_true, Nat.succ_ne_self, Nat.lt_add_one, Nat.le_refl, Nat.zero_le, Nat.zero_lt_succ, rowV_eq, rowSV, LoopK, Int.toNat_natCast, EndsK, doneK, SV.den, denL, Int.reduceBNe, Int.reduceBEq, Int.reduceLT, Int.reduceLE, Int.reduceEq, Int.reduceNe, Int.reduceNeg, Int.reduceAdd, Int.reduceSub, Int.reduceMul, beq_self_eq_true, bne_self_eq_false, decide_true, decide_false, decide_eq_true_eq, decide_eq_false_iff_not, beq_iff_eq, bne_iff_ne, beq_eq_false_iff_ne, bne_eq_false_iff_eq, Bool.not_eq_true', Bool.not_eq_false', Bool.true_eq_false, Bool.false_eq_true, not_false_eq_true, false_implies, true_implies, and_self, entS, vecE, g3, g4, g9, g25, g23, g28, g30, g60, g62, g72, g73, g70, g80, g38, g40, g58, g59, g54, g42, s30, s72, s73, s70, s80, s38, s62, s40, f30_0, f30_1, f72_0, f72_1, f40_0, f40_1, f40_2, f40_3, f73_0, f73_1, f70_0, f70_1, f62_0, f62_1, f62_2, f62_3, f80_0, f80_1, f80_2, f80_3, f38_0, f38_1, f38_2, f42_0, f42_1, f42_2, f42_3]
      rintro ⟨j, u⟩ ⟨hj, hvb⟩
      by_cases hlt : j < L.length
      · obtain ⟨hn, hfar⟩ := far_e (q := u) (M := kp L room (tPlace L q) j) hv hlt
        have hle := kp_len L room (tPlace L q) j
        simp only [S24]
        refine run_ok Γok (stops := []) 400 _ _ _ ?_
        simp only [vecE, rowSV, entS, r_seq, r_reg, r_ops, rawOp, stopAt, memN, Bool.or_false, o_false, dstOk, Nat.reduceLT, gdK, stC, stpK, pureK, rdK, kn, SV.known, evO, getT, ↓reduceIte, putA, St.put, f30_1, ne_eq, Nat.succ_ne_self, not_false_eq_true, Nat.reduceEqDiff, Nat.zero_add, loadK, g28, getH, getL, callK, blenK, lenK, binK, intB, intK, r_ops_nil, r_cond, cndK, decide_eq_true_eq, setB, r_skip, r_block, dstAt, gdvK, bne_iff_ne, wantK, skC, pickK, selB, iaK, g72, Int.toNat_natCast, List.length_cons, List.length_nil, Nat.reduceAdd, Nat.le_refl, takeL, bslK, Nat.lt_add_one, Nat.zero_lt_succ, Nat.reduceMul, Nat.reduceLeDiff, partsL, catK, SV.flat, oneL, SV.one, Value.oneCell', and_self, SV.cells, catC, bslC, List.cons_append, List.nil_append, o_true, rawC, true_and, decide_eq_false_iff_not, f30_0, Nat.add_zero, g3, r_blk_normal, r_nil, LoopK, bne_eq_false_iff_eq, r_exit, r_code_exit]
        (repeat' (first | assumption | omega | refine And.intro (by unfold LexTailB; kernel_rfl) ?_ | refine And.intro (by unfold LexHeldB; kernel_rfl) ?_ | refine And.intro (by unfold LexB; kernel_rfl) ?_ | refine And.intro ?_ ?_ | refine fun (_ : (_ : Prop)) => ?_ | refine fun (_ : Nat) => ?_))
        all_goals first
          | (
            refine VdT.appendV (fun i => entS ((kp L room (tPlace L q) (j + 1)).getD i dE)) rfl rfl u28 i72 (by omega) rfl rfl rfl rfl (by simp [oneL, SV.one, Value.oneCell']) (by simp [dstOk]) rfl rfl (Dep.below _ _ (Nat.le_refl _)) hvb (by omega) (by omega) fun q' hq' => ?_
            have hK : kp L room (tPlace L q) (j + 1) = kp L room (tPlace L q) j ++ [L.getD j dE] := by
              rw [kp, if_pos (by simp only [kB, Bool.and_eq_true, Bool.or_eq_true, bne_iff_ne, decide_eq_true_eq]; omega)]
            refine run_ok Γok (stops := []) 400 _ _ _ ?_
            simp only [St.put, rowSV, entS, denL, SV.den, r_ops, rawOp, stopAt, memN, Bool.or_false, o_false, dstOk, Nat.reduceLT, gdK, stC, stpK, pureK, rdK, kn, SV.known, evO, getT, ↓reduceIte, putA, r_ops_nil, r_blk_normal, r_reg, Nat.reduceEqDiff, binK, intB, intK, r_nil, LoopK, true_and]
            refine ⟨(j + 1, q'), by simp only; omega, ⟨by simp only; omega, hq'⟩, Weak.cutD rfl ?_ ?_ (fun k hk => hk) (mkR_dep _ _ _) (fun w1 h1 => ?_)⟩
            · (repeat' (first | exact trivial | rfl | refine And.intro ?_ ?_))
              all_goals simp only [getT, ↓reduceIte, SV.den, Nat.succ_ne_self, Nat.reduceEqDiff, rowV_eq, vecE, rowSV, entS]
              · rw [wrap_in (by omega) (by omega)]; rfl
              · rw [hK, List.length_append]; rfl
            · (repeat' (first | exact trivial | rfl | refine And.intro ?_ ?_))
              all_goals simp only [fb2, intB, strB, iaK, r_nil, r_skip, r_seq, r_block, r_ret, r_exit, r_cond, r_reg, r_regd, d_stop, d_run, r_rg, r_chk, d_true, d_false, d_held, plainL, heldK, heldH, heldJ, heldT, tailK, keptS, blurH, tgtS, keepH, soEq, r_loop, r_code_ret, r_code_exit, r_ops_nil, r_ops, o_true, o_false, r_ops_ret, r_ops_exit, r_blk_normal, r_blk_ret, r_blk_hit, r_blk_miss, h_zero, h_cons, rawOp, stopAt, memN, calmOp, calmN, dstOk, gdK, gdvK, wantK, dstAt, stC, skC, pureC, rawC, stpK, pureK, rdK, kn, evO, getT, St.put, SV.known, pickK, selB, binK, intK, strK, eqK, notS, nilS, isConstO, loadK, lenK, blenK, callK, idxK, cnvK, mkiK, unK, bndK, cutK, storeK, allocK, boxK, putS, putA, buildOpK, buildK, aggC, partsL, bslK, bslC, catK, catC, nthP, getL, getH, setH, takeL, putL, SV.flat, SV.cells, SV.one, oneL, litL, cndK, setB, argsF, RX.Ends, retK, resvK, oneTup, evL, knownL, Value.oneCell', List.toList_toArray, List.length_cons, List.length_nil, List.append_eq, List.nil_append, List.cons_append, List.drop_succ_cons, List.drop_zero, List.map_cons, List.map_nil, List.mem_cons, List.not_mem_nil, or_false, forall_eq_or_imp, forall_eq, Nat.reduceAdd, Nat.reduceLT, Nat.reduceLeDiff, Nat.reduceEqDiff, Nat.reduceBEq, Nat.reduceMul, Nat.zero_add, Nat.add_zero, ↓reduceIte, Bool.or_false, Bool.or_true, Bool.false_or, Bool.true_or, Bool.and_true, Bool.true_and, Bool.and_false, Bool.false_and, Bool.not_true, Bool.not_false, reduceCtorEq, true_and, and_true, false_and, and_false, forall_false, forall_const, implies_true, imp_self, ne_eq, not_true_eq_false, not_false_eq_true, Nat.succ_ne_self, Nat.lt_add_one, Nat.le_refl, Nat.zero_le, Nat.zero_lt_succ, rowV_eq, rowSV, LoopK, Int.toNat_natCast, EndsK, doneK, SV.den, denL, Int.reduceBNe, Int.reduceBEq, Int.reduceLT, Int.reduceLE, Int.reduceEq, Int.reduceNe, Int.reduceNeg, Int.reduceAdd, Int.reduceSub, Int.reduceMul, beq_self_eq_true, bne_self_eq_false, decide_true, decide_false, decide_eq_true_eq, decide_eq_false_iff_not, beq_iff_eq, bne_iff_ne, beq_eq_false_iff_ne, bne_eq_false_iff_eq, Bool.not_eq_true', Bool.not_eq_false', Bool.true_eq_false, Bool.false_eq_true, not_false_eq_true, false_implies, true_implies, and_self, entS, vecE, g3, g4, g9, g25, g23, g28, g30, g60, g62, g72, g73, g70, g80, g38, g40, g58, g59, g54, g42, s30, s72, s73, s70, s80, s38, s62, s40, f30_0, f30_1, f72_0, f72_1, f40_0, f40_1, f40_2, f40_3, f73_0, f73_1, f70_0, f70_1, f62_0, f62_1, f62_2, f62_3, f80_0, f80_1, f80_2, f80_3, f38_0, f38_1, f38_2, f42_0, f42_1, f42_2, f42_3]
            · have h2 := h1.rs
              refine ⟨h2.1, ?_⟩
              unfold RowE
              simp only
              rw [hK, List.length_append, rowL_snoc]
              exact h2.2)
          | (
            have hK : kp L room (tPlace L q) (j + 1) = kp L room (tPlace L q) j := by
              rw [kp, if_neg (by simp only [kB, Bool.and_eq_true, Bool.or_eq_true, bne_iff_ne, decide_eq_true_eq]; omega), List.append_nil]
            refine ⟨(j + 1, u), by simp only; omega, ⟨by simp only; omega, hvb⟩, Weak.cutD rfl ?_ ?_ (fun k hk => hk) (mkR_dep _ _ _) (fun w1 h1 => ?_)⟩
            · (repeat' (first | exact trivial | rfl | refine And.intro ?_ ?_))
              all_goals simp only [getT, ↓reduceIte, SV.den, Nat.succ_ne_self, Nat.reduceEqDiff, rowV_eq, vecE, rowSV, entS]
              · rw [wrap_in (by omega) (by omega)]; rfl
              · rw [hK]
            · (repeat' (first | exact trivial | rfl | refine And.intro ?_ ?_))
              all_goals simp only [fb2, intB, strB, iaK, r_nil, r_skip, r_seq, r_block, r_ret, r_exit, r_cond, r_reg, r_regd, d_stop, d_run, r_rg, r_chk, d_true, d_false, d_held, plainL, heldK, heldH, heldJ, heldT, tailK, keptS, blurH, tgtS, keepH, soEq, r_loop, r_code_ret, r_code_exit, r_ops_nil, r_ops, o_true, o_false, r_ops_ret, r_ops_exit, r_blk_normal, r_blk_ret, r_blk_hit, r_blk_miss, h_zero, h_cons, rawOp, stopAt, memN, calmOp, calmN, dstOk, gdK, gdvK, wantK, dstAt, stC, skC, pureC, rawC, stpK, pureK, rdK, kn, evO, getT, St.put, SV.known, pickK, selB, binK, intK, strK, eqK, notS, nilS, isConstO, loadK, lenK, blenK, callK, idxK, cnvK, mkiK, unK, bndK, cutK, storeK, allocK, boxK, putS, putA, buildOpK, buildK, aggC, partsL, bslK, bslC, catK, catC, nthP, getL, getH, setH, takeL, putL, SV.flat, SV.cells, SV.one, oneL, litL, cndK, setB, argsF, RX.Ends, retK, resvK, oneTup, evL, knownL, Value.oneCell', List.toList_toArray, List.length_cons, List.length_nil, List.append_eq, List.nil_append, List.cons_append, List.drop_succ_cons, List.drop_zero, List.map_cons, List.map_nil, List.mem_cons, List.not_mem_nil, or_false, forall_eq_or_imp, forall_eq, Nat.reduceAdd, Nat.reduceLT, Nat.reduceLeDiff, Nat.reduceEqDiff, Nat.reduceBEq, Nat.reduceMul, Nat.zero_add, Nat.add_zero, ↓reduceIte, Bool.or_false, Bool.or_true, Bool.false_or, Bool.true_or, Bool.and_true, Bool.true_and, Bool.and_false, Bool.false_and, Bool.not_true, Bool.not_false, reduceCtorEq, true_and, and_true, false_and, and_false, forall_false, forall_const, implies_true, imp_self, ne_eq, not_true_eq_false, not_false_eq_true, Nat.succ_ne_self, Nat.lt_add_one, Nat.le_refl, Nat.zero_le, Nat.zero_lt_succ, rowV_eq, rowSV, LoopK, Int.toNat_natCast, EndsK, doneK, SV.den, denL, Int.reduceBNe, Int.reduceBEq, Int.reduceLT, Int.reduceLE, Int.reduceEq, Int.reduceNe, Int.reduceNeg, Int.reduceAdd, Int.reduceSub, Int.reduceMul, beq_self_eq_true, bne_self_eq_false, decide_true, decide_false, decide_eq_true_eq, decide_eq_false_iff_not, beq_iff_eq, bne_iff_ne, beq_eq_false_iff_ne, bne_eq_false_iff_eq, Bool.not_eq_true', Bool.not_eq_false', Bool.true_eq_false, Bool.false_eq_true, not_false_eq_true, false_implies, true_implies, and_self, entS, vecE, g3, g4, g9, g25, g23, g28, g30, g60, g62, g72, g73, g70, g80, g38, g40, g58, g59, g54, g42, s30, s72, s73, s70, s80, s38, s62, s40, f30_0, f30_1, f72_0, f72_1, f40_0, f40_1, f40_2, f40_3, f73_0, f73_1, f70_0, f70_1, f62_0, f62_1, f62_2, f62_3, f80_0, f80_1, f80_2, f80_3, f38_0, f38_1, f38_2, f42_0, f42_1, f42_2, f42_3]
            · have h2 := h1.rs
              refine ⟨h2.1, ?_⟩
              unfold RowE
              simp only
              rw [hK]
              exact h2.2)
      · obtain rfl : j = L.length := by simp only at hj; omega
        simp only [S24]
        refine run_ok Γok (stops := []) 400 _ _ _ ?_
        simp only [vecE, rowSV, entS, r_seq, r_reg, r_ops, rawOp, stopAt, memN, Bool.or_false, o_false, dstOk, Nat.reduceLT, gdK, stC, stpK, pureK, rdK, kn, SV.known, evO, getT, ↓reduceIte, putA, St.put, f30_1, ne_eq, Nat.succ_ne_self, not_false_eq_true, Nat.reduceEqDiff, Nat.zero_add, loadK, g28, getH, getL, callK, blenK, lenK, binK, intB, intK, r_ops_nil, r_cond, cndK, decide_eq_true_eq, setB, r_skip, r_block, dstAt, gdvK, bne_iff_ne, wantK, skC, pickK, selB, iaK, g72, Int.toNat_natCast, List.length_cons, List.length_nil, Nat.reduceAdd, Nat.le_refl, takeL, bslK, Nat.lt_add_one, Nat.zero_lt_succ, Nat.reduceMul, Nat.reduceLeDiff, partsL, catK, SV.flat, oneL, SV.one, Value.oneCell', and_self, SV.cells, catC, bslC, List.cons_append, List.nil_append, o_true, rawC, true_and, decide_eq_false_iff_not, f30_0, Nat.add_zero, g3, r_blk_normal, r_nil, LoopK, bne_eq_false_iff_eq, r_exit, r_code_exit]
        refine ⟨fun h => absurd h (by omega), fun _ => ?_⟩
        refine run_ok Γok (stops := [1014]) 400 _ _ _ ?_
        simp only [r_blk_hit, r_seq, r_regd, calmN, calmOp, rawOp, Bool.not_false, stopAt, memN, Nat.reduceEqDiff, ↓reduceIte, Bool.and_true, Nat.zero_add, Nat.reduceAdd, List.length_cons, List.length_nil, Nat.reduceBEq, List.drop_succ_cons, List.drop_zero, plainL, Bool.or_false, d_stop]
        refine VdT.ord Γok [0, 1, 2, 3, 4, 5, 9] [6, 7, 8, 10, 11, 12] [(b1, .cells [.lit (.int .i64 room), vecE L o] 30), (b2, .cells [.lit (.int .i64 q.route), .lit (.int .i64 q.kind), .lit (.string q.name)] 38), (b3, .cells [.lit (.int .i64 g), .lit (.int .i64 r), .lit (.int .i64 p), .lit (.int .i64 b)] 40), (b4, .unk), (b5, .cells [.lit (.int .i64 x'), .lit (.int .i64 y')] 70)] (fun _ => False) (fun _ => True) (by unfold LexO; kernel_rfl) (NoPanic.ends' _ _ _) (by repeat' first | exact trivial | rfl | refine And.intro ?_ ?_) (fun _ h => h.elim) (Dep.true _) (fun _ _ => trivial) ?_
        simp only [List.length_cons, List.length_nil, Nat.zero_add, Nat.reduceAdd, pickO, nthO, vecE, rowSV, entS, h_cons, dstOk, Nat.reduceLT, gdK, pureC, pureK, rdK, f30_0, ne_eq, Nat.succ_ne_self, not_false_eq_true, evO, getT, Nat.reduceEqDiff, ↓reduceIte, putA, St.put, Nat.add_zero, loadK, g3, getH, getL, kn, SV.known, g38, Nat.le_refl, takeL, g70, buildOpK, g72, s72, litL, partsL, buildK, nthP, SV.flat, oneL, SV.one, Value.oneCell', and_self, SV.cells, Nat.reduceLeDiff, putL, aggC, Nat.lt_add_one, h_zero, restK, tailI, List.cons_append, List.nil_append, true_and]
        refine run_ok Γok (stops := []) 400 _ _ _ ?_
        simp only [r_ops, rawOp, stopAt, memN, Bool.or_false, o_false, dstOk, Nat.reduceLT, gdK, stC, stpK, bslK, g28, g72, List.length_cons, List.length_nil, Nat.zero_add, Nat.lt_add_one, Nat.zero_lt_succ, Nat.reduceMul, Nat.reduceLeDiff, partsL, evO, getT, Nat.reduceEqDiff, ↓reduceIte, catK, SV.flat, oneL, SV.one, Value.oneCell', and_self, SV.cells, Nat.reduceAdd, catC, bslC, putA, St.put, List.cons_append, List.nil_append, r_ops_nil, r_chk, o_true, rawC, true_and]
        intro b6
        refine And.intro (fun _ hw => hw.c0 (by repeat' first | exact trivial | rfl | refine And.intro ?_ ?_)) ?_
        have hle := kp_len L room (tPlace L q) L.length
        refine VdT.appendV (fun i => entS ((kp L room (tPlace L q) L.length ++ [q.with x' y']).getD i dE)) rfl rfl u28 i72 (by omega) rfl rfl rfl rfl (by simp [oneL, SV.one, Value.oneCell']) (by simp [dstOk]) rfl rfl (Dep.below _ _ (Nat.le_refl _)) hvb (by omega) (by omega) fun q' hq' => ?_
        refine run_ok Γok (stops := []) 400 _ _ _ ?_
        simp only [St.put, rowSV, entS, denL, SV.den, r_ops_nil, r_chk, r_ops, rawOp, stopAt, memN, Bool.or_false, o_false, dstOk, Nat.reduceLT, gdK, stC, stpK, pureK, buildOpK, g30, s30, litL, partsL, evO, getT, Nat.reduceEqDiff, ↓reduceIte, Nat.succ_ne_self, buildK, nthP, SV.flat, SV.one, Value.oneCell', SV.cells, List.length_cons, List.length_nil, Nat.zero_add, Nat.reduceAdd, Nat.reduceLeDiff, putL, Nat.le_refl, aggC, putA, storeK, getH, oneL, and_self, putS, setH, rdK, kn, SV.known, r_ret, r_nil, RX.Ends, retK, resvK, loadK, oneTup, takeL, rowV_eq, true_and]
        refine And.intro (fun _ hw => hw.c0 (by repeat' first | exact trivial | rfl | refine And.intro ?_ ?_)) ?_
        refine And.intro (fun _ hw => hw.c0 (by repeat' first | exact trivial | rfl | refine And.intro ?_ ?_)) ?_
        refine And.intro (fun _ hw => hw.c0 (by repeat' first | exact trivial | rfl | refine And.intro ?_ ?_)) ?_
        refine And.intro (fun _ hw => hw.c0 (by repeat' first | exact trivial | rfl | refine And.intro ?_ ?_)) ?_
        refine And.intro (fun _ hw => hw.c0 (by repeat' first | exact trivial | rfl | refine And.intro ?_ ?_)) ?_
        intro w' hw
        have h2 := hw.rs
        refine ⟨q', ?_, h2.1, ?_, .inr fun k hk => Nat.le_of_not_lt fun h => hq' k h hk⟩
        · rw [List.length_append]; rfl
        · unfold RowE
          rw [List.length_append, rowL_snoc]
          exact h2.2
end Go.Proofs.Ytoplidleecbdeaa
