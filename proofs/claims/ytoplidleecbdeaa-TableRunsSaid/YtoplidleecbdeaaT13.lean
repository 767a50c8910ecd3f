import Derived.Test.YtoplidleecbdeaaT12
set_option linter.unusedVariables false
set_option linter.unusedSimpArgs false
namespace Go.Proofs.Ytoplidleecbdeaa
open Go Go.RowKit Go.Proofs.RX Go.Maps Go.ChangeMaps
set_option maxRecDepth 100000 in
theorem rtake_calls (g r p b now pt at_ : Int) (w : World) : Calls Try.prog 36 #[.agg #[.int .i64 pt, .int .i64 at_], .agg #[.int .i64 g, .int .i64 r, .int .i64 p, .int .i64 b], .int .i64 now] w fun e w' =>
    e = .returned (.tuple #[.agg #[.int .i64 (bTake pt at_ r p b now).1, .int .i64 (bTake pt at_ r p b now).2.1], .bool (bTake pt at_ r p b now).2.2.1, .int .i64 (numE (bTake pt at_ r p b now).2.2.2)]) ∧ Below w.heap.size w w' := by
  refine calls_rx Γok [.lit (.agg #[.int .i64 pt, .int .i64 at_]), .lit (.agg #[.int .i64 g, .int .i64 r, .int .i64 p, .int .i64 b]), .lit (.int .i64 now)] [] _ _ Try.func36 rfl (by rw [Try.ntmps36]; exact Nat.le_of_ble_eq_true rfl) (SatH.start _ _ w) ?_
  rw [Try.ntmps36, Try.results36]
  refine run_ok Γok (stops := []) 400 _ _ _ ?_
  simp only [argsF, Nat.zero_add, Nat.reduceAdd, r_seq, r_reg, r_ops, rawOp, stopAt, memN, Bool.or_false, o_false, dstOk, Nat.reduceLT, gdK, stC, stpK, boxK, SV.flat, evO, getT, ↓reduceIte, litL, oneL, SV.one, Value.oneCell', and_true, putA, St.put, List.length_nil, SV.cells, List.nil_append, Nat.reduceEqDiff, reduceCtorEq, List.length_cons, List.cons_append, allocK, g70, pureK, rdK, kn, SV.known, r_ops_nil, loadK, Nat.succ_ne_self, getH, Nat.le_refl, takeL, g40, o_true, rawC, true_and]
  intro b1 b2 b3
  obtain ⟨⟨x, y, z⟩, hf⟩ : ∃ q, bFill pt at_ r p b now = q := ⟨_, rfl⟩
  have hfl : ∀ w1, Calls Try.prog 41 #[.agg #[.int .i64 pt, .int .i64 at_], .agg #[.int .i64 g, .int .i64 r, .int .i64 p, .int .i64 b], .int .i64 now] w1 fun e w' =>
      e = .returned (.tuple #[.agg #[.int .i64 x, .int .i64 y], .int .i64 (numE z)]) ∧ Below w1.heap.size w1 w' := fun w1 => by
    have := rfill_calls g r p b now pt at_ w1
    rw [hf] at this
    exact this
  refine VdT.callA rfl rfl rfl Try.func41 rfl nm41 (by simp only [evL, evO, getT, Nat.reduceEqDiff, ↓reduceIte, Nat.succ_ne_self, knownL, SV.known, and_true]) (by simp only [dstOk, Nat.reduceLT]) (.tup [.agg [.lit (.int .i64 x), .lit (.int .i64 y)], .lit (.int .i64 (numE z))]) rfl (fun w1 hw1 => hfl w1) ?_
  cases z with
  | some c =>
    obtain ⟨rfl, rfl, hc⟩ := fill_err hf
    simp only [show bTake pt at_ r p b now = (0, 0, false, some c) from by simp [bTake, hf], hf, numE]
    refine run_ok Γok (stops := []) 400 _ _ _ ?_
    simp only [St.put, r_ops, rawOp, stopAt, memN, Bool.or_false, o_false, dstOk, Nat.reduceLT, gdK, stC, stpK, pureK, rdK, kn, SV.known, evO, getT, ↓reduceIte, putA, getL, Nat.reduceEqDiff, allocK, g70, List.length_cons, List.length_nil, Nat.zero_add, Nat.reduceAdd, litL, List.cons_append, List.nil_append, storeK, getH, SV.flat, Nat.succ_ne_self, oneL, SV.one, Value.oneCell', and_true, SV.cells, Nat.le_refl, putS, setH, putL, r_ops_nil, r_seq, r_reg, binK, intB, intK, r_cond, cndK, setB, buildOpK, s70, partsL, buildK, aggC, r_ret, r_code_ret, r_nil, RX.Ends, retK, resvK, loadK, oneTup, takeL, true_and, r_skip, f70_0, ne_eq, not_false_eq_true, Nat.add_zero, g3, f40_2, Nat.reduceLeDiff, Nat.lt_add_one]
    exact fun b4 => ⟨fun _ w' hw => ⟨rfl, hw.rs⟩, fun h => absurd h (by rcases hc with rfl | rfl <;> decide)⟩
  | none =>
    obtain ⟨hok, ht, hx1, hx2, hy⟩ := fill_good hf
    obtain ⟨m1, m2⟩ := wrap_mul hok.2.2 hok.2.1
    have hp1 := hok.2.1.1
    have hp2 := hok.2.1.2
    simp only [hf, numE]
    refine run_ok Γok (stops := []) 400 _ _ _ ?_
    simp only [St.put, r_ops, rawOp, stopAt, memN, Bool.or_false, o_false, dstOk, Nat.reduceLT, gdK, stC, stpK, pureK, rdK, kn, SV.known, evO, getT, ↓reduceIte, putA, getL, Nat.reduceEqDiff, allocK, g70, List.length_cons, List.length_nil, Nat.zero_add, Nat.reduceAdd, litL, List.cons_append, List.nil_append, storeK, getH, SV.flat, Nat.succ_ne_self, oneL, SV.one, Value.oneCell', and_true, SV.cells, Nat.le_refl, putS, setH, putL, r_ops_nil, r_seq, r_reg, binK, intB, intK, r_cond, cndK, setB, buildOpK, s70, partsL, buildK, aggC, r_ret, r_code_ret, r_nil, RX.Ends, retK, resvK, loadK, oneTup, takeL, true_and, r_skip, f70_0, ne_eq, not_false_eq_true, Nat.add_zero, g3, f40_2, Nat.reduceLeDiff, Nat.lt_add_one]
    refine fun b4 => ⟨fun h => absurd h (by decide), fun _ => ⟨fun h1 w' hw => ?_, fun h1 w' hw => ?_⟩⟩
    · rw [show bTake pt at_ r p b now = (x, y, false, none) from by simp at h1; simp [bTake, hf, h1]]
      exact ⟨rfl, hw.rs⟩
    · rw [show bTake pt at_ r p b now = (x - p, y, true, none) from by simp at h1; simp [bTake, hf, h1]]
      refine ⟨?_, hw.rs⟩
      rw [wrap_in (by omega) (by omega)]
      rfl
set_option maxRecDepth 100000 in
theorem rleft_calls (g r p b now pt at_ : Int) (w : World) : Calls Try.prog 34 #[.agg #[.int .i64 pt, .int .i64 at_], .agg #[.int .i64 g, .int .i64 r, .int .i64 p, .int .i64 b], .int .i64 now] w fun e w' =>
    e = .returned (.tuple #[.int .i64 (bLeft pt at_ r p b now).1, .int .i64 (numE (bLeft pt at_ r p b now).2)]) ∧ Below w.heap.size w w' := by
  refine calls_rx Γok [.lit (.agg #[.int .i64 pt, .int .i64 at_]), .lit (.agg #[.int .i64 g, .int .i64 r, .int .i64 p, .int .i64 b]), .lit (.int .i64 now)] [] _ _ Try.func34 rfl (by rw [Try.ntmps34]; exact Nat.le_of_ble_eq_true rfl) (SatH.start _ _ w) ?_
  rw [Try.ntmps34, Try.results34]
  refine run_ok Γok (stops := []) 400 _ _ _ ?_
  simp only [argsF, Nat.zero_add, Nat.reduceAdd, r_seq, r_reg, r_ops, rawOp, stopAt, memN, Bool.or_false, o_false, dstOk, Nat.reduceLT, gdK, stC, stpK, boxK, SV.flat, evO, getT, ↓reduceIte, litL, oneL, SV.one, Value.oneCell', and_true, putA, St.put, List.length_nil, SV.cells, List.nil_append, Nat.reduceEqDiff, reduceCtorEq, List.length_cons, List.cons_append, pureK, rdK, kn, SV.known, r_ops_nil, loadK, g70, Nat.succ_ne_self, getH, Nat.le_refl, takeL, g40, o_true, rawC, true_and]
  intro b1 b2
  obtain ⟨⟨x, y, z⟩, hf⟩ : ∃ q, bFill pt at_ r p b now = q := ⟨_, rfl⟩
  have hfl : ∀ w1, Calls Try.prog 41 #[.agg #[.int .i64 pt, .int .i64 at_], .agg #[.int .i64 g, .int .i64 r, .int .i64 p, .int .i64 b], .int .i64 now] w1 fun e w' =>
      e = .returned (.tuple #[.agg #[.int .i64 x, .int .i64 y], .int .i64 (numE z)]) ∧ Below w1.heap.size w1 w' := fun w1 => by
    have := rfill_calls g r p b now pt at_ w1
    rw [hf] at this
    exact this
  refine VdT.callA rfl rfl rfl Try.func41 rfl nm41 (by simp only [evL, evO, getT, Nat.reduceEqDiff, ↓reduceIte, Nat.succ_ne_self, knownL, SV.known, and_true]) (by simp only [dstOk, Nat.reduceLT]) (.tup [.agg [.lit (.int .i64 x), .lit (.int .i64 y)], .lit (.int .i64 (numE z))]) rfl (fun w1 hw1 => hfl w1) ?_
  cases z with
  | some c =>
    obtain ⟨rfl, rfl, hc⟩ := fill_err hf
    simp only [show bLeft pt at_ r p b now = (0, some c) from by simp [bLeft, hf], numE]
    refine run_ok Γok (stops := []) 400 _ _ _ ?_
    simp only [St.put, r_ops, rawOp, stopAt, memN, Bool.or_false, o_false, dstOk, Nat.reduceLT, gdK, stC, stpK, pureK, rdK, kn, SV.known, evO, getT, ↓reduceIte, putA, getL, Nat.reduceEqDiff, allocK, g70, List.length_cons, List.length_nil, Nat.zero_add, Nat.reduceAdd, litL, List.cons_append, List.nil_append, storeK, getH, SV.flat, Nat.succ_ne_self, oneL, SV.one, Value.oneCell', and_true, SV.cells, Nat.le_refl, putS, setH, putL, r_ops_nil, r_seq, r_reg, binK, intB, intK, r_cond, cndK, setB, r_ret, r_code_ret, r_nil, RX.Ends, retK, resvK, oneTup, true_and, r_skip, f70_0, ne_eq, not_false_eq_true, Nat.add_zero, loadK, g3, f40_2, Nat.lt_add_one]
    exact fun b4 => ⟨fun _ w' hw => ⟨rfl, hw.rs⟩, fun h => absurd h (by rcases hc with rfl | rfl <;> decide)⟩
  | none =>
    obtain ⟨hok, ht, hx1, hx2, hy⟩ := fill_good hf
    obtain ⟨m1, m2⟩ := wrap_mul hok.2.2 hok.2.1
    have hp1 := hok.2.1.1
    have hp2 := hok.2.1.2
    simp only [show bLeft pt at_ r p b now = (x / p, none) from by simp [bLeft, hf], numE]
    refine run_ok Γok (stops := []) 400 _ _ _ ?_
    simp only [St.put, r_ops, rawOp, stopAt, memN, Bool.or_false, o_false, dstOk, Nat.reduceLT, gdK, stC, stpK, pureK, rdK, kn, SV.known, evO, getT, ↓reduceIte, putA, getL, Nat.reduceEqDiff, allocK, g70, List.length_cons, List.length_nil, Nat.zero_add, Nat.reduceAdd, litL, List.cons_append, List.nil_append, storeK, getH, SV.flat, Nat.succ_ne_self, oneL, SV.one, Value.oneCell', and_true, SV.cells, Nat.le_refl, putS, setH, putL, r_ops_nil, r_seq, r_reg, binK, intB, intK, r_cond, cndK, setB, r_ret, r_code_ret, r_nil, RX.Ends, retK, resvK, oneTup, true_and, r_skip, f70_0, ne_eq, not_false_eq_true, Nat.add_zero, loadK, g3, f40_2, Nat.lt_add_one]
    refine fun b4 => ⟨fun h => absurd h (by decide), fun _ => ⟨by omega, fun w' hw => ?_⟩⟩
    refine ⟨?_, hw.rs⟩
    have hq1 : 0 ≤ x / p := Int.ediv_nonneg hx1 (by omega)
    have hq2 : x / p ≤ x := Int.ediv_le_self _ hx1
    rw [Int.tdiv_eq_ediv_of_nonneg hx1, wrap_in (by omega) (by omega)]
    rfl
theorem run_max2 (P : Program) (ts : Array TypeId) (t : TypeId) (k : IntKind) (x y : Int) (w : World) : (Builtin.max_ ts t #[.int k x, .int k y]).run P w = .ok (.int k (if x < y then y else x)) w := by
  simp [Builtin.max_, Builtin.max2]
theorem bmax {P : Program} {k : List It} {s : St} {K : Exit → St → Prop} {all r : List Oper} {o : Oper} {X Y : Operand} {ts : Array TypeId} {kd : IntKind} {x y : Int} (hop : o.op = .call { callee := .builtin .max, args := #[X, Y], argTypes := ts }) (hg : o.guard = none) (hd : dstOk s o.dst)
    (hX : evO s X = .lit (.int kd x)) (hY : evO s Y = .lit (.int kd y)) (h : VdT P (.ops all r :: k) .normal (s.put o.dst (.lit (.int kd (if x < y then y else x)))) K) : VdT P (.ops all (o :: r) :: k) .normal s K :=
  VdT.val hg hd rfl (fun o' a w ho' hs => by
    have eX := ev_ok hs X (by rw [hX]; rfl)
    have eY := ev_ok hs Y (by rw [hY]; rfl)
    rw [hX] at eX
    rw [hY] at eY
    simp only [SV.den] at eX eY
    rw [hop] at ho'
    have := run_max2 P ts o'.type kd x y w
    simp only [execOp, ho', resolve, invoke, builtin, Sem.run_bind, Sem.run_pure, Result.andThen_ok, List.map_toArray, List.map_cons, List.map_nil, eX, eY, this, SV.den]) h
set_option maxRecDepth 100000 in
theorem rwait_calls (g r p b now pt at_ : Int) (w : World) : Calls Try.prog 35 #[.agg #[.int .i64 pt, .int .i64 at_], .agg #[.int .i64 g, .int .i64 r, .int .i64 p, .int .i64 b], .int .i64 now] w fun e w' =>
    e = .returned (.tuple #[.int .i64 (bWait pt at_ r p b now).1, .int .i64 (numE (bWait pt at_ r p b now).2)]) ∧ Below w.heap.size w w' := by
  refine calls_rx Γok [.lit (.agg #[.int .i64 pt, .int .i64 at_]), .lit (.agg #[.int .i64 g, .int .i64 r, .int .i64 p, .int .i64 b]), .lit (.int .i64 now)] [] _ _ Try.func35 rfl (by rw [Try.ntmps35]; exact Nat.le_of_ble_eq_true rfl) (SatH.start _ _ w) ?_
  rw [Try.ntmps35, Try.results35]
  refine run_ok Γok (stops := []) 400 _ _ _ ?_
  simp only [argsF, Nat.zero_add, Nat.reduceAdd, r_seq, r_reg, r_ops, rawOp, stopAt, memN, Bool.or_false, o_false, dstOk, Nat.reduceLT, gdK, stC, stpK, boxK, SV.flat, evO, getT, ↓reduceIte, litL, oneL, SV.one, Value.oneCell', and_true, putA, St.put, List.length_nil, SV.cells, List.nil_append, Nat.reduceEqDiff, reduceCtorEq, List.length_cons, List.cons_append, pureK, rdK, kn, SV.known, r_ops_nil, loadK, g70, Nat.succ_ne_self, getH, Nat.le_refl, takeL, g40, o_true, rawC, true_and]
  intro b1 b2
  obtain ⟨⟨x, y, z⟩, hf⟩ : ∃ q, bFill pt at_ r p b now = q := ⟨_, rfl⟩
  have hfl : ∀ w1, Calls Try.prog 41 #[.agg #[.int .i64 pt, .int .i64 at_], .agg #[.int .i64 g, .int .i64 r, .int .i64 p, .int .i64 b], .int .i64 now] w1 fun e w' =>
      e = .returned (.tuple #[.agg #[.int .i64 x, .int .i64 y], .int .i64 (numE z)]) ∧ Below w1.heap.size w1 w' := fun w1 => by
    have := rfill_calls g r p b now pt at_ w1
    rw [hf] at this
    exact this
  refine VdT.callA rfl rfl rfl Try.func41 rfl nm41 (by simp only [evL, evO, getT, Nat.reduceEqDiff, ↓reduceIte, Nat.succ_ne_self, knownL, SV.known, and_true]) (by simp only [dstOk, Nat.reduceLT]) (.tup [.agg [.lit (.int .i64 x), .lit (.int .i64 y)], .lit (.int .i64 (numE z))]) rfl (fun w1 hw1 => hfl w1) ?_
  cases z with
  | some c =>
    obtain ⟨rfl, rfl, hc⟩ := fill_err hf
    simp only [show bWait pt at_ r p b now = (0, some c) from by simp [bWait, hf], numE]
    refine run_ok Γok (stops := []) 400 _ _ _ ?_
    simp only [St.put, r_ops, rawOp, stopAt, memN, Bool.or_false, o_false, dstOk, Nat.reduceLT, gdK, stC, stpK, pureK, rdK, kn, SV.known, evO, getT, ↓reduceIte, putA, getL, Nat.reduceEqDiff, allocK, g70, List.length_cons, List.length_nil, Nat.zero_add, Nat.reduceAdd, litL, List.cons_append, List.nil_append, storeK, getH, SV.flat, Nat.succ_ne_self, oneL, SV.one, Value.oneCell', and_true, SV.cells, Nat.le_refl, putS, setH, putL, r_ops_nil, r_seq, r_reg, binK, intB, intK, r_cond, cndK, setB, r_ret, r_code_ret, r_nil, RX.Ends, retK, resvK, oneTup, true_and, r_skip, f40_2, ne_eq, not_false_eq_true, loadK, g3, f70_0, Nat.add_zero, o_true, rawC]
    exact fun b4 => ⟨fun _ w' hw => ⟨rfl, hw.rs⟩, fun h => absurd h (by rcases hc with rfl | rfl <;> decide)⟩
  | none =>
    obtain ⟨hok, ht, hx1, hx2, hy⟩ := fill_good hf
    obtain ⟨m1, m2⟩ := wrap_mul hok.2.2 hok.2.1
    have hp1 := hok.2.1.1
    have hp2 := hok.2.1.2
    have hr1 := hok.1.1
    have hr2 := hok.1.2
    simp only [numE]
    refine run_ok Γok (stops := []) 400 _ _ _ ?_
    simp only [St.put, r_ops, rawOp, stopAt, memN, Bool.or_false, o_false, dstOk, Nat.reduceLT, gdK, stC, stpK, pureK, rdK, kn, SV.known, evO, getT, ↓reduceIte, putA, getL, Nat.reduceEqDiff, allocK, g70, List.length_cons, List.length_nil, Nat.zero_add, Nat.reduceAdd, litL, List.cons_append, List.nil_append, storeK, getH, SV.flat, Nat.succ_ne_self, oneL, SV.one, Value.oneCell', and_true, SV.cells, Nat.le_refl, putS, setH, putL, r_ops_nil, r_seq, r_reg, binK, intB, intK, r_cond, cndK, setB, r_ret, r_code_ret, r_nil, RX.Ends, retK, resvK, oneTup, true_and, r_skip, f40_2, ne_eq, not_false_eq_true, loadK, g3, f70_0, Nat.add_zero, o_true, rawC]
    refine fun b4 => ⟨fun h => absurd h (by decide), fun _ => ?_⟩
    refine bmax rfl rfl (by simp [dstOk]) rfl rfl ?_
    rw [wrap_in (x := p - x) (by omega) (by omega)]
    by_cases hc : p - x < 0
    · rw [if_pos hc]
      refine run_ok Γok (stops := []) 400 _ _ _ ?_
      simp only [St.put, r_ops, rawOp, stopAt, memN, Bool.or_false, o_false, dstOk, Nat.reduceLT, gdK, stC, stpK, pureK, rdK, kn, SV.known, evO, getT, ↓reduceIte, putA, r_ops_nil, r_seq, r_reg, f40_1, ne_eq, Nat.succ_ne_self, not_false_eq_true, Nat.reduceEqDiff, Nat.zero_add, loadK, g3, getH, getL, binK, intB, intK, Nat.lt_add_one, r_ret, r_nil, RX.Ends, retK, resvK, oneTup, true_and]
      refine ⟨by omega, fun w' hw => ⟨?_, hw.rs⟩⟩
      rw [show bWait pt at_ r p b now = (0, none) from by simp [bWait, hf]; omega, wrap_in (x := 0 + r) (by omega) (by omega), wrap_in (x := 0 + r - 1) (by omega) (by omega), Int.tdiv_eq_ediv_of_nonneg (by omega), Int.ediv_eq_zero_of_lt (by omega) (by omega)]
      rfl
    · rw [if_neg hc]
      refine run_ok Γok (stops := []) 400 _ _ _ ?_
      simp only [St.put, r_ops, rawOp, stopAt, memN, Bool.or_false, o_false, dstOk, Nat.reduceLT, gdK, stC, stpK, pureK, rdK, kn, SV.known, evO, getT, ↓reduceIte, putA, r_ops_nil, r_seq, r_reg, f40_1, ne_eq, Nat.succ_ne_self, not_false_eq_true, Nat.reduceEqDiff, Nat.zero_add, loadK, g3, getH, getL, binK, intB, intK, Nat.lt_add_one, r_ret, r_nil, RX.Ends, retK, resvK, oneTup, true_and]
      refine ⟨by omega, fun w' hw => ⟨?_, hw.rs⟩⟩
      have hq1 : 0 ≤ (p - x + r - 1) / r := Int.ediv_nonneg (by omega) (by omega)
      have hq2 : (p - x + r - 1) / r ≤ (p - x + r - 1) := Int.ediv_le_self _ (by omega)
      rw [wrap_in (x := p - x + r) (by omega) (by omega), wrap_in (x := p - x + r - 1) (by omega) (by omega), Int.tdiv_eq_ediv_of_nonneg (by omega), wrap_in (by omega) (by omega)]
      by_cases hz : p ≤ x
      · rw [show bWait pt at_ r p b now = (0, none) from by simp [bWait, hf]; omega, Int.ediv_eq_zero_of_lt (by omega) (by omega)]
        rfl
      · rw [show bWait pt at_ r p b now = ((p - x + r - 1) / r, none) from by simp [bWait, hf]; omega]
        rfl
end Go.Proofs.Ytoplidleecbdeaa
