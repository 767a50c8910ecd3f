import Derived.Test.YtoplidleecbdeaaT9
import Derived.Test.YtoplidleecbdeaaEq
import Derived.Laws.Cover1
set_option linter.unusedVariables false
set_option linter.unusedSimpArgs false
namespace Go.Proofs.Ytoplidleecbdeaa
open Go Go.RowKit Go.Proofs.RX Go.Maps Go.ChangeMaps
theorem nm34 : (Try.f34.name == "runtime.NumGoroutine") = false := by kernel_rfl
theorem nm35 : (Try.f35.name == "runtime.NumGoroutine") = false := by kernel_rfl
theorem nm36 : (Try.f36.name == "runtime.NumGoroutine") = false := by kernel_rfl
theorem nm40 : (Try.f40.name == "runtime.NumGoroutine") = false := by kernel_rfl
theorem nm41 : (Try.f41.name == "runtime.NumGoroutine") = false := by kernel_rfl
theorem nm44 : (Try.f44.name == "runtime.NumGoroutine") = false := by kernel_rfl
theorem nm45 : (Try.f45.name == "runtime.NumGoroutine") = false := by kernel_rfl
set_option maxRecDepth 100000 in
theorem rtime_calls (n : Int) (w : World) : Calls Try.prog 45 #[.int .i64 n] w fun e' w' => e' = .returned (.bool (decide (okT n))) ∧ Below w.heap.size w w' := by
  refine calls_rx Γok [.lit (.int .i64 n)] [] _ _ Try.func45 rfl (by rw [Try.ntmps45]; exact Nat.le_of_ble_eq_true rfl) (SatH.start _ _ w) ?_
  rw [Try.ntmps45, Try.results45]
  refine run_ok Γok (stops := []) 400 _ _ _ ?_
  simp only [argsF, r_seq, r_reg, r_ops, rawOp, stopAt, memN, Bool.or_false, o_false, dstOk, Nat.reduceLT, gdK, stC, stpK, pureK, rdK, kn, SV.known, evO, putA, St.put, r_ops_nil, getT, reduceCtorEq, ↓reduceIte, binK, intB, intK, dstAt, gdvK, wantK, Nat.succ_ne_self, Nat.lt_add_one, pickK, Nat.reduceEqDiff, selB, r_ret, r_nil, RX.Ends, retK, resvK, oneTup, true_and, skC]
  refine ⟨fun h w' hw => ⟨?_, hw.rs⟩, fun h w' hw => ⟨?_, hw.rs⟩⟩
  · have h1 : 0 ≤ n := by simpa using h
    simp [SV.den, okT, h1]
  · have h1 : ¬ 0 ≤ n := by simpa using h
    simp [SV.den, okT, h1]
/-- 'check': 0, 1 or 4. -/
def rCheck (pt at_ r p b now : Int) : Int := if ¬ bOk r p b then 4 else if pt < 0 ∨ b * p < pt ∨ ¬ okT at_ ∨ ¬ okT now then 1 else 0
set_option maxRecDepth 100000 in
theorem rcheck_calls (g r p b now pt at_ : Int) (w : World) : Calls Try.prog 44 #[.agg #[.int .i64 pt, .int .i64 at_], .agg #[.int .i64 g, .int .i64 r, .int .i64 p, .int .i64 b], .int .i64 now] w fun e' w' => e' = .returned (.int .i64 (rCheck pt at_ r p b now)) ∧ Below w.heap.size w w' := by
  refine calls_rx Γok [.lit (.agg #[.int .i64 pt, .int .i64 at_]), .lit (.agg #[.int .i64 g, .int .i64 r, .int .i64 p, .int .i64 b]), .lit (.int .i64 now)] [] _ _ Try.func44 rfl (by rw [Try.ntmps44]; exact Nat.le_of_ble_eq_true rfl) (SatH.start _ _ w) ?_
  rw [Try.ntmps44, Try.results44]
  refine run_ok Γok (stops := []) 400 _ _ _ ?_
  simp only [argsF, Nat.zero_add, Nat.reduceAdd, r_seq, r_reg, r_ops, rawOp, stopAt, memN, Bool.or_false, o_false, dstOk, Nat.reduceLT, gdK, stC, stpK, boxK, SV.flat, evO, getT, ↓reduceIte, litL, oneL, SV.one, Value.oneCell', and_true, putA, St.put, List.length_nil, SV.cells, List.nil_append, Nat.reduceEqDiff, reduceCtorEq, List.length_cons, List.cons_append, pureK, rdK, kn, SV.known, r_ops_nil, r_block, loadK, g40, getH, Nat.le_refl, takeL, o_true, rawC, true_and]
  intro b1 b2
  by_cases hb : bOk r p b
  · obtain ⟨m1, m2⟩ := wrap_mul hb.2.2 hb.2.1
    refine VdT.callA rfl rfl rfl Try.func17 rfl nm17 (by simp only [evL, evO, getT, ↓reduceIte, knownL, SV.known, and_true]) (by simp only [dstOk, Nat.reduceLT]) (.lit (.int .i64 0)) rfl (fun w1 hw1 => (by have := rvalid_calls g r p b w1; rw [if_pos hb] at this; exact this)) ?_
    refine run_ok Γok (stops := []) 400 _ _ _ ?_
    simp only [St.put, r_ops, rawOp, stopAt, memN, Bool.or_false, o_false, dstOk, Nat.reduceLT, gdK, stC, stpK, pureK, rdK, binK, evO, getT, ↓reduceIte, intB, intK, putA, kn, SV.known, r_ops_nil, r_cond, cndK, setB, r_seq, r_reg, r_ret, r_blk_ret, r_code_ret, r_nil, RX.Ends, retK, resvK, oneTup, true_and, f70_0, ne_eq, Nat.succ_ne_self, not_false_eq_true, Nat.reduceEqDiff, Nat.add_zero, loadK, g3, getH, getL, dstAt, gdvK, wantK, skC, pickK, selB, o_true, Nat.lt_add_one, f40_3, Nat.zero_add, f40_2, f70_1, rawC]
    refine ⟨fun h => absurd h (by decide), fun _ => ?_⟩
    rw [wrap_in (by omega) (by omega)]
    refine ⟨fun h1 w' hw => ⟨?_, hw.rs⟩, fun h1 => ⟨fun h2 w' hw => ⟨?_, hw.rs⟩, fun h2 => ?_⟩⟩
    · have : pt < 0 := of_decide_eq_true h1
      rw [rCheck, if_neg (by simpa using hb), if_pos (.inl this)]; rfl
    · have : b * p < pt := of_decide_eq_true h2
      rw [rCheck, if_neg (by simpa using hb), if_pos (.inr (.inl this))]; rfl
    have h1' : ¬ pt < 0 := of_decide_eq_false h1
    have h2' : ¬ b * p < pt := of_decide_eq_false h2
    refine VdT.callA rfl rfl rfl Try.func45 rfl nm45 (by simp only [evL, evO, getT, ↓reduceIte, knownL, SV.known, and_true]) (by simp only [dstOk, Nat.reduceLT]) (.bs (decide (okT at_))) rfl (fun w1 hw1 => rtime_calls at_ w1) ?_
    refine run_ok Γok (stops := []) 400 _ _ _ ?_
    simp only [St.put, r_ops, rawOp, stopAt, memN, Bool.or_false, o_false, dstOk, Nat.reduceLT, gdK, dstAt, gdvK, getT, Nat.reduceEqDiff, ↓reduceIte, Nat.succ_ne_self, wantK, stC, stpK, pureK, rdK, unK, evO, putA, pickK, kn, SV.known, selB, skC, o_true, Nat.lt_add_one, r_ops_nil, r_cond, cndK, r_seq, r_reg, r_ret, r_blk_ret, r_code_ret, r_nil, RX.Ends, retK, resvK, oneTup, true_and, reduceCtorEq, rawC]
    refine ⟨fun h3 w' hw => ⟨?_, hw.rs⟩, fun h3 => ?_⟩
    · have : ¬ okT at_ := by simpa using h3
      rw [rCheck, if_neg (by simpa using hb), if_pos (.inr (.inr (.inl this)))]; rfl
    have h3' : okT at_ := by simpa using h3
    refine VdT.callA rfl rfl rfl Try.func45 rfl nm45 (by simp only [evL, evO, getT, ↓reduceIte, knownL, SV.known, and_true]) (by simp only [dstOk, Nat.reduceLT]) (.bs (decide (okT now))) rfl (fun w1 hw1 => rtime_calls now w1) ?_
    refine run_ok Γok (stops := []) 400 _ _ _ ?_
    simp only [St.put, r_ops, rawOp, stopAt, memN, Bool.or_false, o_false, dstOk, Nat.reduceLT, gdK, dstAt, gdvK, getT, Nat.reduceEqDiff, ↓reduceIte, Nat.succ_ne_self, wantK, stC, stpK, pureK, rdK, unK, evO, putA, Nat.lt_add_one, pickK, kn, SV.known, selB, r_ops_nil, r_cond, cndK, setB, r_seq, r_reg, r_ret, r_blk_ret, r_code_ret, r_nil, RX.Ends, retK, resvK, oneTup, true_and, r_skip, r_blk_normal]
    refine ⟨fun h4 w' hw => ⟨?_, hw.rs⟩, fun h4 w' hw => ⟨?_, hw.rs⟩⟩
    · have : ¬ okT now := by simpa using h4
      rw [rCheck, if_neg (by simpa using hb), if_pos (.inr (.inr (.inr this)))]; rfl
    · have h4' : okT now := by simpa using h4
      rw [rCheck, if_neg (by simpa using hb), if_neg (by simp [h1', h2', h3', h4'])]; rfl
  · refine VdT.callA rfl rfl rfl Try.func17 rfl nm17 (by simp only [evL, evO, getT, ↓reduceIte, knownL, SV.known, and_true]) (by simp only [dstOk, Nat.reduceLT]) (.lit (.int .i64 4)) rfl (fun w1 hw1 => (by have := rvalid_calls g r p b w1; rw [if_neg hb] at this; exact this)) ?_
    refine run_ok Γok (stops := []) 400 _ _ _ ?_
    simp only [St.put, r_ops, rawOp, stopAt, memN, Bool.or_false, o_false, dstOk, Nat.reduceLT, gdK, stC, stpK, pureK, rdK, binK, evO, getT, ↓reduceIte, intB, intK, putA, kn, SV.known, r_ops_nil, r_cond, cndK, setB, r_seq, r_reg, r_ret, r_blk_ret, r_code_ret, r_nil, RX.Ends, retK, resvK, oneTup, true_and, f70_0, ne_eq, Nat.succ_ne_self, not_false_eq_true, Nat.reduceEqDiff, Nat.add_zero, loadK, g3, getH, getL, dstAt, gdvK, wantK, skC, pickK, selB, o_true, Nat.lt_add_one, f40_3, Nat.zero_add, f40_2, f70_1, rawC]
    refine ⟨fun _ w' hw => ⟨?_, hw.rs⟩, fun h => absurd h (by decide)⟩
    rw [rCheck, if_pos hb]; rfl
theorem okT0 : okT 0 := by unfold okT; omega
theorem rCheck_full (r p b now : Int) : rCheck 0 0 r p b now = numE (bFull r p b now).2.2 := by
  unfold rCheck bFull
  by_cases hb : bOk r p b
  · obtain ⟨m1, m2⟩ := wrap_mul hb.2.2 hb.2.1
    by_cases ht : okT now
    · simp [hb, ht, okT0, numE]; omega
    · simp [hb, ht, okT0, numE]
  · simp [hb, numE]
set_option maxRecDepth 100000 in
/-- The bucket functions of the reference answer as the program's. -/
theorem rfull_calls (g r p b now : Int) (w : World) : Calls Try.prog 40 #[.agg #[.int .i64 g, .int .i64 r, .int .i64 p, .int .i64 b], .int .i64 now] w fun e w' =>
    e = .returned (.tuple #[.agg #[.int .i64 (bFull r p b now).1, .int .i64 (bFull r p b now).2.1], .int .i64 (numE (bFull r p b now).2.2)]) ∧ Below w.heap.size w w' := by
  refine calls_rx Γok [.lit (.agg #[.int .i64 g, .int .i64 r, .int .i64 p, .int .i64 b]), .lit (.int .i64 now)] [] _ _ Try.func40 rfl (by rw [Try.ntmps40]; exact Nat.le_of_ble_eq_true rfl) (SatH.start _ _ w) ?_
  rw [Try.ntmps40, Try.results40]
  refine run_ok Γok (stops := []) 400 _ _ _ ?_
  simp only [argsF, Nat.zero_add, r_seq, r_reg, r_ops, rawOp, stopAt, memN, Bool.or_false, o_false, dstOk, Nat.reduceLT, gdK, stC, stpK, boxK, SV.flat, evO, getT, ↓reduceIte, litL, oneL, SV.one, Value.oneCell', and_true, putA, St.put, List.length_nil, SV.cells, List.nil_append, allocK, g70, List.length_cons, List.cons_append, pureK, rdK, kn, SV.known, r_ops_nil, buildOpK, s70, partsL, buildK, aggC, loadK, g40, Nat.reduceEqDiff, getH, Nat.reduceAdd, Nat.le_refl, takeL, Nat.succ_ne_self, reduceCtorEq, o_true, rawC, true_and]
  intro b1 b2
  refine VdT.callA rfl rfl rfl Try.func44 rfl nm44 (by simp only [evL, evO, getT, Nat.reduceEqDiff, ↓reduceIte, Nat.succ_ne_self, knownL, SV.known, and_true]) (by simp only [dstOk, Nat.reduceLT]) (.lit (.int .i64 (numE (bFull r p b now).2.2))) rfl (fun w1 hw1 => (by have := rcheck_calls g r p b now 0 0 w1; rw [rCheck_full] at this; exact this)) ?_
  by_cases hb : bOk r p b
  · obtain ⟨m1, m2⟩ := wrap_mul hb.2.2 hb.2.1
    by_cases ht : okT now
    · simp only [show bFull r p b now = (b * p, now, none) from by simp [bFull, hb, ht], numE]
      refine run_ok Γok (stops := []) 400 _ _ _ ?_
      simp only [St.put, r_ops, rawOp, stopAt, memN, Bool.or_false, o_false, dstOk, Nat.reduceLT, gdK, stC, stpK, pureK, rdK, kn, SV.known, evO, getT, ↓reduceIte, putA, r_ops_nil, r_seq, r_reg, binK, intB, intK, r_cond, cndK, setB, buildOpK, g70, s70, litL, partsL, buildK, aggC, Nat.reduceEqDiff, storeK, Nat.succ_ne_self, getH, SV.flat, oneL, SV.one, Value.oneCell', and_true, SV.cells, List.length_cons, List.length_nil, Nat.zero_add, Nat.reduceAdd, Nat.le_refl, putS, setH, putL, r_ret, r_code_ret, r_nil, RX.Ends, retK, resvK, loadK, oneTup, takeL, true_and, r_skip, f40_3, ne_eq, not_false_eq_true, g3, getL, f40_2, reduceCtorEq, Nat.lt_add_one, nthP, Nat.reduceLeDiff]
      refine ⟨fun h => absurd h (by decide), fun _ w' hw => ?_⟩
      rw [wrap_in (by omega) (by omega)] at hw ⊢
      exact ⟨rfl, hw.rs⟩
    · simp only [show bFull r p b now = (0, 0, some 1) from by simp [bFull, hb, ht], numE]
      refine run_ok Γok (stops := []) 400 _ _ _ ?_
      simp only [St.put, r_ops, rawOp, stopAt, memN, Bool.or_false, o_false, dstOk, Nat.reduceLT, gdK, stC, stpK, pureK, rdK, kn, SV.known, evO, getT, ↓reduceIte, putA, r_ops_nil, r_seq, r_reg, binK, intB, intK, r_cond, cndK, setB, buildOpK, g70, s70, litL, partsL, buildK, aggC, Nat.reduceEqDiff, storeK, Nat.succ_ne_self, getH, SV.flat, oneL, SV.one, Value.oneCell', and_true, SV.cells, List.length_cons, List.length_nil, Nat.zero_add, Nat.reduceAdd, Nat.le_refl, putS, setH, putL, r_ret, r_code_ret, r_nil, RX.Ends, retK, resvK, loadK, oneTup, takeL, true_and, r_skip, f40_3, ne_eq, not_false_eq_true, g3, getL, f40_2, reduceCtorEq, Nat.lt_add_one, nthP, Nat.reduceLeDiff]
      exact ⟨fun _ w' hw => ⟨rfl, hw.rs⟩, fun h => absurd h (by decide)⟩
  · simp only [show bFull r p b now = (0, 0, some 4) from by simp [bFull, hb], numE]
    refine run_ok Γok (stops := []) 400 _ _ _ ?_
    simp only [St.put, r_ops, rawOp, stopAt, memN, Bool.or_false, o_false, dstOk, Nat.reduceLT, gdK, stC, stpK, pureK, rdK, kn, SV.known, evO, getT, ↓reduceIte, putA, r_ops_nil, r_seq, r_reg, binK, intB, intK, r_cond, cndK, setB, buildOpK, g70, s70, litL, partsL, buildK, aggC, Nat.reduceEqDiff, storeK, Nat.succ_ne_self, getH, SV.flat, oneL, SV.one, Value.oneCell', and_true, SV.cells, List.length_cons, List.length_nil, Nat.zero_add, Nat.reduceAdd, Nat.le_refl, putS, setH, putL, r_ret, r_code_ret, r_nil, RX.Ends, retK, resvK, loadK, oneTup, takeL, true_and, r_skip, f40_3, ne_eq, not_false_eq_true, g3, getL, f40_2, reduceCtorEq, Nat.lt_add_one, nthP, Nat.reduceLeDiff]
    exact ⟨fun _ w' hw => ⟨rfl, hw.rs⟩, fun h => absurd h (by decide)⟩
end Go.Proofs.Ytoplidleecbdeaa
