import Derived.Test.YtoplidleecbdeaaTy
import Derived.Test.YtoplidleecbdeaaRXk
import Derived.Test.YtoplidleecbdeaaBk
set_option linter.unusedVariables false
set_option linter.unusedSimpArgs false
namespace Go.Proofs.Ytoplidleecbdeaa
open Go Go.RowKit Go.Proofs.RX

def bOk (r p b : Int) : Prop := okN r ∧ okN p ∧ okN b
instance (r p b : Int) : Decidable (bOk r p b) := inferInstanceAs (Decidable (_ ∧ _))
/-- 'Full': parts, at, error. -/
def bFull (r p b now : Int) : Int × Int × Option Int :=
  if ¬ bOk r p b then (0, 0, some 4) else if ¬ okT now then (0, 0, some 1) else (b * p, now, none)
theorem wrap_mul {b p : Int} (hb : okN b) (hp : okN p) : 1 ≤ b * p ∧ b * p ≤ 1099511627776 := by
  obtain ⟨h1, h2⟩ := hb
  obtain ⟨h3, h4⟩ := hp
  constructor
  · have := Int.mul_le_mul h1 h3 (by omega) (by omega); omega
  · have := Int.mul_le_mul h2 h4 (by omega) (by omega); omega
theorem wrap_in {x : Int} (h1 : -9223372036854775808 ≤ x) (h2 : x ≤ 9223372036854775807) : IntKind.i64.wrap x = x := by
  rw [IntKind.wrap_i64]
  omega
theorem valid_any (g r p b : Int) (w : World) :
    Calls Try.prog 42 #[.agg #[.int .i64 g, .int .i64 r, .int .i64 p, .int .i64 b]] w fun e w' => e = .returned (ev (if bOk r p b then none else some 4)) ∧ Below w.heap.size w w' := by
  by_cases h : bOk r p b
  · rw [if_pos h]
    refine (valid_ok g r p b w h.1 h.2.1 h.2.2).mono fun e w' ⟨he, hw⟩ => ⟨he, by rw [← hw]; exact (Below.refl _ _).alloc (Nat.le_refl _) _⟩
  · rw [if_neg h]
    refine (valid_bad g r p b w h).mono fun e w' ⟨he, hw⟩ => ⟨he, by rw [← hw]; exact (Below.refl _ _).alloc (Nat.le_refl _) _⟩
theorem tick_b (n : Int) (w : World) : Calls Try.prog 43 #[.int .i64 n] w fun e w' => e = .returned (.bool (decide (okT n))) ∧ Below w.heap.size w w' :=
  (tick_any n w).mono fun e w' ⟨he, hw⟩ => ⟨he, by rw [← hw]; exact Below.refl _ _⟩
theorem nm38 : (Try.f38.name == "runtime.NumGoroutine") = false := by kernel_rfl
theorem nm39 : (Try.f39.name == "runtime.NumGoroutine") = false := by kernel_rfl
theorem nm42 : (Try.f42.name == "runtime.NumGoroutine") = false := by kernel_rfl
theorem nm43 : (Try.f43.name == "runtime.NumGoroutine") = false := by kernel_rfl

set_option maxRecDepth 100000 in
theorem full_any (g r p b now : Int) (w : World) :
    Calls Try.prog 38 #[.agg #[.int .i64 g, .int .i64 r, .int .i64 p, .int .i64 b], .int .i64 now] w fun e w' =>
      e = .returned (.tuple #[.agg #[.int .i64 (bFull r p b now).1, .int .i64 (bFull r p b now).2.1], ev (bFull r p b now).2.2]) ∧ Below w.heap.size w w' := by
  refine calls_rx Γok [.lit (.agg #[.int .i64 g, .int .i64 r, .int .i64 p, .int .i64 b]), .lit (.int .i64 now)] [] _ _ Try.func38 rfl (by rw [Try.ntmps38]; exact Nat.le_of_ble_eq_true rfl) (SatH.start _ _ w) ?_
  rw [Try.ntmps38, Try.results38]
  refine run_ok Γok (stops := []) 400 _ _ _ ?_
  simp only [argsF, Nat.zero_add, r_seq, r_reg, r_ops, rawOp, stopAt, memN, Bool.or_false, o_false, dstOk, Nat.reduceLT, gdK, stC, stpK, boxK, SV.flat, evO, getT, ↓reduceIte, litL, oneL, SV.one, Value.oneCell', and_true, putA, St.put, List.length_nil, SV.cells, List.nil_append, allocK, g73, List.length_cons, List.cons_append, pureK, rdK, kn, SV.known, r_ops_nil, loadK, g40, Nat.reduceEqDiff, getH, Nat.reduceAdd, Nat.le_refl, takeL, o_true, rawC, true_and]
  intro b1 b2
  refine VdT.callA rfl rfl rfl Try.func42 rfl nm42 (by simp only [evL, evO, getT, ↓reduceIte, knownL, SV.known, and_true]) (by simp only [dstOk, Nat.reduceLT]) (.lit (ev (if bOk r p b then none else some 4))) rfl (fun w1 hw1 => valid_any g r p b w1) ?_
  by_cases hok : bOk r p b
  · simp only [if_pos hok, ev]
    refine run_ok Γok (stops := []) 400 _ _ _ ?_
    simp only [St.put, r_ops, rawOp, stopAt, memN, Bool.or_false, o_false, dstOk, Nat.reduceLT, gdK, stC, stpK, pureK, rdK, kn, SV.known, evO, getT, ↓reduceIte, putA, r_ops_nil, r_seq, r_reg, binK, g25, nilS, isConstO, Bool.or_true, eqK, notS, Bool.not_true, r_cond, cndK, r_skip, Nat.reduceEqDiff, Nat.succ_ne_self, reduceCtorEq, o_true, rawC, true_and]
    refine VdT.callA rfl rfl rfl Try.func43 rfl nm43 (by simp only [evL, evO, getT, ↓reduceIte, knownL, SV.known, and_true]) (by simp only [dstOk, Nat.reduceLT]) (.bs (decide (okT now))) rfl (fun w1 hw1 => tick_b now w1) ?_
    by_cases ht : okT now
    · simp only [bFull, decide_eq_true ht, hok, ht, not_true_eq_false, if_false]
      refine run_ok Γok (stops := []) 400 _ _ _ ?_
      simp only [St.put, r_ops, rawOp, stopAt, memN, Bool.or_false, o_false, dstOk, Nat.reduceLT, gdK, stC, stpK, pureK, rdK, unK, evO, getT, ↓reduceIte, putA, r_ops_nil, r_cond, cndK, setB, r_seq, r_reg, buildOpK, g73, s73, litL, partsL, buildK, aggC, mkiK, g58, storeK, Nat.reduceEqDiff, Nat.succ_ne_self, getH, SV.flat, oneL, SV.one, Value.oneCell', and_true, SV.cells, List.length_cons, List.length_nil, Nat.zero_add, Nat.reduceAdd, Nat.le_refl, putS, setH, putL, kn, SV.known, r_ret, r_code_ret, r_nil, RX.Ends, retK, resvK, loadK, oneTup, takeL, true_and, r_skip, f40_3, ne_eq, not_false_eq_true, g3, getL, f40_2, binK, intB, intK, reduceCtorEq, Nat.lt_add_one, nthP, Nat.reduceLeDiff]
      obtain ⟨hm1, hm2⟩ := wrap_mul hok.2.2 hok.2.1
      rw [wrap_in (by omega) (by omega)]
      exact ⟨nofun, fun _ w' hw => ⟨rfl, hw.rs⟩⟩
    · simp only [bFull, decide_eq_false ht, hok, ht, not_true_eq_false, not_false_eq_true, if_false, if_true]
      refine run_ok Γok (stops := []) 400 _ _ _ ?_
      simp only [St.put, r_ops, rawOp, stopAt, memN, Bool.or_false, o_false, dstOk, Nat.reduceLT, gdK, stC, stpK, pureK, rdK, unK, evO, getT, ↓reduceIte, putA, r_ops_nil, r_cond, cndK, setB, r_seq, r_reg, buildOpK, g73, s73, litL, partsL, buildK, aggC, mkiK, g58, storeK, Nat.reduceEqDiff, Nat.succ_ne_self, getH, SV.flat, oneL, SV.one, Value.oneCell', and_true, SV.cells, List.length_cons, List.length_nil, Nat.zero_add, Nat.reduceAdd, Nat.le_refl, putS, setH, putL, kn, SV.known, r_ret, r_code_ret, r_nil, RX.Ends, retK, resvK, loadK, oneTup, takeL, true_and, r_skip, f40_3, ne_eq, not_false_eq_true, g3, getL, f40_2, binK, intB, intK, reduceCtorEq, Nat.lt_add_one, nthP, Nat.reduceLeDiff]
      exact ⟨fun _ w' hw => ⟨rfl, hw.rs⟩, nofun⟩
  · simp only [bFull, if_neg hok, ev, hok, not_false_eq_true, if_true]
    refine run_ok Γok (stops := []) 400 _ _ _ ?_
    simp only [St.put, ↓reduceIte, r_ops, rawOp, stopAt, memN, Bool.or_false, o_false, dstOk, Nat.reduceLT, gdK, stC, stpK, pureK, rdK, kn, SV.known, evO, getT, putA, r_ops_nil, r_seq, r_reg, binK, g25, nilS, isConstO, Bool.or_true, eqK, notS, Bool.not_false, r_cond, cndK, buildOpK, g73, s73, litL, partsL, buildK, aggC, Nat.reduceEqDiff, storeK, Nat.succ_ne_self, getH, SV.flat, oneL, SV.one, Value.oneCell', and_true, SV.cells, List.length_cons, List.length_nil, Nat.zero_add, Nat.reduceAdd, Nat.le_refl, putS, setH, putL, r_ret, r_code_ret, r_nil, RX.Ends, retK, resvK, loadK, oneTup, takeL, true_and]
    exact fun w' hw => ⟨rfl, hw.rs⟩

/-- 'Fill'. -/
def bFill (pt at_ r p b now : Int) : Int × Int × Option Int :=
  if ¬ bOk r p b then (0, 0, some 4) else if ¬ okT now then (0, 0, some 1)
  else if pt < 0 ∨ b * p < pt ∨ ¬ okT at_ then (0, 0, some 1)
  else if now ≤ at_ then (pt, at_, none)
  else if now - at_ < b * p - pt ∧ (now - at_) * r < b * p - pt then (pt + (now - at_) * r, now, none)
  else (b * p, now, none)
theorem full_is {r p b now x y : Int} {z : Option Int} (h : bFull r p b now = (x, y, z)) (g : Int) (w : World) :
    Calls Try.prog 38 #[.agg #[.int .i64 g, .int .i64 r, .int .i64 p, .int .i64 b], .int .i64 now] w fun e w' =>
      e = .returned (.tuple #[.agg #[.int .i64 x, .int .i64 y], ev z]) ∧ Below w.heap.size w w' := by
  have := full_any g r p b now w
  rw [h] at this
  exact this
theorem mul_in {n r : Int} (h1 : 0 ≤ n) (h2 : n ≤ 1099511627776) (hr : okN r) : 0 ≤ n * r ∧ n * r ≤ 1152921504606846976 := by
  obtain ⟨h3, h4⟩ := hr
  constructor
  · exact Int.mul_nonneg h1 (by omega)
  · have := Int.mul_le_mul h2 h4 (by omega) (by omega); omega

set_option maxRecDepth 100000 in
theorem fill_any (g r p b now pt at_ : Int) (w : World) :
    Calls Try.prog 39 #[.agg #[.int .i64 pt, .int .i64 at_], .agg #[.int .i64 g, .int .i64 r, .int .i64 p, .int .i64 b], .int .i64 now] w fun e w' =>
      e = .returned (.tuple #[.agg #[.int .i64 (bFill pt at_ r p b now).1, .int .i64 (bFill pt at_ r p b now).2.1], ev (bFill pt at_ r p b now).2.2]) ∧ Below w.heap.size w w' := by
  refine calls_rx Γok [.lit (.agg #[.int .i64 pt, .int .i64 at_]), .lit (.agg #[.int .i64 g, .int .i64 r, .int .i64 p, .int .i64 b]), .lit (.int .i64 now)] [] _ _ Try.func39 rfl (by rw [Try.ntmps39]; exact Nat.le_of_ble_eq_true rfl) (SatH.start _ _ w) ?_
  rw [Try.ntmps39, Try.results39]
  refine run_ok Γok (stops := []) 400 _ _ _ ?_
  simp only [argsF, Nat.zero_add, Nat.reduceAdd, r_seq, r_reg, r_ops, rawOp, stopAt, memN, Bool.or_false, o_false, dstOk, Nat.reduceLT, gdK, stC, stpK, boxK, SV.flat, evO, getT, ↓reduceIte, litL, oneL, SV.one, Value.oneCell', and_true, putA, St.put, List.length_nil, SV.cells, List.nil_append, Nat.reduceEqDiff, reduceCtorEq, List.length_cons, List.cons_append, allocK, g73, pureK, rdK, kn, SV.known, r_ops_nil, loadK, g40, getH, Nat.le_refl, takeL, Nat.succ_ne_self, o_true, rawC, true_and]
  intro b1 b2 b3
  refine VdT.callA rfl rfl rfl Try.func38 rfl nm38 (by simp only [evL, evO, getT, Nat.succ_ne_self, ↓reduceIte, knownL, SV.known, and_true]) (by simp only [dstOk, Nat.reduceLT]) (.tup [.agg [.lit (.int .i64 (bFull r p b now).1), .lit (.int .i64 (bFull r p b now).2.1)], .lit (ev (bFull r p b now).2.2)]) rfl (fun w1 hw1 => full_any g r p b now w1) ?_
  by_cases hok : bOk r p b
  · by_cases ht : okT now
    · simp only [show bFull r p b now = (b * p, now, none) from by simp [bFull, hok, ht], ev]
      obtain ⟨hm1, hm2⟩ := wrap_mul hok.2.2 hok.2.1
      refine run_ok Γok (stops := []) 400 _ _ _ ?_
      simp only [St.put, r_ops, rawOp, stopAt, memN, Bool.or_false, o_false, dstOk, Nat.reduceLT, gdK, stC, stpK, pureK, rdK, kn, SV.known, evO, getT, ↓reduceIte, putA, getL, Nat.reduceEqDiff, allocK, g73, List.length_cons, List.length_nil, Nat.zero_add, Nat.reduceAdd, litL, List.cons_append, List.nil_append, storeK, getH, SV.flat, Nat.succ_ne_self, oneL, SV.one, Value.oneCell', and_true, SV.cells, Nat.le_refl, putS, setH, putL, r_ops_nil, r_seq, r_block, r_reg, binK, g25, nilS, isConstO, Bool.or_true, eqK, notS, Bool.not_true, r_cond, cndK, f73_0, ne_eq, not_false_eq_true, Nat.add_zero, loadK, g3, intB, intK, dstAt, gdvK, wantK, skC, pickK, selB, o_true, buildOpK, s73, partsL, buildK, aggC, mkiK, g58, r_ret, r_blk_ret, r_code_ret, r_nil, RX.Ends, retK, resvK, oneTup, takeL, true_and, f73_1, rawC]
      refine fun b4 => ⟨fun h1 w' hw => ?_, fun h1 => ⟨fun h2 w' hw => ?_, fun h2 => ?_⟩⟩
      · have : bFill pt at_ r p b now = (0, 0, some 1) := by
          simp at h1; simp [bFill, hok, ht, h1]
        rw [this]
        exact ⟨rfl, hw.rs⟩
      · have : bFill pt at_ r p b now = (0, 0, some 1) := by
          simp at h1 h2; simp [bFill, hok, ht, h2]
        rw [this]
        exact ⟨rfl, hw.rs⟩
      · refine VdT.callA rfl rfl rfl Try.func43 rfl nm43 (by simp only [evL, evO, getT, ↓reduceIte, knownL, SV.known, and_true]) (by simp only [dstOk, Nat.reduceLT]) (.bs (decide (okT at_))) rfl (fun w1 hw1 => tick_b at_ w1) ?_
        simp only [decide_eq_false_iff_not, Int.not_lt] at h1 h2
        refine run_ok Γok (stops := []) 400 _ _ _ ?_
        simp only [St.put, r_ops, rawOp, stopAt, memN, Bool.or_false, o_false, dstOk, Nat.reduceLT, gdK, dstAt, gdvK, getT, Nat.reduceEqDiff, ↓reduceIte, Nat.succ_ne_self, wantK, stC, stpK, pureK, rdK, unK, evO, putA, pickK, kn, SV.known, selB, r_ops_nil, r_cond, cndK, setB, r_seq, r_reg, buildOpK, g73, s73, litL, partsL, buildK, aggC, mkiK, g58, storeK, getH, SV.flat, oneL, SV.one, Value.oneCell', and_true, SV.cells, List.length_cons, List.length_nil, Nat.zero_add, Nat.reduceAdd, Nat.le_refl, putS, setH, putL, r_ret, r_blk_ret, r_code_ret, r_nil, RX.Ends, retK, resvK, loadK, oneTup, takeL, true_and, reduceCtorEq, f73_1, ne_eq, not_false_eq_true, g3, getL, binK, intB, intK, r_skip, r_blk_normal, f73_0, Nat.add_zero, f40_1, nthP, Nat.reduceLeDiff, Nat.lt_add_one, skC]
        refine ⟨fun h3 w' hw => ?_, fun h3 => ⟨fun h4 w' hw => ?_, fun h4 => ?_⟩⟩
        · have : bFill pt at_ r p b now = (0, 0, some 1) := by
            simp at h3; simp [bFill, hok, ht, h3]
          rw [this]
          exact ⟨rfl, hw.rs⟩
        · have : bFill pt at_ r p b now = (pt, at_, none) := by
            simp at h3 h4; simp [bFill, hok, ht, h3, h4]; omega
          rw [this]
          exact ⟨rfl, hw.rs⟩
        · have h5 : okT at_ := by simpa using h3
          have h6 : at_ < now := by simpa using h4
          have h7 := ht.1
          have h8 := ht.2
          have h9 := h5.1
          have h10 := h5.2
          obtain ⟨m1, m2⟩ := mul_in (n := now - at_) (by omega) (by omega) hok.1
          rw [wrap_in (x := now - at_) (by omega) (by omega), wrap_in (x := b * p - pt) (by omega) (by omega), wrap_in (x := (now - at_) * r) (by omega) (by omega)]
          refine ⟨fun g1 => ⟨fun g2 w' hw => ?_, fun g2 w' hw => ?_⟩, fun g1 w' hw => ?_⟩
          · simp at g1 g2
            have : bFill pt at_ r p b now = (pt + (now - at_) * r, now, none) := by
              simp only [bFill, hok, ht, h5, g1, g2, not_true_eq_false, if_false, and_self, if_true, or_false]
              rw [if_neg (by omega), if_neg (by omega)]
            rw [this, wrap_in (by omega) (by omega)]
            exact ⟨rfl, hw.rs⟩
          · have : bFill pt at_ r p b now = (b * p, now, none) := by
              have g3 : ¬ ((now - at_) * r < b * p - pt) := by simpa using g2
              simp only [bFill, hok, ht, h5, g3, not_true_eq_false, if_false, and_false, or_false]
              rw [if_neg (by omega), if_neg (by omega)]
            rw [this]
            exact ⟨rfl, hw.rs⟩
          · have : bFill pt at_ r p b now = (b * p, now, none) := by
              have g3 : ¬ (now - at_ < b * p - pt) := by simpa using g1
              simp only [bFill, hok, ht, h5, g3, not_true_eq_false, if_false, false_and, or_false]
              rw [if_neg (by omega), if_neg (by omega)]
            rw [this]
            exact ⟨rfl, hw.rs⟩
    · simp only [bFull, bFill, hok, ht, not_true_eq_false, not_false_eq_true, if_false, if_true, ev]
      refine run_ok Γok (stops := []) 400 _ _ _ ?_
      simp only [St.put, r_ops, rawOp, stopAt, memN, Bool.or_false, o_false, dstOk, Nat.reduceLT, gdK, stC, stpK, pureK, rdK, kn, SV.known, evO, getT, ↓reduceIte, putA, getL, Nat.reduceEqDiff, allocK, g73, List.length_cons, List.length_nil, Nat.zero_add, Nat.reduceAdd, litL, List.cons_append, List.nil_append, storeK, getH, SV.flat, Nat.succ_ne_self, oneL, SV.one, Value.oneCell', and_true, SV.cells, Nat.le_refl, putS, setH, putL, r_ops_nil, r_seq, r_block, r_reg, binK, g25, nilS, isConstO, Bool.or_true, eqK, notS, Bool.not_false, r_cond, cndK, buildOpK, s73, partsL, buildK, aggC, r_ret, r_blk_ret, r_code_ret, r_nil, RX.Ends, retK, resvK, loadK, oneTup, takeL, true_and]
      exact fun _ w' hw => ⟨rfl, hw.rs⟩
  · simp only [bFull, bFill, hok, not_false_eq_true, if_true, ev]
    refine run_ok Γok (stops := []) 400 _ _ _ ?_
    simp only [St.put, r_ops, rawOp, stopAt, memN, Bool.or_false, o_false, dstOk, Nat.reduceLT, gdK, stC, stpK, pureK, rdK, kn, SV.known, evO, getT, ↓reduceIte, putA, getL, Nat.reduceEqDiff, allocK, g73, List.length_cons, List.length_nil, Nat.zero_add, Nat.reduceAdd, litL, List.cons_append, List.nil_append, storeK, getH, SV.flat, Nat.succ_ne_self, oneL, SV.one, Value.oneCell', and_true, SV.cells, Nat.le_refl, putS, setH, putL, r_ops_nil, r_seq, r_block, r_reg, binK, g25, nilS, isConstO, Bool.or_true, eqK, notS, Bool.not_false, r_cond, cndK, buildOpK, s73, partsL, buildK, aggC, r_ret, r_blk_ret, r_code_ret, r_nil, RX.Ends, retK, resvK, loadK, oneTup, takeL, true_and]
    exact fun _ w' hw => ⟨rfl, hw.rs⟩

/-- 'Take': parts, at, took, error. -/
def bTake (pt at_ r p b now : Int) : Int × Int × Bool × Option Int :=
  if (bFill pt at_ r p b now).2.2 ≠ none then (0, 0, false, (bFill pt at_ r p b now).2.2)
  else if (bFill pt at_ r p b now).1 < p then ((bFill pt at_ r p b now).1, (bFill pt at_ r p b now).2.1, false, none)
  else ((bFill pt at_ r p b now).1 - p, (bFill pt at_ r p b now).2.1, true, none)
def bLeft (pt at_ r p b now : Int) : Int × Option Int :=
  if (bFill pt at_ r p b now).2.2 ≠ none then (0, (bFill pt at_ r p b now).2.2) else ((bFill pt at_ r p b now).1 / p, none)
def bWait (pt at_ r p b now : Int) : Int × Option Int :=
  if (bFill pt at_ r p b now).2.2 ≠ none then (0, (bFill pt at_ r p b now).2.2)
  else if p ≤ (bFill pt at_ r p b now).1 then (0, none) else ((p - (bFill pt at_ r p b now).1 + r - 1) / r, none)
theorem fill_good {pt at_ r p b now x y : Int} (h : bFill pt at_ r p b now = (x, y, none)) : bOk r p b ∧ okT now ∧ 0 ≤ x ∧ x ≤ b * p ∧ okT y := by
  unfold bFill at h
  split at h
  · simp at h
  · rename_i h1
    have h1 : bOk r p b := by simpa using h1
    split at h
    · simp at h
    · rename_i h2
      have h2 : okT now := by simpa using h2
      obtain ⟨m1, m2⟩ := wrap_mul h1.2.2 h1.2.1
      split at h
      · simp at h
      · rename_i h3
        have h4 : okT at_ := by
          by_cases h4 : okT at_
          · exact h4
          · exact absurd (.inr (.inr h4)) h3
        split at h
        · simp at h; obtain ⟨rfl, rfl⟩ := h; exact ⟨h1, h2, by omega, by omega, h4⟩
        · rename_i h5
          obtain ⟨q1, q2⟩ := mul_in (n := now - at_) (by omega) (by have := h2.2; have := h4.1; omega) h1.1
          split at h
          · simp at h; obtain ⟨rfl, rfl⟩ := h; exact ⟨h1, h2, by omega, by omega, h2⟩
          · simp at h; obtain ⟨rfl, rfl⟩ := h; exact ⟨h1, h2, by omega, by omega, h2⟩

theorem nm26 : (Try.f26.name == "runtime.NumGoroutine") = false := by kernel_rfl
theorem nm30 : (Try.f30.name == "runtime.NumGoroutine") = false := by kernel_rfl
theorem nm31 : (Try.f31.name == "runtime.NumGoroutine") = false := by kernel_rfl
set_option maxRecDepth 100000 in
theorem take_any (g r p b now pt at_ : Int) (w : World) :
    Calls Try.prog 26 #[.agg #[.int .i64 pt, .int .i64 at_], .agg #[.int .i64 g, .int .i64 r, .int .i64 p, .int .i64 b], .int .i64 now] w fun e w' =>
      e = .returned (.tuple #[.agg #[.int .i64 (bTake pt at_ r p b now).1, .int .i64 (bTake pt at_ r p b now).2.1], .bool (bTake pt at_ r p b now).2.2.1, ev (bTake pt at_ r p b now).2.2.2]) ∧ Below w.heap.size w w' := by
  refine calls_rx Γok [.lit (.agg #[.int .i64 pt, .int .i64 at_]), .lit (.agg #[.int .i64 g, .int .i64 r, .int .i64 p, .int .i64 b]), .lit (.int .i64 now)] [] _ _ Try.func26 rfl (by rw [Try.ntmps26]; exact Nat.le_of_ble_eq_true rfl) (SatH.start _ _ w) ?_
  rw [Try.ntmps26, Try.results26]
  refine run_ok Γok (stops := []) 400 _ _ _ ?_
  simp only [argsF, Nat.zero_add, Nat.reduceAdd, r_seq, r_reg, r_ops, rawOp, stopAt, memN, Bool.or_false, o_false, dstOk, Nat.reduceLT, gdK, stC, stpK, boxK, SV.flat, evO, getT, ↓reduceIte, litL, oneL, SV.one, Value.oneCell', and_true, putA, St.put, List.length_nil, SV.cells, List.nil_append, Nat.reduceEqDiff, reduceCtorEq, List.length_cons, List.cons_append, allocK, g73, pureK, rdK, kn, SV.known, r_ops_nil, loadK, Nat.succ_ne_self, getH, Nat.le_refl, takeL, g40, o_true, rawC, true_and]
  intro b1 b2 b3
  refine VdT.callA rfl rfl rfl Try.func39 rfl nm39 (by simp only [evL, evO, getT, Nat.reduceEqDiff, ↓reduceIte, Nat.succ_ne_self, knownL, SV.known, and_true]) (by simp only [dstOk, Nat.reduceLT]) (.tup [.agg [.lit (.int .i64 (bFill pt at_ r p b now).1), .lit (.int .i64 (bFill pt at_ r p b now).2.1)], .lit (ev (bFill pt at_ r p b now).2.2)]) rfl (fun w1 hw1 => fill_any g r p b now pt at_ w1) ?_
  obtain ⟨⟨x, y, z⟩, hf⟩ : ∃ q, bFill pt at_ r p b now = q := ⟨_, rfl⟩
  cases z with
  | some c =>
    simp only [show bTake pt at_ r p b now = (0, 0, false, some c) from by simp [bTake, hf], hf, ev]
    refine run_ok Γok (stops := []) 400 _ _ _ ?_
    simp only [St.put, r_ops, rawOp, stopAt, memN, Bool.or_false, o_false, dstOk, Nat.reduceLT, gdK, stC, stpK, pureK, rdK, kn, SV.known, evO, getT, ↓reduceIte, putA, getL, Nat.reduceEqDiff, storeK, g73, Nat.succ_ne_self, getH, SV.flat, oneL, SV.one, Value.oneCell', and_true, SV.cells, List.length_cons, List.length_nil, Nat.zero_add, Nat.reduceAdd, Nat.le_refl, putS, setH, putL, r_ops_nil, r_seq, r_reg, binK, g25, nilS, isConstO, Bool.or_true, eqK, notS, Bool.not_false, r_cond, cndK, buildOpK, s73, litL, partsL, buildK, aggC, r_ret, r_code_ret, r_nil, RX.Ends, retK, resvK, loadK, oneTup, takeL, true_and]
    exact fun w' hw => ⟨rfl, hw.rs⟩
  | none =>
    obtain ⟨hok, ht, hx1, hx2, hy⟩ := fill_good hf
    obtain ⟨m1, m2⟩ := wrap_mul hok.2.2 hok.2.1
    have hp1 := hok.2.1.1
    have hp2 := hok.2.1.2
    simp only [hf, ev]
    refine run_ok Γok (stops := []) 400 _ _ _ ?_
    simp only [St.put, r_ops, rawOp, stopAt, memN, Bool.or_false, o_false, dstOk, Nat.reduceLT, gdK, stC, stpK, pureK, rdK, kn, SV.known, evO, getT, ↓reduceIte, putA, getL, Nat.reduceEqDiff, storeK, g73, Nat.succ_ne_self, getH, SV.flat, oneL, SV.one, Value.oneCell', and_true, SV.cells, List.length_cons, List.length_nil, Nat.zero_add, Nat.reduceAdd, Nat.le_refl, putS, setH, putL, r_ops_nil, r_seq, r_reg, binK, g25, nilS, isConstO, Bool.or_true, eqK, notS, Bool.not_true, r_cond, cndK, r_skip, f73_0, ne_eq, not_false_eq_true, Nat.add_zero, loadK, g3, f40_2, intB, intK, setB, takeL, r_ret, r_code_ret, r_nil, RX.Ends, retK, resvK, oneTup, true_and, Nat.reduceLeDiff, Nat.lt_add_one]
    refine ⟨fun h1 w' hw => ?_, fun h1 w' hw => ?_⟩
    · rw [show bTake pt at_ r p b now = (x, y, false, none) from by simp at h1; simp [bTake, hf, h1]]
      exact ⟨rfl, hw.rs⟩
    · rw [show bTake pt at_ r p b now = (x - p, y, true, none) from by simp at h1; simp [bTake, hf, h1], wrap_in (by omega) (by omega)]
      exact ⟨rfl, hw.rs⟩
set_option maxRecDepth 100000 in
theorem left_any (g r p b now pt at_ : Int) (w : World) :
    Calls Try.prog 30 #[.agg #[.int .i64 pt, .int .i64 at_], .agg #[.int .i64 g, .int .i64 r, .int .i64 p, .int .i64 b], .int .i64 now] w fun e w' =>
      e = .returned (.tuple #[.int .i64 (bLeft pt at_ r p b now).1, ev (bLeft pt at_ r p b now).2]) ∧ Below w.heap.size w w' := by
  refine calls_rx Γok [.lit (.agg #[.int .i64 pt, .int .i64 at_]), .lit (.agg #[.int .i64 g, .int .i64 r, .int .i64 p, .int .i64 b]), .lit (.int .i64 now)] [] _ _ Try.func30 rfl (by rw [Try.ntmps30]; exact Nat.le_of_ble_eq_true rfl) (SatH.start _ _ w) ?_
  rw [Try.ntmps30, Try.results30]
  refine run_ok Γok (stops := []) 400 _ _ _ ?_
  simp only [argsF, Nat.zero_add, Nat.reduceAdd, r_seq, r_reg, r_ops, rawOp, stopAt, memN, Bool.or_false, o_false, dstOk, Nat.reduceLT, gdK, stC, stpK, boxK, SV.flat, evO, getT, ↓reduceIte, litL, oneL, SV.one, Value.oneCell', and_true, putA, St.put, List.length_nil, SV.cells, List.nil_append, Nat.reduceEqDiff, reduceCtorEq, List.length_cons, List.cons_append, pureK, rdK, kn, SV.known, r_ops_nil, loadK, g73, Nat.succ_ne_self, getH, Nat.le_refl, takeL, g40, o_true, rawC, true_and]
  intro b1 b2
  refine VdT.callA rfl rfl rfl Try.func39 rfl nm39 (by simp only [evL, evO, getT, Nat.reduceEqDiff, ↓reduceIte, Nat.succ_ne_self, knownL, SV.known, and_true]) (by simp only [dstOk, Nat.reduceLT]) (.tup [.agg [.lit (.int .i64 (bFill pt at_ r p b now).1), .lit (.int .i64 (bFill pt at_ r p b now).2.1)], .lit (ev (bFill pt at_ r p b now).2.2)]) rfl (fun w1 hw1 => fill_any g r p b now pt at_ w1) ?_
  obtain ⟨⟨x, y, z⟩, hf⟩ : ∃ q, bFill pt at_ r p b now = q := ⟨_, rfl⟩
  cases z with
  | some c =>
    simp only [show bLeft pt at_ r p b now = (0, some c) from by simp [bLeft, hf], hf, ev]
    refine run_ok Γok (stops := []) 400 _ _ _ ?_
    simp only [St.put, r_ops, rawOp, stopAt, memN, Bool.or_false, o_false, dstOk, Nat.reduceLT, gdK, stC, stpK, pureK, rdK, kn, SV.known, evO, getT, ↓reduceIte, putA, getL, Nat.reduceEqDiff, storeK, g73, Nat.succ_ne_self, getH, SV.flat, oneL, SV.one, Value.oneCell', and_true, SV.cells, List.length_cons, List.length_nil, Nat.zero_add, Nat.reduceAdd, Nat.le_refl, putS, setH, putL, r_ops_nil, r_seq, r_reg, binK, g25, nilS, isConstO, Bool.or_true, eqK, notS, Bool.not_false, r_cond, cndK, r_ret, r_code_ret, r_nil, RX.Ends, retK, resvK, oneTup, true_and]
    exact fun w' hw => ⟨rfl, hw.rs⟩
  | none =>
    obtain ⟨hok, ht, hx1, hx2, hy⟩ := fill_good hf
    obtain ⟨m1, m2⟩ := wrap_mul hok.2.2 hok.2.1
    have hp1 := hok.2.1.1
    have hp2 := hok.2.1.2
    simp only [hf, ev, show bLeft pt at_ r p b now = (x / p, none) from by simp [bLeft, hf]]
    refine run_ok Γok (stops := []) 400 _ _ _ ?_
    simp only [St.put, r_ops, rawOp, stopAt, memN, Bool.or_false, o_false, dstOk, Nat.reduceLT, gdK, stC, stpK, pureK, rdK, kn, SV.known, evO, getT, ↓reduceIte, putA, getL, Nat.reduceEqDiff, storeK, g73, Nat.succ_ne_self, getH, SV.flat, oneL, SV.one, Value.oneCell', and_true, SV.cells, List.length_cons, List.length_nil, Nat.zero_add, Nat.reduceAdd, Nat.le_refl, putS, setH, putL, r_ops_nil, r_seq, r_reg, binK, g25, nilS, isConstO, Bool.or_true, eqK, notS, Bool.not_true, r_cond, cndK, r_skip, f73_0, ne_eq, not_false_eq_true, Nat.add_zero, loadK, g3, f40_2, Nat.lt_add_one, intB, intK, r_ret, r_nil, RX.Ends, retK, resvK, oneTup, true_and]
    refine ⟨by omega, fun w' hw => ?_⟩
    have hq1 : 0 ≤ x / p := Int.ediv_nonneg hx1 (by omega)
    have hq2 : x / p ≤ x := Int.ediv_le_self _ hx1
    rw [Int.tdiv_eq_ediv_of_nonneg hx1, wrap_in (by omega) (by omega)]
    exact ⟨rfl, hw.rs⟩
set_option maxRecDepth 100000 in
theorem wait_any (g r p b now pt at_ : Int) (w : World) :
    Calls Try.prog 31 #[.agg #[.int .i64 pt, .int .i64 at_], .agg #[.int .i64 g, .int .i64 r, .int .i64 p, .int .i64 b], .int .i64 now] w fun e w' =>
      e = .returned (.tuple #[.int .i64 (bWait pt at_ r p b now).1, ev (bWait pt at_ r p b now).2]) ∧ Below w.heap.size w w' := by
  refine calls_rx Γok [.lit (.agg #[.int .i64 pt, .int .i64 at_]), .lit (.agg #[.int .i64 g, .int .i64 r, .int .i64 p, .int .i64 b]), .lit (.int .i64 now)] [] _ _ Try.func31 rfl (by rw [Try.ntmps31]; exact Nat.le_of_ble_eq_true rfl) (SatH.start _ _ w) ?_
  rw [Try.ntmps31, Try.results31]
  refine run_ok Γok (stops := []) 400 _ _ _ ?_
  simp only [argsF, Nat.zero_add, Nat.reduceAdd, r_seq, r_reg, r_ops, rawOp, stopAt, memN, Bool.or_false, o_false, dstOk, Nat.reduceLT, gdK, stC, stpK, boxK, SV.flat, evO, getT, ↓reduceIte, litL, oneL, SV.one, Value.oneCell', and_true, putA, St.put, List.length_nil, SV.cells, List.nil_append, Nat.reduceEqDiff, reduceCtorEq, List.length_cons, List.cons_append, pureK, rdK, kn, SV.known, r_ops_nil, loadK, g73, Nat.succ_ne_self, getH, Nat.le_refl, takeL, g40, o_true, rawC, true_and]
  intro b1 b2
  refine VdT.callA rfl rfl rfl Try.func39 rfl nm39 (by simp only [evL, evO, getT, Nat.reduceEqDiff, ↓reduceIte, Nat.succ_ne_self, knownL, SV.known, and_true]) (by simp only [dstOk, Nat.reduceLT]) (.tup [.agg [.lit (.int .i64 (bFill pt at_ r p b now).1), .lit (.int .i64 (bFill pt at_ r p b now).2.1)], .lit (ev (bFill pt at_ r p b now).2.2)]) rfl (fun w1 hw1 => fill_any g r p b now pt at_ w1) ?_
  obtain ⟨⟨x, y, z⟩, hf⟩ : ∃ q, bFill pt at_ r p b now = q := ⟨_, rfl⟩
  cases z with
  | some c =>
    simp only [show bWait pt at_ r p b now = (0, some c) from by simp [bWait, hf], hf, ev]
    refine run_ok Γok (stops := []) 400 _ _ _ ?_
    simp only [St.put, r_ops, rawOp, stopAt, memN, Bool.or_false, o_false, dstOk, Nat.reduceLT, gdK, stC, stpK, pureK, rdK, kn, SV.known, evO, getT, ↓reduceIte, putA, getL, Nat.reduceEqDiff, storeK, g73, Nat.succ_ne_self, getH, SV.flat, oneL, SV.one, Value.oneCell', and_true, SV.cells, List.length_cons, List.length_nil, Nat.zero_add, Nat.reduceAdd, Nat.le_refl, putS, setH, putL, r_ops_nil, r_seq, r_reg, binK, g25, nilS, isConstO, Bool.or_true, eqK, notS, Bool.not_false, dstAt, gdvK, wantK, skC, pickK, selB, r_cond, cndK, r_ret, r_code_ret, r_nil, RX.Ends, retK, resvK, oneTup, true_and]
    exact fun w' hw => ⟨rfl, hw.rs⟩
  | none =>
    obtain ⟨hok, ht, hx1, hx2, hy⟩ := fill_good hf
    obtain ⟨m1, m2⟩ := wrap_mul hok.2.2 hok.2.1
    have hp1 := hok.2.1.1
    have hp2 := hok.2.1.2
    have hr1 := hok.1.1
    have hr2 := hok.1.2
    simp only [hf, ev]
    refine run_ok Γok (stops := []) 400 _ _ _ ?_
    simp only [St.put, r_ops, rawOp, stopAt, memN, Bool.or_false, o_false, dstOk, Nat.reduceLT, gdK, stC, stpK, pureK, rdK, kn, SV.known, evO, getT, ↓reduceIte, putA, getL, Nat.reduceEqDiff, storeK, g73, Nat.succ_ne_self, getH, SV.flat, oneL, SV.one, Value.oneCell', and_true, SV.cells, List.length_cons, List.length_nil, Nat.zero_add, Nat.reduceAdd, Nat.le_refl, putS, setH, putL, r_ops_nil, r_seq, r_reg, binK, g25, nilS, isConstO, Bool.or_true, eqK, notS, Bool.not_true, dstAt, gdvK, wantK, f73_0, ne_eq, not_false_eq_true, Nat.add_zero, loadK, g3, f40_2, intB, intK, pickK, selB, r_cond, cndK, setB, r_ret, r_code_ret, r_nil, RX.Ends, retK, resvK, oneTup, true_and, r_skip, f40_1, Nat.lt_add_one]
    refine ⟨fun h1 w' hw => ?_, fun h1 => ⟨by omega, fun w' hw => ?_⟩⟩
    · rw [show bWait pt at_ r p b now = (0, none) from by simp at h1; simp [bWait, hf, h1]]
      exact ⟨rfl, hw.rs⟩
    · have h2 : x < p := by simpa using h1
      rw [show bWait pt at_ r p b now = ((p - x + r - 1) / r, none) from by simp [bWait, hf]; omega]
      rw [wrap_in (x := p - x) (by omega) (by omega), wrap_in (x := p - x + r) (by omega) (by omega), wrap_in (x := p - x + r - 1) (by omega) (by omega)]
      have hq1 : 0 ≤ (p - x + r - 1) / r := Int.ediv_nonneg (by omega) (by omega)
      have hq2 : (p - x + r - 1) / r ≤ (p - x + r - 1) := Int.ediv_le_self _ (by omega)
      rw [Int.tdiv_eq_ediv_of_nonneg (by omega), wrap_in (by omega) (by omega)]
      exact ⟨rfl, hw.rs⟩
end Go.Proofs.Ytoplidleecbdeaa
