import Derived.Test.YtoplidleecbdeaaT8
import Derived.Test.YtoplidleecbdeaaRXr
set_option linter.unusedVariables false
set_option linter.unusedSimpArgs false
namespace Go.Proofs.Ytoplidleecbdeaa
open Go Go.RowKit Go.Proofs.RX Go.Maps Go.ChangeMaps
theorem nm5 : (Try.f5.name == "runtime.NumGoroutine") = false := by kernel_rfl
theorem nm7 : (Try.f7.name == "runtime.NumGoroutine") = false := by kernel_rfl
theorem nm8 : (Try.f8.name == "runtime.NumGoroutine") = false := by kernel_rfl
theorem nm11 : (Try.f11.name == "runtime.NumGoroutine") = false := by kernel_rfl
theorem nm12 : (Try.f12.name == "runtime.NumGoroutine") = false := by kernel_rfl
theorem nm13 : (Try.f13.name == "runtime.NumGoroutine") = false := by kernel_rfl
theorem nm15 : (Try.f15.name == "runtime.NumGoroutine") = false := by kernel_rfl
theorem nm16 : (Try.f16.name == "runtime.NumGoroutine") = false := by kernel_rfl
theorem nm17 : (Try.f17.name == "runtime.NumGoroutine") = false := by kernel_rfl
theorem nm18 : (Try.f18.name == "runtime.NumGoroutine") = false := by kernel_rfl
theorem nm20 : (Try.f20.name == "runtime.NumGoroutine") = false := by kernel_rfl
theorem nm32 : (Try.f32.name == "runtime.NumGoroutine") = false := by kernel_rfl

/-- 'num'. -/
def numE : Option Int → Int
  | none => 0
  | some c => c
theorem num_run (c : Int) : ∀ w, (Instr.typeAssert (.iface 58 (.int .i64 c)) 25 58 true).run Try.prog w = .ok (.tuple #[.int .i64 c, .bool true]) w := fun _ => by kernel_rfl
set_option maxRecDepth 100000 in
theorem num_nil (w : World) : Calls Try.prog 7 #[.nilIface] w fun e' w' => e' = .returned (.int .i64 0) ∧ Below w.heap.size w w' := by
  refine calls_rx Γok [.lit .nilIface] [] _ _ Try.func7 rfl (by rw [Try.ntmps7]; exact Nat.le_of_ble_eq_true rfl) (SatH.start _ _ w) ?_
  rw [Try.ntmps7, Try.results7]
  refine run_ok Γok (stops := []) 400 _ _ _ ?_
  simp only [argsF, r_seq, r_reg, r_ops, rawOp, stopAt, memN, Bool.or_false, o_false, dstOk, Nat.reduceLT, gdK, stC, stpK, pureK, rdK, kn, SV.known, evO, putA, St.put, r_ops_nil, getT, reduceCtorEq, ↓reduceIte, binK, g25, nilS, isConstO, Bool.or_true, eqK, r_cond, cndK, r_ret, r_code_ret, r_nil, RX.Ends, retK, resvK, oneTup, true_and]
  exact fun w' hw => ⟨rfl, hw.rs⟩
set_option maxRecDepth 100000 in
theorem num_some (c : Int) (w : World) : Calls Try.prog 7 #[.iface 58 (.int .i64 c)] w fun e' w' => e' = .returned (.int .i64 c) ∧ Below w.heap.size w w' := by
  refine calls_rx Γok [.lit (.iface 58 (.int .i64 c))] [] _ _ Try.func7 rfl (by rw [Try.ntmps7]; exact Nat.le_of_ble_eq_true rfl) (SatH.start _ _ w) ?_
  rw [Try.ntmps7, Try.results7]
  refine run_ok Γok (stops := []) 400 _ _ _ ?_
  simp only [argsF, r_seq, r_reg, r_ops, rawOp, stopAt, memN, Bool.or_false, o_false, dstOk, Nat.reduceLT, gdK, stC, stpK, pureK, rdK, kn, SV.known, evO, putA, St.put, r_ops_nil, getT, reduceCtorEq, ↓reduceIte, binK, g25, nilS, isConstO, Bool.or_true, eqK, r_cond, cndK, r_skip, o_true, rawC, true_and]
  refine VdT.tAssert (sv := .tup [.lit (.int .i64 c), .lit (.bool true)]) rfl rfl (by simp [dstOk]) rfl rfl rfl (num_run c) ?_
  refine run_ok Γok (stops := []) 400 _ _ _ ?_
  simp only [St.put, r_ops, rawOp, stopAt, memN, Bool.or_false, o_false, dstOk, Nat.reduceLT, gdK, stC, stpK, pureK, rdK, kn, SV.known, evO, getT, ↓reduceIte, putA, getL, Nat.reduceEqDiff, Nat.succ_ne_self, r_ops_nil, r_seq, r_reg, unK, Bool.not_true, r_cond, cndK, r_skip, Nat.lt_add_one, r_ret, r_nil, RX.Ends, retK, resvK, oneTup, true_and]
  exact fun w' hw => ⟨rfl, hw.rs⟩
/-- 'Of'. -/
def tOf (route g : Int) (cl su : ByteArray) : E × Bool := if g = 1 then (⟨route, 1, cl, 0, 0⟩, true) else if g = 2 then (⟨route, 2, su, 0, 0⟩, true) else (⟨0, 0, ⟨#[]⟩, 0, 0⟩, false)
set_option maxRecDepth 100000 in
theorem of_calls (route g r p b : Int) (cl su : ByteArray) (w : World) : Calls Try.prog 12 #[.int .i64 route, .agg #[.int .i64 g, .int .i64 r, .int .i64 p, .int .i64 b], .string cl, .string su] w fun e' w' =>
    e' = .returned (.tuple #[whoV (tOf route g cl su).1, .bool (tOf route g cl su).2]) ∧ Below w.heap.size w w' := by
  refine calls_rx Γok [.lit (.int .i64 route), .lit (.agg #[.int .i64 g, .int .i64 r, .int .i64 p, .int .i64 b]), .lit (.string cl), .lit (.string su)] [] _ _ Try.func12 rfl (by rw [Try.ntmps12]; exact Nat.le_of_ble_eq_true rfl) (SatH.start _ _ w) ?_
  rw [Try.ntmps12, Try.results12]
  refine run_ok Γok (stops := []) 400 _ _ _ ?_
  simp only [argsF, Nat.zero_add, Nat.reduceAdd, r_seq, r_reg, r_ops, rawOp, stopAt, memN, Bool.or_false, o_false, dstOk, Nat.reduceLT, gdK, stC, stpK, boxK, SV.flat, evO, getT, reduceCtorEq, ↓reduceIte, litL, oneL, SV.one, Value.oneCell', and_true, putA, St.put, List.length_nil, SV.cells, List.nil_append, allocK, g38, List.length_cons, List.cons_append, pureK, rdK, kn, SV.known, r_ops_nil, f40_0, ne_eq, Nat.succ_ne_self, not_false_eq_true, Nat.reduceEqDiff, Nat.add_zero, loadK, g3, getH, getL, r_block, binK, intB, intK, r_cond, cndK, setB, buildOpK, s38, partsL, buildK, nthP, Nat.reduceLeDiff, putL, Nat.le_refl, aggC, storeK, putS, setH, r_ret, r_blk_ret, r_code_ret, r_nil, RX.Ends, retK, resvK, oneTup, takeL, true_and, r_skip, r_blk_normal, Nat.lt_add_one]
  refine fun b1 b2 => ⟨fun h w' hw => ?_, fun h => ⟨fun h' w' hw => ?_, fun h' w' hw => ?_⟩⟩
  · simp only [beq_iff_eq] at h
    rw [tOf, if_pos h]
    exact ⟨rfl, hw.rs⟩
  · simp only [beq_iff_eq, beq_eq_false_iff_ne] at h h'
    rw [tOf, if_neg h, if_pos h']
    exact ⟨rfl, hw.rs⟩
  · simp only [beq_iff_eq, beq_eq_false_iff_ne] at h h'
    rw [tOf, if_neg h, if_neg h']
    exact ⟨rfl, hw.rs⟩
set_option maxRecDepth 100000 in
theorem rof_calls (route g r p b : Int) (cl su : ByteArray) (w : World) : Calls Try.prog 13 #[.int .i64 route, .agg #[.int .i64 g, .int .i64 r, .int .i64 p, .int .i64 b], .string cl, .string su] w fun e' w' =>
    e' = .returned (.tuple #[whoV (tOf route g cl su).1, .bool (tOf route g cl su).2]) ∧ Below w.heap.size w w' := by
  refine calls_rx Γok [.lit (.int .i64 route), .lit (.agg #[.int .i64 g, .int .i64 r, .int .i64 p, .int .i64 b]), .lit (.string cl), .lit (.string su)] [] _ _ Try.func13 rfl (by rw [Try.ntmps13]; exact Nat.le_of_ble_eq_true rfl) (SatH.start _ _ w) ?_
  rw [Try.ntmps13, Try.results13]
  refine run_ok Γok (stops := []) 400 _ _ _ ?_
  simp only [argsF, Nat.zero_add, Nat.reduceAdd, r_seq, r_reg, r_ops, rawOp, stopAt, memN, Bool.or_false, o_false, dstOk, Nat.reduceLT, gdK, stC, stpK, boxK, SV.flat, evO, getT, reduceCtorEq, ↓reduceIte, litL, oneL, SV.one, Value.oneCell', and_true, putA, St.put, List.length_nil, SV.cells, List.nil_append, allocK, g38, List.length_cons, List.cons_append, pureK, rdK, kn, SV.known, r_ops_nil, f40_0, ne_eq, Nat.succ_ne_self, not_false_eq_true, Nat.reduceEqDiff, Nat.add_zero, loadK, g3, getH, getL, r_block, binK, intB, intK, r_cond, cndK, setB, buildOpK, s38, partsL, buildK, nthP, Nat.reduceLeDiff, putL, Nat.le_refl, aggC, storeK, putS, setH, r_ret, r_blk_ret, r_code_ret, r_nil, RX.Ends, retK, resvK, oneTup, takeL, true_and, r_skip, r_blk_normal, Nat.lt_add_one]
  refine fun b1 b2 => ⟨fun h w' hw => ?_, fun h => ⟨fun h' w' hw => ?_, fun h' w' hw => ?_⟩⟩
  · simp only [beq_iff_eq] at h
    subst h
    exact ⟨rfl, hw.rs⟩
  · simp only [beq_iff_eq, beq_eq_false_iff_ne] at h h'
    subst h'
    exact ⟨rfl, hw.rs⟩
  · simp only [beq_iff_eq, beq_eq_false_iff_ne] at h h'
    rw [tOf, if_neg h, if_neg h']
    exact ⟨rfl, hw.rs⟩
set_option maxRecDepth 100000 in
theorem small_calls (n : Int) (w : World) : Calls Try.prog 32 #[.int .i64 n] w fun e' w' => e' = .returned (.bool (decide (okN n))) ∧ Below w.heap.size w w' := by
  refine calls_rx Γok [.lit (.int .i64 n)] [] _ _ Try.func32 rfl (by rw [Try.ntmps32]; exact Nat.le_of_ble_eq_true rfl) (SatH.start _ _ w) ?_
  rw [Try.ntmps32, Try.results32]
  refine run_ok Γok (stops := []) 400 _ _ _ ?_
  simp only [argsF, r_seq, r_reg, r_ops, rawOp, stopAt, memN, Bool.or_false, o_false, dstOk, Nat.reduceLT, gdK, stC, stpK, pureK, rdK, kn, SV.known, evO, putA, St.put, r_ops_nil, getT, reduceCtorEq, ↓reduceIte, binK, intB, intK, dstAt, gdvK, wantK, Nat.succ_ne_self, Nat.lt_add_one, pickK, Nat.reduceEqDiff, selB, r_ret, r_nil, RX.Ends, retK, resvK, oneTup, true_and, skC]
  refine ⟨fun h w' hw => ⟨?_, hw.rs⟩, fun h w' hw => ⟨?_, hw.rs⟩⟩
  · have h1 : 1 ≤ n := by simpa using h
    simp [SV.den, okN, h1]
  · have h1 : ¬ 1 ≤ n := by simpa using h
    simp [SV.den, okN, h1]
set_option maxRecDepth 100000 in
theorem rvalid_calls (g r p b : Int) (w : World) : Calls Try.prog 17 #[.agg #[.int .i64 g, .int .i64 r, .int .i64 p, .int .i64 b]] w fun e' w' => e' = .returned (.int .i64 (if bOk r p b then 0 else 4)) ∧ Below w.heap.size w w' := by
  refine calls_rx Γok [.lit (.agg #[.int .i64 g, .int .i64 r, .int .i64 p, .int .i64 b])] [] _ _ Try.func17 rfl (by rw [Try.ntmps17]; exact Nat.le_of_ble_eq_true rfl) (SatH.start _ _ w) ?_
  rw [Try.ntmps17, Try.results17]
  refine run_ok Γok (stops := []) 400 _ _ _ ?_
  simp only [argsF, r_seq, r_reg, r_ops, rawOp, stopAt, memN, Bool.or_false, o_false, dstOk, Nat.reduceLT, gdK, stC, stpK, boxK, SV.flat, evO, getT, ↓reduceIte, litL, oneL, SV.one, Value.oneCell', and_true, putA, St.put, List.length_nil, SV.cells, List.nil_append, pureK, rdK, kn, SV.known, r_ops_nil, f40_1, ne_eq, Nat.succ_ne_self, not_false_eq_true, Nat.zero_add, loadK, g3, getH, getL, o_true, rawC, true_and]
  intro b1
  refine VdT.callA rfl rfl rfl Try.func32 rfl nm32 (by simp only [evL, evO, getT, ↓reduceIte, knownL, SV.known, and_true]) (by simp only [dstOk, Nat.reduceLT]) (.bs (decide (okN r))) rfl (fun w1 hw1 => small_calls r w1) ?_
  refine run_ok Γok (stops := []) 400 _ _ _ ?_
  simp only [St.put, r_ops, rawOp, stopAt, memN, Bool.or_false, o_false, dstOk, Nat.reduceLT, gdK, stC, stpK, pureK, rdK, unK, evO, getT, ↓reduceIte, putA, kn, SV.known, dstAt, gdvK, wantK, skC, Nat.succ_ne_self, o_true, Nat.reduceEqDiff, pickK, selB, Nat.lt_add_one, r_ops_nil, r_cond, cndK, r_seq, r_reg, r_ret, r_code_ret, r_nil, RX.Ends, retK, resvK, oneTup, true_and, f40_2, ne_eq, not_false_eq_true, Nat.zero_add, loadK, g3, getH, getL, rawC]
  refine ⟨fun hr w' hw => ?_, fun hr => ?_⟩
  · have : ¬ okN r := by simpa using hr
    rw [if_neg (fun hb => this hb.1)]
    exact ⟨rfl, hw.rs⟩
  have hr1 : okN r := by simpa using hr
  refine VdT.callA rfl rfl rfl Try.func32 rfl nm32 (by simp only [evL, evO, getT, ↓reduceIte, knownL, SV.known, and_true]) (by simp only [dstOk, Nat.reduceLT]) (.bs (decide (okN p))) rfl (fun w1 hw1 => small_calls p w1) ?_
  refine run_ok Γok (stops := []) 400 _ _ _ ?_
  simp only [St.put, r_ops, rawOp, stopAt, memN, Bool.or_false, o_false, dstOk, Nat.reduceLT, gdK, dstAt, gdvK, getT, Nat.reduceEqDiff, ↓reduceIte, Nat.succ_ne_self, wantK, stC, stpK, pureK, rdK, unK, evO, putA, pickK, kn, SV.known, selB, skC, o_true, Nat.lt_add_one, r_ops_nil, r_cond, cndK, r_seq, r_reg, r_ret, r_code_ret, r_nil, RX.Ends, retK, resvK, oneTup, true_and, f40_3, ne_eq, not_false_eq_true, Nat.zero_add, loadK, g3, getH, getL, rawC]
  refine ⟨fun hp w' hw => ?_, fun hp => ?_⟩
  · have : ¬ okN p := by simpa using hp
    rw [if_neg (fun hb => this hb.2.1)]
    exact ⟨rfl, hw.rs⟩
  have hp1 : okN p := by simpa using hp
  refine VdT.callA rfl rfl rfl Try.func32 rfl nm32 (by simp only [evL, evO, getT, ↓reduceIte, knownL, SV.known, and_true]) (by simp only [dstOk, Nat.reduceLT]) (.bs (decide (okN b))) rfl (fun w1 hw1 => small_calls b w1) ?_
  refine run_ok Γok (stops := []) 400 _ _ _ ?_
  simp only [St.put, r_ops, rawOp, stopAt, memN, Bool.or_false, o_false, dstOk, Nat.reduceLT, gdK, dstAt, gdvK, getT, Nat.reduceEqDiff, ↓reduceIte, Nat.succ_ne_self, wantK, stC, stpK, pureK, rdK, unK, evO, putA, Nat.lt_add_one, pickK, kn, SV.known, selB, r_ops_nil, r_cond, cndK, setB, r_seq, r_reg, r_ret, r_code_ret, r_nil, RX.Ends, retK, resvK, oneTup, true_and, r_skip]
  refine ⟨fun hb w' hw => ?_, fun hb w' hw => ?_⟩
  · have : ¬ okN b := by simpa using hb
    rw [if_neg (fun hb => this hb.2.2)]
    exact ⟨rfl, hw.rs⟩
  · have hb1 : okN b := by simpa using hb
    rw [if_pos ⟨hr1, hp1, hb1⟩]
    exact ⟨rfl, hw.rs⟩

/-- The table, since some world. -/
def TI (w0 : World) (t m : Nat) (room : Int) (l : List (Nat × E)) (L : List E) (w : World) : Prop :=
  Tab t m room l w ∧ Below w0.heap.size w0 w ∧ l.map (·.2) = L ∧ ∀ k, TabF t m l k → w0.heap.size ≤ k
def TIF (w0 : World) (t m : Nat) (l : List (Nat × E)) (k : Nat) : Prop := k < w0.heap.size ∨ TabF t m l k
theorem TI.dep (w0 : World) (t m : Nat) (room : Int) (l : List (Nat × E)) (L : List E) : Dep (TIF w0 t m l) (TI w0 t m room l L) :=
  ((Tab.dep t m room l).mono (fun k hk => .inr hk)).and2 (((Dep.below _ w0 (Nat.le_refl _)).mono (fun k hk => .inl hk)).and2 (Dep.pure _ _))
theorem TI.below {w0 w w' : World} {t m : Nat} {room : Int} {l : List (Nat × E)} {L : List E} (h : TI w0 t m room l L w) (hb : Below w.heap.size w w') : TI w0 t m room l L w' :=
  TI.dep w0 t m room l L w w' (fun k hk => hb.block k (by rcases hk with hk | hk; exact Nat.lt_of_lt_of_le hk h.2.1.size; exact h.1.lt k hk)) hb.os hb.tape hb.output hb.size h
theorem TI.step {w0 w w' : World} {t m : Nat} {room : Int} {l l' : List (Nat × E)} {L L' : List E} (h : TI w0 t m room l L w) (h' : Tab t m room l' w') (hL : l'.map (·.2) = L') (hk : Keep (TabF t m l) w w') (hf : ∀ k, TabF t m l' k → TabF t m l k ∨ w.heap.size ≤ k) : TI w0 t m room l' L' w' := by
  refine ⟨h', ?_, hL, fun k hk' => ?_⟩
  · have hb := h.2.1
    refine ⟨hk.os.trans hb.os, hk.tape.trans hb.tape, hk.output.trans hb.output, Nat.le_trans hb.size hk.size, fun k hlt => ?_⟩
    rw [hk.block k (Nat.lt_of_lt_of_le hlt hb.size) (fun hh => by have := h.2.2.2 k hh; omega)]
    exact hb.block k hlt
  · rcases hf k hk' with hh | hh
    · exact h.2.2.2 k hh
    · exact Nat.le_trans h.2.1.size hh
/-- What a call on the table turns, for the executor. -/
theorem TI.turn {w0 w w' : World} {t m : Nat} {room : Int} {l l' : List (Nat × E)} {L L' : List E} (h : TI w0 t m room l L w) (h' : Tab t m room l' w') (hL : l'.map (·.2) = L') (hk : Keep (TabF t m l) w w') (hf : ∀ k, TabF t m l' k → TabF t m l k ∨ w.heap.size ≤ k) :
    Keep (TabF t m l) w w' ∧ (∀ k, TabF t m l k → TIF w0 t m l k) ∧ TI w0 t m room l' L' w' ∧ (∀ k, TIF w0 t m l' k → k < w'.heap.size ∧ (TIF w0 t m l k ∨ w.heap.size ≤ k)) ∧ Dep (TIF w0 t m l') (TI w0 t m room l' L') := by
  have h1 := h.step h' hL hk hf
  refine ⟨hk, fun k hk => .inr hk, h1, fun k hk' => ?_, TI.dep _ _ _ _ _ _⟩
  rcases hk' with hh | hh
  · exact ⟨Nat.lt_of_lt_of_le hh h1.2.1.size, .inl (.inl hh)⟩
  · refine ⟨h'.lt k hh, ?_⟩
    rcases hf k hh with hh | hh
    · exact .inl (.inr hh)
    · exact .inr hh
theorem take_TI {w0 w : World} {t m : Nat} {room : Int} {l : List (Nat × E)} {L L' : List E} (h : TI w0 t m room l L w) (q : E) (hq : okE q) (hr1 : 1 ≤ room) (g r p b now : Int) {ok : Bool} {z : Option Int} (hT : tTake room L q r p b now = (L', ok, z)) :
    Calls Try.prog 14 #[pv (some t), whoV q, .agg #[.int .i64 g, .int .i64 r, .int .i64 p, .int .i64 b], .int .i64 now] w fun e' w' => ∃ l' M, e' = .returned (.tuple #[.bool ok, ev z]) ∧
      Keep M w w' ∧ (∀ k, M k → TIF w0 t m l k) ∧ TI w0 t m room l' L' w' ∧ (∀ k, TIF w0 t m l' k → k < w'.heap.size ∧ (TIF w0 t m l k ∨ w.heap.size ≤ k)) ∧ Dep (TIF w0 t m l') (TI w0 t m room l' L') := by
  refine (take_calls h.1 h.2.2.1 q hq hr1 g r p b now).mono ?_
  rintro e' w' ⟨he, l', hL', hT', hk, hf⟩
  rw [hT] at he hL'
  exact ⟨l', _, he, h.turn hT' hL' hk hf⟩
theorem wf0 : (Lit.int .i64 0).wf = true := by decide
theorem okE_lit (n : ByteArray) (hn : n.size ≤ maxLen) : okE ⟨0, 0, n, 0, 0⟩ := ⟨wf0, wf0, hn⟩
def eA : E := ⟨0, 0, ⟨#[97]⟩, 0, 0⟩
def eB : E := ⟨0, 0, ⟨#[98]⟩, 0, 1⟩
def eA2 : E := ⟨0, 0, ⟨#[97]⟩, 2, 2⟩
def eC : E := ⟨0, 0, ⟨#[99]⟩, 0, 3⟩
def qN (c : UInt8) : E := ⟨0, 0, ⟨#[c]⟩, 0, 0⟩
theorem w1_ : tTake 2 [] (qN 97) 1 10 1 0 = ([eA], true, none) := by rfl
theorem w2_ : tTake 2 [eA] (qN 98) 1 10 1 1 = ([eA, eB], true, none) := by rfl
theorem w3_ : tTake 2 [eA, eB] (qN 97) 1 10 1 2 = ([eB, eA2], false, none) := by rfl
theorem w4_ : tTake 2 [eB, eA2] (qN 99) 1 10 1 3 = ([eA2, eC], true, none) := by rfl
theorem w5_ : tTake 2 [eA2, eC] ⟨0, 0, ⟨#[]⟩, 0, 0⟩ 0 0 0 0 = ([eA2, eC], false, some 4) := by rfl
set_option maxRecDepth 100000 in
theorem works_calls (w : World) : Calls Try.prog 8 #[] w fun e' w' => e' = .returned (.bool true) ∧ Below w.heap.size w w' := by
  refine calls_rx Γok [] [] _ _ Try.func8 rfl (by rw [Try.ntmps8]; exact Nat.le_of_ble_eq_true rfl) (SatH.start _ _ w) ?_
  rw [Try.ntmps8, Try.results8]
  refine run_ok Γok (stops := []) 400 _ _ _ ?_
  simp only [argsF, r_seq, r_reg, r_ops, rawOp, stopAt, memN, Bool.or_false, o_false, dstOk, Nat.zero_lt_succ, gdK, stC, stpK, pureK, rdK, kn, SV.known, evO, putA, St.put, r_ops_nil, o_true, Nat.reduceLT, rawC, true_and]
  refine VdT.callR rfl rfl rfl Try.func5 rfl nm5 (by simp only [evL, evO, knownL, SV.known, and_true]) (by simp only [dstOk, Nat.reduceLT]) (fun tm : Nat × Nat => .tup [.lit (.pointer (some ⟨tm.1, 0, none⟩)), .lit .nilIface]) (fun tm => TIF w tm.1 tm.2 []) (fun tm => TI w tm.1 tm.2 2 [] []) (fun w1 hw1 => ?c1) ?_
  case c1 =>
    have hb : Below w.heap.size w w1 := hw1.rs
    refine (new_calls 2 w1 (by omega) (by omega)).mono ?_
    rintro e' w' ⟨t, m, he, hT, hb', ht, hm⟩
    refine ⟨(t, m), fun _ => False, he, rfl, Keep.of_below hb', fun k hk => hk.elim, ⟨hT, ?_, rfl, fun k hk => ?_⟩, fun k hk => ?_, TI.dep _ _ _ _ _ _⟩
    · exact ⟨hb'.os.trans hb.os, hb'.tape.trans hb.tape, hb'.output.trans hb.output, Nat.le_trans hb.size hb'.size, fun k hk => (hb'.block k (Nat.lt_of_lt_of_le hk hb.size)).trans (hb.block k hk)⟩
    · rcases hk with rfl | rfl | hk
      · exact Nat.le_trans hb.size ht
      · exact Nat.le_trans hb.size hm
      · simp at hk
    · rcases hk with hk | hk
      · exact ⟨Nat.lt_of_lt_of_le hk (Nat.le_trans hb.size hb'.size), .inl hk⟩
      · refine ⟨hT.lt k hk, .inr ?_⟩
        rcases hk with rfl | rfl | hk
        · exact ht
        · exact hm
        · simp at hk
  rintro ⟨t, m⟩
  refine run_ok Γok (stops := []) 400 _ _ _ ?_
  simp only [St.put, r_ops, rawOp, stopAt, memN, Bool.or_false, o_false, dstOk, Nat.reduceLT, gdK, stC, stpK, pureK, rdK, kn, SV.known, evO, getT, ↓reduceIte, putA, getL, Nat.reduceEqDiff, Nat.succ_ne_self, r_ops_nil, r_seq, r_reg, binK, g25, nilS, isConstO, Bool.or_true, eqK, notS, Bool.not_true, dstAt, gdvK, wantK, g23, pickK, selB, r_cond, cndK, r_skip, buildOpK, g40, s40, litL, partsL, buildK, nthP, SV.flat, SV.one, Value.oneCell', SV.cells, List.length_cons, List.length_nil, Nat.zero_add, Nat.reduceAdd, Nat.reduceLeDiff, putL, Nat.le_refl, aggC, allocK, List.nil_append, storeK, getH, oneL, and_true, putS, setH, g38, s38, loadK, takeL, o_true, rawC, true_and]
  intro b1
  refine VdT.callR rfl rfl rfl Try.func14 rfl nm14 (by simp only [evL, evO, getT, Nat.reduceEqDiff, ↓reduceIte, Nat.succ_ne_self, knownL, SV.known, and_true]) (by simp only [dstOk, Nat.reduceLT]) (fun _ : List (Nat × E) => .tup [.lit (.bool true), .lit .nilIface]) (fun l' => TIF w t m l') (fun l' => TI w t m 2 l' [eA]) (fun w1 hw1 => ?d1) ?_
  case d1 =>
    refine (take_TI hw1.rs (qN 97) (okE_lit _ (by decide)) (by omega) 1 1 10 1 0 w1_).mono ?_
    rintro e' w' ⟨l', M, he, hr⟩
    exact ⟨l', M, he, rfl, hr⟩
  intro l1
  refine run_ok Γok (stops := []) 400 _ _ _ ?_
  simp only [St.put, r_ops, rawOp, stopAt, memN, Bool.or_false, o_false, dstOk, Nat.reduceLT, gdK, stC, stpK, pureK, rdK, kn, SV.known, evO, getT, ↓reduceIte, putA, getL, Nat.reduceEqDiff, Nat.succ_ne_self, r_ops_nil, r_seq, r_reg, buildOpK, g38, s38, litL, partsL, buildK, nthP, SV.flat, SV.one, Value.oneCell', SV.cells, List.length_cons, List.length_nil, Nat.zero_add, Nat.reduceAdd, Nat.le_refl, aggC, putL, loadK, g40, getH, takeL, o_true, rawC, true_and]
  refine VdT.callR rfl rfl rfl Try.func14 rfl nm14 (by simp only [evL, evO, getT, Nat.reduceEqDiff, ↓reduceIte, Nat.succ_ne_self, knownL, SV.known, and_true]) (by simp only [dstOk, Nat.reduceLT]) (fun _ : List (Nat × E) => .tup [.lit (.bool true), .lit .nilIface]) (fun l' => TIF w t m l') (fun l' => TI w t m 2 l' [eA, eB]) (fun w1 hw1 => ?d2) ?_
  case d2 =>
    refine (take_TI hw1.rs (qN 98) (okE_lit _ (by decide)) (by omega) 1 1 10 1 1 w2_).mono ?_
    rintro e' w' ⟨l', M, he, hr⟩
    exact ⟨l', M, he, rfl, hr⟩
  intro l2
  refine run_ok Γok (stops := []) 400 _ _ _ ?_
  simp only [St.put, r_ops, rawOp, stopAt, memN, Bool.or_false, o_false, dstOk, Nat.reduceLT, gdK, stC, stpK, pureK, rdK, kn, SV.known, evO, getT, ↓reduceIte, putA, getL, Nat.reduceEqDiff, Nat.succ_ne_self, r_ops_nil, r_seq, r_reg, buildOpK, g38, s38, litL, partsL, buildK, nthP, SV.flat, SV.one, Value.oneCell', SV.cells, List.length_cons, List.length_nil, Nat.zero_add, Nat.reduceAdd, Nat.le_refl, aggC, putL, loadK, g40, getH, takeL, o_true, rawC, true_and]
  refine VdT.callR rfl rfl rfl Try.func14 rfl nm14 (by simp only [evL, evO, getT, Nat.reduceEqDiff, ↓reduceIte, Nat.succ_ne_self, knownL, SV.known, and_true]) (by simp only [dstOk, Nat.reduceLT]) (fun _ : List (Nat × E) => .tup [.lit (.bool false), .lit .nilIface]) (fun l' => TIF w t m l') (fun l' => TI w t m 2 l' [eB, eA2]) (fun w1 hw1 => ?d3) ?_
  case d3 =>
    refine (take_TI hw1.rs (qN 97) (okE_lit _ (by decide)) (by omega) 1 1 10 1 2 w3_).mono ?_
    rintro e' w' ⟨l', M, he, hr⟩
    exact ⟨l', M, he, rfl, hr⟩
  intro l3
  refine run_ok Γok (stops := []) 400 _ _ _ ?_
  simp only [St.put, r_ops, rawOp, stopAt, memN, Bool.or_false, o_false, dstOk, Nat.reduceLT, gdK, stC, stpK, pureK, rdK, kn, SV.known, evO, getT, ↓reduceIte, putA, getL, Nat.reduceEqDiff, Nat.succ_ne_self, r_ops_nil, r_seq, r_reg, buildOpK, g38, s38, litL, partsL, buildK, nthP, SV.flat, SV.one, Value.oneCell', SV.cells, List.length_cons, List.length_nil, Nat.zero_add, Nat.reduceAdd, Nat.le_refl, aggC, putL, loadK, g40, getH, takeL, o_true, rawC, true_and]
  refine VdT.callR rfl rfl rfl Try.func14 rfl nm14 (by simp only [evL, evO, getT, Nat.reduceEqDiff, ↓reduceIte, Nat.succ_ne_self, knownL, SV.known, and_true]) (by simp only [dstOk, Nat.reduceLT]) (fun _ : List (Nat × E) => .tup [.lit (.bool true), .lit .nilIface]) (fun l' => TIF w t m l') (fun l' => TI w t m 2 l' [eA2, eC]) (fun w1 hw1 => ?d4) ?_
  case d4 =>
    refine (take_TI hw1.rs (qN 99) (okE_lit _ (by decide)) (by omega) 1 1 10 1 3 w4_).mono ?_
    rintro e' w' ⟨l', M, he, hr⟩
    exact ⟨l', M, he, rfl, hr⟩
  intro l4
  refine run_ok Γok (stops := []) 400 _ _ _ ?_
  simp only [St.put, r_ops, rawOp, stopAt, memN, Bool.or_false, o_false, dstOk, Nat.reduceLT, gdK, stC, stpK, pureK, rdK, kn, SV.known, evO, getT, ↓reduceIte, putA, getL, Nat.reduceEqDiff, Nat.succ_ne_self, r_ops_nil, r_seq, r_reg, o_true, rawC, true_and]
  have dB : Dep (fun k => k < w.heap.size) (Below w.heap.size w) := Dep.below _ _ (Nat.le_refl _)
  refine VdT.callR rfl rfl rfl Try.func19 rfl nm19 (by simp only [evL, evO, getT, ↓reduceIte, knownL, SV.known, and_true]) (by simp only [dstOk, Nat.reduceLT]) (fun o : Nat × Nat => .lit (.slice (some ⟨o.1, 0, none⟩) 2 o.2)) (fun o k => TIF w t m l4 k ∨ k = o.1) (fun o w' => TI w t m 2 l4 [eA2, eC] w' ∧ w'.ownsRow 0 38 3 (slV 2 (some o)) 2 (rowOf [eA2, eC]) ∧ (∀ k, TIF w t m l4 k → k ≠ o.1) ∧ w.heap.size ≤ o.1) (fun w1 hw1 => ?c2) ?_
  case c2 =>
    have hT : TI w t m 2 l4 [eA2, eC] w1 := hw1.rs
    have hl4 : l4.length = 2 := by
      have := congrArg List.length hT.2.2.1
      simpa using this
    refine (who_calls hT.1 hT.2.2.1 (by omega)).mono ?_
    rintro e' w' ⟨v, he, hb', hown, hfr⟩
    obtain ⟨⟨o, ho⟩, rfl⟩ := own_sl hown
    rcases o with _ | ⟨g, c⟩
    · exact absurd (ho rfl) (by simp)
    have hg : w1.heap.size ≤ g := hfr g rfl
    have hTF : ∀ k, TIF w t m l4 k → k < w1.heap.size := fun k hk => by
      rcases hk with hk | hk
      · exact Nat.lt_of_lt_of_le hk hT.2.1.size
      · exact hT.1.lt k hk
    refine ⟨(g, c), fun _ => False, he, rfl, Keep.of_below hb', fun k hk => hk.elim, ⟨hT.below hb', hown, fun k hk e => ?_, Nat.le_trans hT.2.1.size hg⟩, fun k hk => ?_, ?_⟩
    · have := hTF k hk
      simp only at e
      omega
    · rcases hk with hk | hk
      · exact ⟨Nat.lt_of_lt_of_le (hTF k hk) hb'.size, .inl hk⟩
      · simp only at hk
        subst hk
        exact ⟨(hown.lt k rfl).2, .inr hg⟩
    · exact ((TI.dep _ _ _ _ _ _).mono (fun k hk => .inl hk)).and2 (((Dep.own 38 3 2 _ _).mono (fun k hk => .inr (by simpa [slV, Value.ownBlock] using hk.symm))).and2 (Dep.pure _ _))
  rintro ⟨g, c⟩
  refine run_ok Γok (stops := []) 400 _ _ _ ?_
  simp only [St.put, ne_eq, r_ops, rawOp, stopAt, memN, Bool.or_false, o_false, dstOk, Nat.reduceLT, gdK, stC, stpK, pureK, rdK, kn, SV.known, evO, getT, ↓reduceIte, putA, r_ops_nil, r_seq, r_reg, Nat.reduceEqDiff, Nat.succ_ne_self, buildOpK, g38, s38, litL, partsL, buildK, aggC, g40, s40, o_true, rawC, true_and]
  refine VdT.callR rfl rfl rfl Try.func14 rfl nm14 (by simp only [evL, evO, getT, Nat.reduceEqDiff, ↓reduceIte, Nat.succ_ne_self, knownL, SV.known, and_true]) (by simp only [dstOk, Nat.reduceLT]) (fun _ : Unit => .tup [.lit (.bool false), .lit (.iface 58 (.int .i64 4))]) (fun _ k => k < w.heap.size ∨ k = g) (fun _ w' => Below w.heap.size w w' ∧ w'.ownsRow 0 38 3 (slV 2 (some (g, c))) 2 (rowOf [eA2, eC])) (fun w1 hw1 => ?c3) ?_
  case c3 =>
    obtain ⟨hT, hown, hne, hg⟩ := hw1.rs
    refine (take_TI hT ⟨0, 0, ⟨#[]⟩, 0, 0⟩ (okE_lit _ (by decide)) (by omega) 0 0 0 0 0 w5_).mono ?_
    rintro e' w' ⟨l', M, he, hk, hM, hT', _, _⟩
    have hgl : g < w1.heap.size := (hown.lt g rfl).2
    refine ⟨(), M, he, rfl, hk, fun k hk' => .inl (hM k hk'), ⟨hT'.2.1, Dep.own 38 3 2 _ _ w1 w' (fun k hk' => ?_) hk.os hk.tape hk.output hk.size hown⟩, fun k hk' => ?_, ?_⟩
    · have : g = k := by simpa [slV, Value.ownBlock] using hk'
      subst this
      exact hk.block g hgl (fun hm => hne g (hM g hm) rfl)
    · rcases hk' with hk' | rfl
      · exact ⟨Nat.lt_of_lt_of_le hk' hT'.2.1.size, .inl (.inl (.inl hk'))⟩
      · exact ⟨Nat.lt_of_lt_of_le hgl hk.size, .inl (.inr rfl)⟩
    · exact (dB.mono (fun k hk => .inl hk)).and2 ((Dep.own 38 3 2 _ _).mono (fun k hk => .inr (by simpa [slV, Value.ownBlock] using hk.symm)))
  intro _
  refine run_ok Γok (stops := [87]) 400 _ _ _ ?_
  simp only [St.put, r_ops, rawOp, stopAt, memN, Nat.reduceEqDiff, ↓reduceIte, Bool.or_false, o_false, dstOk, Nat.reduceLT, gdK, stC, stpK, pureK, rdK, kn, SV.known, evO, getT, putA, getL, Nat.succ_ne_self, r_ops_nil, r_seq, r_reg, dstAt, gdvK, wantK, pickK, selB, unK, Bool.not_false, binK, g25, nilS, isConstO, Bool.or_true, eqK, callK, blenK, lenK, g54, intB, intK, iaK, g38, f38_2, ne_eq, not_false_eq_true, o_true, rawC, true_and, skC, Nat.lt_add_one, reduceCtorEq, Nat.zero_lt_succ, r_ret, r_nil, RX.Ends, retK, resvK, oneTup]
  refine ⟨fun _ => ⟨⟨by omega, by omega⟩, ?_⟩, fun h => absurd h (by decide)⟩
  refine VdT.rd Γok rfl (by simp [dstOk]) ?_
  simp only [rdK, loadK, g9, evO, getT, ↓reduceIte, St.put]
  refine ⟨.string ⟨#[97]⟩, fun w1 h1 => own_name (j := 0) (e := eA2) h1.2 rfl 2 _ rfl, ?_⟩
  refine run_ok Γok (stops := [94]) 400 _ _ _ ?_
  simp only [r_ops, rawOp, stopAt, memN, Nat.reduceEqDiff, ↓reduceIte, Bool.or_false, o_false, dstOk, Nat.reduceLT, gdK, dstAt, gdvK, getT, Nat.succ_ne_self, wantK, stC, stpK, pureK, rdK, binK, evO, strB, strK, putA, St.put, pickK, kn, SV.known, selB, iaK, g54, g38, f38_2, ne_eq, not_false_eq_true, Bool.or_true, o_true, rawC, true_and, skC, Nat.lt_add_one, reduceCtorEq, Nat.zero_lt_succ, r_ops_nil, r_ret, r_nil, RX.Ends, retK, resvK, oneTup]
  refine ⟨fun _ => ⟨⟨by omega, by omega⟩, ?_⟩, fun h => absurd h (by simp)⟩
  refine VdT.rd Γok rfl (by simp [dstOk]) ?_
  simp only [rdK, loadK, g9, evO, getT, ↓reduceIte, St.put]
  refine ⟨.string ⟨#[99]⟩, fun w1 h1 => own_name (j := 1) (e := eC) h1.2 rfl 2 _ rfl, ?_⟩
  refine run_ok Γok (stops := []) 400 _ _ _ ?_
  simp only [r_ops, rawOp, stopAt, memN, Bool.or_false, o_false, dstOk, Nat.reduceLT, gdK, dstAt, gdvK, getT, Nat.reduceEqDiff, ↓reduceIte, Nat.succ_ne_self, wantK, stC, stpK, pureK, rdK, binK, evO, strB, strK, putA, St.put, pickK, kn, SV.known, selB, o_true, rawC, true_and, skC, Nat.lt_add_one, Nat.zero_lt_succ, r_ops_nil, r_ret, r_nil, RX.Ends, retK, resvK, oneTup]
  refine ⟨fun _ => ?_, fun h => absurd h (by simp)⟩
  refine VdT.callA rfl rfl rfl Try.func7 rfl nm7 (by simp only [evL, evO, getT, ↓reduceIte, knownL, SV.known, and_true]) (by simp only [dstOk, Nat.reduceLT]) (.lit (.int .i64 4)) rfl (fun w1 hw1 => num_some 4 w1) ?_
  refine run_ok Γok (stops := []) 400 _ _ _ ?_
  simp only [St.put, r_ops, rawOp, stopAt, memN, Bool.or_false, o_false, dstOk, Nat.reduceLT, gdK, dstAt, gdvK, getT, Nat.reduceEqDiff, ↓reduceIte, Nat.succ_ne_self, wantK, stC, stpK, pureK, rdK, binK, evO, intB, intK, putA, Nat.lt_add_one, pickK, kn, SV.known, selB, Nat.zero_lt_succ, r_ops_nil, r_ret, r_nil, RX.Ends, retK, resvK, oneTup, true_and]
  exact fun w' hw => ⟨rfl, hw.rs.1⟩
end Go.Proofs.Ytoplidleecbdeaa
