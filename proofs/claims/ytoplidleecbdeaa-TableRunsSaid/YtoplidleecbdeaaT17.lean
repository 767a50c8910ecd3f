import Derived.Test.YtoplidleecbdeaaT16
import Derived.Test.YtoplidleecbdeaaT8
set_option linter.unusedVariables false
set_option linter.unusedSimpArgs false
namespace Go.Proofs.Ytoplidleecbdeaa
open Go Go.RowKit Go.Proofs.RX Go.Maps Go.ChangeMaps
theorem nm21 : (Try.f21.name == "runtime.NumGoroutine") = false := by kernel_rfl
theorem nm22 : (Try.f22.name == "runtime.NumGoroutine") = false := by kernel_rfl
theorem nm23 : (Try.f23.name == "runtime.NumGoroutine") = false := by kernel_rfl
theorem nm24 : (Try.f24.name == "runtime.NumGoroutine") = false := by kernel_rfl
theorem rB_tB {room : Int} (hr : 1 ≤ room) (L : List E) (q : E) (r p b now : Int) : rBucket room L q r p b now = ((tBucket L q r p b now).1, (tBucket L q r p b now).2.1, numE (tBucket L q r p b now).2.2) := by
  unfold rBucket tBucket bFull
  by_cases hb : bOk r p b
  · by_cases ht : okT now
    · rw [if_neg (by simpa using hb), if_neg (by simp [ht]; omega), if_neg (by simpa using hb), if_neg (by simpa using ht)]
      cases lk L q <;> rfl
    · rw [if_neg (by simpa using hb), if_pos (.inl ht), if_neg (by simpa using hb), if_pos ht]
      rfl
  · rw [if_pos hb, if_pos hb]
    rfl
theorem tB_err {L : List E} {q : E} {r p b now x y c : Int} (h : tBucket L q r p b now = (x, y, some c)) : x = 0 ∧ y = 0 ∧ (c = 1 ∨ c = 4) := by
  unfold tBucket bFull at h
  split at h
  · rename_i c' hc
    simp at h
    obtain ⟨rfl, rfl, rfl⟩ := h
    refine ⟨rfl, rfl, ?_⟩
    split at hc
    · simp at hc; omega
    · split at hc <;> simp at hc; omega
  · split at h <;> simp at h
theorem rb_is (room : Int) (hr : 1 ≤ room) (q : E) (L : List E) (o : Option (Nat × Nat)) (ho : o = none → L.length = 0) (hlen : L.length ≤ 1024) (g : Int) (r : Int) (p : Int) (b : Int) (now : Int) (w : World) (hv : w.ownsRow 0 72 5 (slV L.length o) L.length (rowE L)) {x y : Int} {z : Option Int} (hf : tBucket L q r p b now = (x, y, z)) (w1 : World) (hb : Below w.heap.size w w1) : AnsF Try.prog 33 #[.agg #[.int .i64 room, slV L.length o], whoV q, .agg #[.int .i64 g, .int .i64 r, .int .i64 p, .int .i64 b], .int .i64 now] w1 (.tuple #[.agg #[.int .i64 x, .int .i64 y], .int .i64 (numE z)]) := by
  have := rbucket_calls room q L o ho hlen g r p b now w1 (own_below hv hb)
  rw [rB_tB hr, hf] at this
  exact this
set_option maxRecDepth 100000 in
theorem r22left_calls (room : Int) (hr : 1 ≤ room) (q : E) (L : List E) (o : Option (Nat × Nat)) (ho : o = none → L.length = 0) (hlen : L.length ≤ 1024) (g : Int) (r : Int) (p : Int) (b : Int) (now : Int) (w : World) (hv : w.ownsRow 0 72 5 (slV L.length o) L.length (rowE L)) : AnsF Try.prog 21 #[.agg #[.int .i64 room, slV L.length o], whoV q, .agg #[.int .i64 g, .int .i64 r, .int .i64 p, .int .i64 b], .int .i64 now] w (.tuple #[.int .i64 (tLeft L q r p b now).1, .int .i64 (numE (tLeft L q r p b now).2)]) := by
  refine fn_rx Γok [.lit (.agg #[.int .i64 room, slV L.length o]), .lit (.agg #[.int .i64 q.route, .int .i64 q.kind, .string q.name]), .lit (.agg #[.int .i64 g, .int .i64 r, .int .i64 p, .int .i64 b]), .lit (.int .i64 now)] Try.func21 rfl (by rw [Try.ntmps21]; exact Nat.le_of_ble_eq_true rfl) ?_
  rw [Try.ntmps21, Try.results21]
  refine run_ok Γok (stops := []) 400 _ _ _ ?_
  simp only [argsF, Nat.zero_add, Nat.reduceAdd, r_seq, r_reg, r_ops, rawOp, stopAt, memN, Bool.or_false, o_false, dstOk, Nat.reduceLT, gdK, stC, stpK, boxK, SV.flat, evO, getT, ↓reduceIte, litL, oneL, SV.one, Value.oneCell', and_true, true_and, putA, St.put, List.length_nil, SV.cells, List.nil_append, Nat.reduceEqDiff, reduceCtorEq, and_self, List.length_cons, List.cons_append, pureK, rdK, kn, SV.known, r_ops_nil, loadK, g30, Nat.succ_ne_self, getH, Nat.le_refl, takeL, g38, g40, o_true, rawC]
  refine ⟨by cases o <;> rfl, fun b1 b2 b3 => ?_⟩
  obtain ⟨⟨x, y, z⟩, hf⟩ : ∃ q', tBucket L q r p b now = q' := ⟨_, rfl⟩
  refine VdT.callA rfl rfl rfl Try.func33 rfl nm33 (by simp only [evL, evO, getT, Nat.reduceEqDiff, ↓reduceIte, Nat.succ_ne_self, knownL, SV.known, and_self]) (by simp only [dstOk, Nat.reduceLT]) (.tup [.agg [.lit (.int .i64 x), .lit (.int .i64 y)], .lit (.int .i64 (numE z))]) rfl (fun w1 hw1 => rb_is room hr q L o ho hlen g r p b now w hv hf w1 hw1.rs) ?_
  cases z with
  | some c =>
    obtain ⟨rfl, rfl, hc⟩ := tB_err hf
    rw [show tLeft L q r p b now = (0, some c) from by simp [tLeft, hf], show numE (some c) = c from rfl]
    refine run_ok Γok (stops := []) 400 _ _ _ ?_
    simp only [St.put, r_ops, rawOp, stopAt, memN, Bool.or_false, o_false, dstOk, Nat.reduceLT, gdK, stC, stpK, pureK, rdK, kn, SV.known, evO, getT, ↓reduceIte, putA, getL, Nat.reduceEqDiff, allocK, g70, List.length_cons, List.length_nil, Nat.zero_add, Nat.reduceAdd, litL, List.cons_append, List.nil_append, storeK, getH, SV.flat, Nat.succ_ne_self, oneL, SV.one, Value.oneCell', and_self, SV.cells, Nat.le_refl, putS, setH, putL, r_ops_nil, r_seq, r_reg, binK, intB, intK, r_cond, cndK, bne_iff_ne, ne_eq, setB, r_ret, r_code_ret, r_nil, EndsK, retK, resvK, oneTup, doneK, imp_self, forall_const, SV.den, denL, implies_true, bne_eq_false_iff_eq, r_skip, loadK, takeL, g40, reduceCtorEq, o_true, rawC, true_and]
    (repeat' (first | refine And.intro (by unfold LexTailB; kernel_rfl) ?_ | refine And.intro (by unfold LexHeldB; kernel_rfl) ?_ | refine And.intro (by unfold LexB; kernel_rfl) ?_ | refine And.intro ?_ ?_ | refine fun (_ : (_ : Prop)) => ?_ | refine fun (_ : Nat) => ?_))
    omega
  | none =>
    rw [show tLeft L q r p b now = bLeft x y r p b now from by simp [tLeft, hf], show numE none = 0 from rfl]
    refine run_ok Γok (stops := []) 400 _ _ _ ?_
    simp only [St.put, r_ops, rawOp, stopAt, memN, Bool.or_false, o_false, dstOk, Nat.reduceLT, gdK, stC, stpK, pureK, rdK, kn, SV.known, evO, getT, ↓reduceIte, putA, getL, Nat.reduceEqDiff, allocK, g70, List.length_cons, List.length_nil, Nat.zero_add, Nat.reduceAdd, litL, List.cons_append, List.nil_append, storeK, getH, SV.flat, Nat.succ_ne_self, oneL, SV.one, Value.oneCell', and_self, SV.cells, Nat.le_refl, putS, setH, putL, r_ops_nil, r_seq, r_reg, binK, intB, intK, bne_self_eq_false, r_cond, cndK, Bool.false_eq_true, setB, r_ret, r_code_ret, r_nil, EndsK, retK, resvK, oneTup, doneK, imp_self, forall_const, SV.den, denL, true_and, forall_false, r_skip, loadK, takeL, g40, reduceCtorEq, o_true, rawC]
    intro b4
    refine VdT.callA rfl rfl rfl Try.func34 rfl nm34 (by simp only [evL, evO, getT, Nat.reduceEqDiff, ↓reduceIte, Nat.succ_ne_self, knownL, SV.known, and_self]) (by simp only [dstOk, Nat.reduceLT]) (.tup [.lit (.int .i64 (bLeft x y r p b now).1), .lit (.int .i64 (numE (bLeft x y r p b now).2))]) rfl (fun w1 hw1 => rleft_calls g r p b now x y w1) ?_
    refine run_ok Γok (stops := []) 400 _ _ _ ?_
    simp only [St.put, r_ops, rawOp, stopAt, memN, Bool.or_false, o_false, dstOk, Nat.reduceLT, gdK, stC, stpK, pureK, rdK, evO, getT, ↓reduceIte, getL, kn, SV.known, putA, Nat.lt_add_one, Nat.succ_ne_self, Nat.reduceEqDiff, r_ops_nil, r_ret, r_nil, EndsK, retK, resvK, oneTup, doneK, imp_self, forall_const, SV.den, denL, and_self]
set_option maxRecDepth 100000 in
theorem r22wait_calls (room : Int) (hr : 1 ≤ room) (q : E) (L : List E) (o : Option (Nat × Nat)) (ho : o = none → L.length = 0) (hlen : L.length ≤ 1024) (g : Int) (r : Int) (p : Int) (b : Int) (now : Int) (w : World) (hv : w.ownsRow 0 72 5 (slV L.length o) L.length (rowE L)) : AnsF Try.prog 22 #[.agg #[.int .i64 room, slV L.length o], whoV q, .agg #[.int .i64 g, .int .i64 r, .int .i64 p, .int .i64 b], .int .i64 now] w (.tuple #[.int .i64 (tWait L q r p b now).1, .int .i64 (numE (tWait L q r p b now).2)]) := by
  refine fn_rx Γok [.lit (.agg #[.int .i64 room, slV L.length o]), .lit (.agg #[.int .i64 q.route, .int .i64 q.kind, .string q.name]), .lit (.agg #[.int .i64 g, .int .i64 r, .int .i64 p, .int .i64 b]), .lit (.int .i64 now)] Try.func22 rfl (by rw [Try.ntmps22]; exact Nat.le_of_ble_eq_true rfl) ?_
  rw [Try.ntmps22, Try.results22]
  refine run_ok Γok (stops := []) 400 _ _ _ ?_
  simp only [argsF, Nat.zero_add, Nat.reduceAdd, r_seq, r_reg, r_ops, rawOp, stopAt, memN, Bool.or_false, o_false, dstOk, Nat.reduceLT, gdK, stC, stpK, boxK, SV.flat, evO, getT, ↓reduceIte, litL, oneL, SV.one, Value.oneCell', and_true, true_and, putA, St.put, List.length_nil, SV.cells, List.nil_append, Nat.reduceEqDiff, reduceCtorEq, and_self, List.length_cons, List.cons_append, pureK, rdK, kn, SV.known, r_ops_nil, loadK, g30, Nat.succ_ne_self, getH, Nat.le_refl, takeL, g38, g40, o_true, rawC]
  refine ⟨by cases o <;> rfl, fun b1 b2 b3 => ?_⟩
  obtain ⟨⟨x, y, z⟩, hf⟩ : ∃ q', tBucket L q r p b now = q' := ⟨_, rfl⟩
  refine VdT.callA rfl rfl rfl Try.func33 rfl nm33 (by simp only [evL, evO, getT, Nat.reduceEqDiff, ↓reduceIte, Nat.succ_ne_self, knownL, SV.known, and_self]) (by simp only [dstOk, Nat.reduceLT]) (.tup [.agg [.lit (.int .i64 x), .lit (.int .i64 y)], .lit (.int .i64 (numE z))]) rfl (fun w1 hw1 => rb_is room hr q L o ho hlen g r p b now w hv hf w1 hw1.rs) ?_
  cases z with
  | some c =>
    obtain ⟨rfl, rfl, hc⟩ := tB_err hf
    rw [show tWait L q r p b now = (0, some c) from by simp [tWait, hf], show numE (some c) = c from rfl]
    refine run_ok Γok (stops := []) 400 _ _ _ ?_
    simp only [St.put, r_ops, rawOp, stopAt, memN, Bool.or_false, o_false, dstOk, Nat.reduceLT, gdK, stC, stpK, pureK, rdK, kn, SV.known, evO, getT, ↓reduceIte, putA, getL, Nat.reduceEqDiff, allocK, g70, List.length_cons, List.length_nil, Nat.zero_add, Nat.reduceAdd, litL, List.cons_append, List.nil_append, storeK, getH, SV.flat, Nat.succ_ne_self, oneL, SV.one, Value.oneCell', and_self, SV.cells, Nat.le_refl, putS, setH, putL, r_ops_nil, r_seq, r_reg, binK, intB, intK, r_cond, cndK, bne_iff_ne, ne_eq, setB, r_ret, r_code_ret, r_nil, EndsK, retK, resvK, oneTup, doneK, imp_self, forall_const, SV.den, denL, implies_true, bne_eq_false_iff_eq, r_skip, loadK, takeL, g40, reduceCtorEq, o_true, rawC, true_and]
    (repeat' (first | refine And.intro (by unfold LexTailB; kernel_rfl) ?_ | refine And.intro (by unfold LexHeldB; kernel_rfl) ?_ | refine And.intro (by unfold LexB; kernel_rfl) ?_ | refine And.intro ?_ ?_ | refine fun (_ : (_ : Prop)) => ?_ | refine fun (_ : Nat) => ?_))
    omega
  | none =>
    rw [show tWait L q r p b now = bWait x y r p b now from by simp [tWait, hf], show numE none = 0 from rfl]
    refine run_ok Γok (stops := []) 400 _ _ _ ?_
    simp only [St.put, r_ops, rawOp, stopAt, memN, Bool.or_false, o_false, dstOk, Nat.reduceLT, gdK, stC, stpK, pureK, rdK, kn, SV.known, evO, getT, ↓reduceIte, putA, getL, Nat.reduceEqDiff, allocK, g70, List.length_cons, List.length_nil, Nat.zero_add, Nat.reduceAdd, litL, List.cons_append, List.nil_append, storeK, getH, SV.flat, Nat.succ_ne_self, oneL, SV.one, Value.oneCell', and_self, SV.cells, Nat.le_refl, putS, setH, putL, r_ops_nil, r_seq, r_reg, binK, intB, intK, bne_self_eq_false, r_cond, cndK, Bool.false_eq_true, setB, r_ret, r_code_ret, r_nil, EndsK, retK, resvK, oneTup, doneK, imp_self, forall_const, SV.den, denL, true_and, forall_false, r_skip, loadK, takeL, g40, reduceCtorEq, o_true, rawC]
    intro b4
    refine VdT.callA rfl rfl rfl Try.func35 rfl nm35 (by simp only [evL, evO, getT, Nat.reduceEqDiff, ↓reduceIte, Nat.succ_ne_self, knownL, SV.known, and_self]) (by simp only [dstOk, Nat.reduceLT]) (.tup [.lit (.int .i64 (bWait x y r p b now).1), .lit (.int .i64 (numE (bWait x y r p b now).2))]) rfl (fun w1 hw1 => rwait_calls g r p b now x y w1) ?_
    refine run_ok Γok (stops := []) 400 _ _ _ ?_
    simp only [St.put, r_ops, rawOp, stopAt, memN, Bool.or_false, o_false, dstOk, Nat.reduceLT, gdK, stC, stpK, pureK, rdK, evO, getT, ↓reduceIte, getL, kn, SV.known, putA, Nat.lt_add_one, Nat.succ_ne_self, Nat.reduceEqDiff, r_ops_nil, r_ret, r_nil, EndsK, retK, resvK, oneTup, doneK, imp_self, forall_const, SV.den, denL, and_self]
