import Derived.Test.YtoplidleecbdeaaT6
import Derived.Test.YtoplidleecbdeaaRXq
set_option linter.unusedVariables false
set_option linter.unusedSimpArgs false
namespace Go.Proofs.Ytoplidleecbdeaa
open Go Go.RowKit Go.Proofs.RX Go.Maps Go.ChangeMaps

/-- 'Left': how many, the error. -/
def tLeft (L : List E) (q : E) (r p b now : Int) : Int × Option Int :=
  match tBucket L q r p b now with
  | (_, _, some c) => (0, some c)
  | (pt, at_, none) => bLeft pt at_ r p b now
def tWait (L : List E) (q : E) (r p b now : Int) : Int × Option Int :=
  match tBucket L q r p b now with
  | (_, _, some c) => (0, some c)
  | (pt, at_, none) => bWait pt at_ r p b now
set_option maxRecDepth 100000 in
theorem left_calls {t m : Nat} {room : Int} {l : List (Nat × E)} {L : List E} {w : World} (h : Tab t m room l w) (hL : l.map (·.2) = L) (q : E) (hq : okE q) (g r p b now : Int) :
    Calls Try.prog 15 #[pv (some t), whoV q, .agg #[.int .i64 g, .int .i64 r, .int .i64 p, .int .i64 b], .int .i64 now] w fun e' w' =>
      e' = .returned (.tuple #[.int .i64 (tLeft L q r p b now).1, ev (tLeft L q r p b now).2]) ∧ Below w.heap.size w w' := by
  refine calls_rx Γok [.lit (.pointer (some ⟨t, 0, none⟩)), .lit (.agg #[.int .i64 q.route, .int .i64 q.kind, .string q.name]), .lit (.agg #[.int .i64 g, .int .i64 r, .int .i64 p, .int .i64 b]), .lit (.int .i64 now)] [] _ _ Try.func15 rfl (by rw [Try.ntmps15]; exact Nat.le_of_ble_eq_true rfl) (SatH.start _ _ w) ?_
  rw [Try.ntmps15, Try.results15]
  refine run_ok Γok (stops := []) 400 _ _ _ ?_
  simp only [argsF, Nat.zero_add, Nat.reduceAdd, r_seq, r_reg, r_ops, rawOp, stopAt, memN, Bool.or_false, o_false, dstOk, Nat.reduceLT, gdK, stC, stpK, boxK, SV.flat, evO, getT, reduceCtorEq, ↓reduceIte, litL, oneL, SV.one, Value.oneCell', and_true, putA, St.put, List.length_nil, SV.cells, List.nil_append, Nat.reduceEqDiff, List.length_cons, List.cons_append, pureK, rdK, kn, SV.known, r_ops_nil, loadK, g38, Nat.succ_ne_self, getH, Nat.le_refl, takeL, g40, o_true, rawC, true_and]
  intro b1 b2
  obtain ⟨⟨x, y, z⟩, hf⟩ : ∃ q', tBucket L q r p b now = q' := ⟨_, rfl⟩
  have hbk : ∀ w1, Below w.heap.size w w1 → Calls Try.prog 25 #[pv (some t), whoV q, .agg #[.int .i64 g, .int .i64 r, .int .i64 p, .int .i64 b], .int .i64 now] w1 fun e' w' =>
      e' = .returned (.tuple #[.agg #[.int .i64 x, .int .i64 y], ev z]) ∧ Below w1.heap.size w1 w' := fun w1 hb => by
    have := bucket_any' (h.below hb) hL q hq g r p b now
    rw [hf] at this
    exact this
  refine VdT.callA rfl rfl rfl Try.func25 rfl nm25 (by simp only [evL, evO, getT, Nat.reduceEqDiff, ↓reduceIte, Nat.succ_ne_self, knownL, SV.known, and_true]) (by simp only [dstOk, Nat.reduceLT]) (.tup [.agg [.lit (.int .i64 x), .lit (.int .i64 y)], .lit (ev z)]) rfl (fun w1 hw1 => hbk w1 hw1.rs) ?_
  cases z with
  | some c =>
    simp only [hf, ev, tLeft]
    refine run_ok Γok (stops := []) 400 _ _ _ ?_
    simp only [St.put, r_ops, rawOp, stopAt, memN, Bool.or_false, o_false, dstOk, Nat.reduceLT, gdK, stC, stpK, pureK, rdK, kn, SV.known, evO, getT, ↓reduceIte, putA, getL, Nat.reduceEqDiff, allocK, g73, List.length_cons, List.length_nil, Nat.zero_add, Nat.reduceAdd, litL, List.cons_append, List.nil_append, storeK, getH, SV.flat, Nat.succ_ne_self, oneL, SV.one, Value.oneCell', and_true, SV.cells, Nat.le_refl, putS, setH, putL, r_ops_nil, r_seq, r_reg, binK, g25, nilS, isConstO, Bool.or_true, eqK, notS, Bool.not_false, r_cond, cndK, r_ret, r_code_ret, r_nil, RX.Ends, retK, resvK, oneTup, true_and]
    exact fun b3 w' hw => ⟨rfl, hw.rs⟩
  | none =>
    simp only [ev]
    refine run_ok Γok (stops := []) 400 _ _ _ ?_
    simp only [St.put, r_ops, rawOp, stopAt, memN, Bool.or_false, o_false, dstOk, Nat.reduceLT, gdK, stC, stpK, pureK, rdK, kn, SV.known, evO, getT, ↓reduceIte, putA, getL, Nat.reduceEqDiff, allocK, g73, List.length_cons, List.length_nil, Nat.zero_add, Nat.reduceAdd, litL, List.cons_append, List.nil_append, storeK, getH, SV.flat, Nat.succ_ne_self, oneL, SV.one, Value.oneCell', and_true, SV.cells, Nat.le_refl, putS, setH, putL, r_ops_nil, r_seq, r_reg, binK, g25, nilS, isConstO, Bool.or_true, eqK, notS, Bool.not_true, r_cond, cndK, r_skip, loadK, takeL, g40, reduceCtorEq, o_true, rawC, true_and]
    intro b3
    obtain ⟨⟨n, z⟩, hf2⟩ : ∃ q', bLeft x y r p b now = q' := ⟨_, rfl⟩
    refine VdT.callA rfl rfl rfl Try.func30 rfl nm30 (by simp only [evL, evO, getT, Nat.reduceEqDiff, ↓reduceIte, Nat.succ_ne_self, knownL, SV.known, and_true]) (by simp only [dstOk, Nat.reduceLT]) (.tup [.lit (.int .i64 (bLeft x y r p b now).1), .lit (ev (bLeft x y r p b now).2)]) rfl (fun w1 hw1 => left_any g r p b now x y w1) ?_
    simp only [hf, tLeft]
    refine run_ok Γok (stops := []) 400 _ _ _ ?_
    simp only [St.put, r_ops, rawOp, stopAt, memN, Bool.or_false, o_false, dstOk, Nat.reduceLT, gdK, stC, stpK, pureK, rdK, evO, getT, ↓reduceIte, getL, kn, SV.known, putA, Nat.lt_add_one, Nat.succ_ne_self, Nat.reduceEqDiff, r_ops_nil, r_ret, r_nil, RX.Ends, retK, resvK, oneTup, true_and]
    exact fun w' hw => ⟨rfl, hw.rs⟩
set_option maxRecDepth 100000 in
theorem wait_calls {t m : Nat} {room : Int} {l : List (Nat × E)} {L : List E} {w : World} (h : Tab t m room l w) (hL : l.map (·.2) = L) (q : E) (hq : okE q) (g r p b now : Int) :
    Calls Try.prog 16 #[pv (some t), whoV q, .agg #[.int .i64 g, .int .i64 r, .int .i64 p, .int .i64 b], .int .i64 now] w fun e' w' =>
      e' = .returned (.tuple #[.int .i64 (tWait L q r p b now).1, ev (tWait L q r p b now).2]) ∧ Below w.heap.size w w' := by
  refine calls_rx Γok [.lit (.pointer (some ⟨t, 0, none⟩)), .lit (.agg #[.int .i64 q.route, .int .i64 q.kind, .string q.name]), .lit (.agg #[.int .i64 g, .int .i64 r, .int .i64 p, .int .i64 b]), .lit (.int .i64 now)] [] _ _ Try.func16 rfl (by rw [Try.ntmps16]; exact Nat.le_of_ble_eq_true rfl) (SatH.start _ _ w) ?_
  rw [Try.ntmps16, Try.results16]
  refine run_ok Γok (stops := []) 400 _ _ _ ?_
  simp only [argsF, Nat.zero_add, Nat.reduceAdd, r_seq, r_reg, r_ops, rawOp, stopAt, memN, Bool.or_false, o_false, dstOk, Nat.reduceLT, gdK, stC, stpK, boxK, SV.flat, evO, getT, reduceCtorEq, ↓reduceIte, litL, oneL, SV.one, Value.oneCell', and_true, putA, St.put, List.length_nil, SV.cells, List.nil_append, Nat.reduceEqDiff, List.length_cons, List.cons_append, pureK, rdK, kn, SV.known, r_ops_nil, loadK, g38, Nat.succ_ne_self, getH, Nat.le_refl, takeL, g40, o_true, rawC, true_and]
  intro b1 b2
  obtain ⟨⟨x, y, z⟩, hf⟩ : ∃ q', tBucket L q r p b now = q' := ⟨_, rfl⟩
  have hbk : ∀ w1, Below w.heap.size w w1 → Calls Try.prog 25 #[pv (some t), whoV q, .agg #[.int .i64 g, .int .i64 r, .int .i64 p, .int .i64 b], .int .i64 now] w1 fun e' w' =>
      e' = .returned (.tuple #[.agg #[.int .i64 x, .int .i64 y], ev z]) ∧ Below w1.heap.size w1 w' := fun w1 hb => by
    have := bucket_any' (h.below hb) hL q hq g r p b now
    rw [hf] at this
    exact this
  refine VdT.callA rfl rfl rfl Try.func25 rfl nm25 (by simp only [evL, evO, getT, Nat.reduceEqDiff, ↓reduceIte, Nat.succ_ne_self, knownL, SV.known, and_true]) (by simp only [dstOk, Nat.reduceLT]) (.tup [.agg [.lit (.int .i64 x), .lit (.int .i64 y)], .lit (ev z)]) rfl (fun w1 hw1 => hbk w1 hw1.rs) ?_
  cases z with
  | some c =>
    simp only [hf, ev, tWait]
    refine run_ok Γok (stops := []) 400 _ _ _ ?_
    simp only [St.put, r_ops, rawOp, stopAt, memN, Bool.or_false, o_false, dstOk, Nat.reduceLT, gdK, stC, stpK, pureK, rdK, kn, SV.known, evO, getT, ↓reduceIte, putA, getL, Nat.reduceEqDiff, allocK, g73, List.length_cons, List.length_nil, Nat.zero_add, Nat.reduceAdd, litL, List.cons_append, List.nil_append, storeK, getH, SV.flat, Nat.succ_ne_self, oneL, SV.one, Value.oneCell', and_true, SV.cells, Nat.le_refl, putS, setH, putL, r_ops_nil, r_seq, r_reg, binK, g25, nilS, isConstO, Bool.or_true, eqK, notS, Bool.not_false, r_cond, cndK, r_ret, r_code_ret, r_nil, RX.Ends, retK, resvK, oneTup, true_and]
    exact fun b3 w' hw => ⟨rfl, hw.rs⟩
  | none =>
    simp only [ev]
    refine run_ok Γok (stops := []) 400 _ _ _ ?_
    simp only [St.put, r_ops, rawOp, stopAt, memN, Bool.or_false, o_false, dstOk, Nat.reduceLT, gdK, stC, stpK, pureK, rdK, kn, SV.known, evO, getT, ↓reduceIte, putA, getL, Nat.reduceEqDiff, allocK, g73, List.length_cons, List.length_nil, Nat.zero_add, Nat.reduceAdd, litL, List.cons_append, List.nil_append, storeK, getH, SV.flat, Nat.succ_ne_self, oneL, SV.one, Value.oneCell', and_true, SV.cells, Nat.le_refl, putS, setH, putL, r_ops_nil, r_seq, r_reg, binK, g25, nilS, isConstO, Bool.or_true, eqK, notS, Bool.not_true, r_cond, cndK, r_skip, loadK, takeL, g40, reduceCtorEq, o_true, rawC, true_and]
    intro b3
    refine VdT.callA rfl rfl rfl Try.func31 rfl nm31 (by simp only [evL, evO, getT, Nat.reduceEqDiff, ↓reduceIte, Nat.succ_ne_self, knownL, SV.known, and_true]) (by simp only [dstOk, Nat.reduceLT]) (.tup [.lit (.int .i64 (bWait x y r p b now).1), .lit (ev (bWait x y r p b now).2)]) rfl (fun w1 hw1 => wait_any g r p b now x y w1) ?_
    simp only [hf, tWait]
    refine run_ok Γok (stops := []) 400 _ _ _ ?_
    simp only [St.put, r_ops, rawOp, stopAt, memN, Bool.or_false, o_false, dstOk, Nat.reduceLT, gdK, stC, stpK, pureK, rdK, evO, getT, ↓reduceIte, getL, kn, SV.known, putA, Nat.lt_add_one, Nat.succ_ne_self, Nat.reduceEqDiff, r_ops_nil, r_ret, r_nil, RX.Ends, retK, resvK, oneTup, true_and]
    exact fun w' hw => ⟨rfl, hw.rs⟩
/-- The table that there is not: what it answers. -/
def nErr (r p b now : Int) : Option Int := match (bFull r p b now).2.2 with | some c => some c | none => some 1
set_option maxRecDepth 100000 in
theorem nil_calls (q : E) (g r p b now : Int) (w : World) :
    (Calls Try.prog 14 #[.pointer none, whoV q, .agg #[.int .i64 g, .int .i64 r, .int .i64 p, .int .i64 b], .int .i64 now] w fun e' w' => e' = .returned (.tuple #[.bool false, ev (nErr r p b now)]) ∧ Below w.heap.size w w') ∧
    (Calls Try.prog 15 #[.pointer none, whoV q, .agg #[.int .i64 g, .int .i64 r, .int .i64 p, .int .i64 b], .int .i64 now] w fun e' w' => e' = .returned (.tuple #[.int .i64 0, ev (nErr r p b now)]) ∧ Below w.heap.size w w') ∧
    (Calls Try.prog 16 #[.pointer none, whoV q, .agg #[.int .i64 g, .int .i64 r, .int .i64 p, .int .i64 b], .int .i64 now] w fun e' w' => e' = .returned (.tuple #[.int .i64 0, ev (nErr r p b now)]) ∧ Below w.heap.size w w') := by
  obtain ⟨c, hc⟩ : ∃ c, nErr r p b now = some c := by unfold nErr; split <;> exact ⟨_, rfl⟩
  have hb : ∀ w1, Calls Try.prog 25 #[.pointer none, whoV q, .agg #[.int .i64 g, .int .i64 r, .int .i64 p, .int .i64 b], .int .i64 now] w1 fun e' w' =>
      e' = .returned (.tuple #[.agg #[.int .i64 0, .int .i64 0], .iface 58 (.int .i64 c)]) ∧ Below w1.heap.size w1 w' := fun w1 => by
    have e : Value.iface 58 (.int .i64 c) = ev (nErr r p b now) := by rw [hc]; rfl
    rw [e]
    exact bucket_nil q g r p b now w1
  rw [hc]
  simp only [ev]
  refine ⟨?_, ?_, ?_⟩
  · refine calls_rx Γok [.lit (.pointer none), .lit (.agg #[.int .i64 q.route, .int .i64 q.kind, .string q.name]), .lit (.agg #[.int .i64 g, .int .i64 r, .int .i64 p, .int .i64 b]), .lit (.int .i64 now)] [] _ _ Try.func14 rfl (by rw [Try.ntmps14]; exact Nat.le_of_ble_eq_true rfl) (SatH.start _ _ w) ?_
    rw [Try.ntmps14, Try.results14]
    refine run_ok Γok (stops := []) 400 _ _ _ ?_
    simp only [argsF, Nat.zero_add, Nat.reduceAdd, r_seq, r_reg, r_ops, rawOp, stopAt, memN, Bool.or_false, o_false, dstOk, Nat.reduceLT, gdK, stC, stpK, boxK, SV.flat, evO, getT, reduceCtorEq, ↓reduceIte, litL, oneL, SV.one, Value.oneCell', and_true, putA, St.put, List.length_nil, SV.cells, List.nil_append, Nat.reduceEqDiff, List.length_cons, List.cons_append, pureK, rdK, kn, SV.known, r_ops_nil, loadK, g38, Nat.succ_ne_self, getH, Nat.le_refl, takeL, g40, o_true, rawC, true_and]
    intro b1 b2
    refine VdT.callA rfl rfl rfl Try.func25 rfl nm25 (by simp only [evL, evO, getT, Nat.reduceEqDiff, ↓reduceIte, Nat.succ_ne_self, knownL, SV.known, and_true]) (by simp only [dstOk, Nat.reduceLT]) (.tup [.agg [.lit (.int .i64 0), .lit (.int .i64 0)], .lit (.iface 58 (.int .i64 c))]) rfl (fun w1 hw1 => hb w1) ?_
    refine run_ok Γok (stops := []) 400 _ _ _ ?_
    simp only [St.put, r_ops, rawOp, stopAt, memN, Bool.or_false, o_false, dstOk, Nat.reduceLT, gdK, stC, stpK, pureK, rdK, kn, SV.known, evO, getT, ↓reduceIte, putA, getL, Nat.reduceEqDiff, allocK, g73, List.length_cons, List.length_nil, Nat.zero_add, Nat.reduceAdd, litL, List.cons_append, List.nil_append, storeK, getH, SV.flat, Nat.succ_ne_self, oneL, SV.one, Value.oneCell', and_true, SV.cells, Nat.le_refl, putS, setH, putL, r_ops_nil, r_seq, r_reg, binK, g25, nilS, isConstO, Bool.or_true, eqK, notS, Bool.not_false, r_cond, cndK, r_ret, r_code_ret, r_nil, RX.Ends, retK, resvK, oneTup, true_and]
    exact fun b3 w' hw => ⟨rfl, hw.rs⟩
  · refine calls_rx Γok [.lit (.pointer none), .lit (.agg #[.int .i64 q.route, .int .i64 q.kind, .string q.name]), .lit (.agg #[.int .i64 g, .int .i64 r, .int .i64 p, .int .i64 b]), .lit (.int .i64 now)] [] _ _ Try.func15 rfl (by rw [Try.ntmps15]; exact Nat.le_of_ble_eq_true rfl) (SatH.start _ _ w) ?_
    rw [Try.ntmps15, Try.results15]
    refine run_ok Γok (stops := []) 400 _ _ _ ?_
    simp only [argsF, Nat.zero_add, Nat.reduceAdd, r_seq, r_reg, r_ops, rawOp, stopAt, memN, Bool.or_false, o_false, dstOk, Nat.reduceLT, gdK, stC, stpK, boxK, SV.flat, evO, getT, reduceCtorEq, ↓reduceIte, litL, oneL, SV.one, Value.oneCell', and_true, putA, St.put, List.length_nil, SV.cells, List.nil_append, Nat.reduceEqDiff, List.length_cons, List.cons_append, pureK, rdK, kn, SV.known, r_ops_nil, loadK, g38, Nat.succ_ne_self, getH, Nat.le_refl, takeL, g40, o_true, rawC, true_and]
    intro b1 b2
    refine VdT.callA rfl rfl rfl Try.func25 rfl nm25 (by simp only [evL, evO, getT, Nat.reduceEqDiff, ↓reduceIte, Nat.succ_ne_self, knownL, SV.known, and_true]) (by simp only [dstOk, Nat.reduceLT]) (.tup [.agg [.lit (.int .i64 0), .lit (.int .i64 0)], .lit (.iface 58 (.int .i64 c))]) rfl (fun w1 hw1 => hb w1) ?_
    refine run_ok Γok (stops := []) 400 _ _ _ ?_
    simp only [St.put, r_ops, rawOp, stopAt, memN, Bool.or_false, o_false, dstOk, Nat.reduceLT, gdK, stC, stpK, pureK, rdK, kn, SV.known, evO, getT, ↓reduceIte, putA, getL, Nat.reduceEqDiff, allocK, g73, List.length_cons, List.length_nil, Nat.zero_add, Nat.reduceAdd, litL, List.cons_append, List.nil_append, storeK, getH, SV.flat, Nat.succ_ne_self, oneL, SV.one, Value.oneCell', and_true, SV.cells, Nat.le_refl, putS, setH, putL, r_ops_nil, r_seq, r_reg, binK, g25, nilS, isConstO, Bool.or_true, eqK, notS, Bool.not_false, r_cond, cndK, r_ret, r_code_ret, r_nil, RX.Ends, retK, resvK, oneTup, true_and]
    exact fun b3 w' hw => ⟨rfl, hw.rs⟩
  · refine calls_rx Γok [.lit (.pointer none), .lit (.agg #[.int .i64 q.route, .int .i64 q.kind, .string q.name]), .lit (.agg #[.int .i64 g, .int .i64 r, .int .i64 p, .int .i64 b]), .lit (.int .i64 now)] [] _ _ Try.func16 rfl (by rw [Try.ntmps16]; exact Nat.le_of_ble_eq_true rfl) (SatH.start _ _ w) ?_
    rw [Try.ntmps16, Try.results16]
    refine run_ok Γok (stops := []) 400 _ _ _ ?_
    simp only [argsF, Nat.zero_add, Nat.reduceAdd, r_seq, r_reg, r_ops, rawOp, stopAt, memN, Bool.or_false, o_false, dstOk, Nat.reduceLT, gdK, stC, stpK, boxK, SV.flat, evO, getT, reduceCtorEq, ↓reduceIte, litL, oneL, SV.one, Value.oneCell', and_true, putA, St.put, List.length_nil, SV.cells, List.nil_append, Nat.reduceEqDiff, List.length_cons, List.cons_append, pureK, rdK, kn, SV.known, r_ops_nil, loadK, g38, Nat.succ_ne_self, getH, Nat.le_refl, takeL, g40, o_true, rawC, true_and]
    intro b1 b2
    refine VdT.callA rfl rfl rfl Try.func25 rfl nm25 (by simp only [evL, evO, getT, Nat.reduceEqDiff, ↓reduceIte, Nat.succ_ne_self, knownL, SV.known, and_true]) (by simp only [dstOk, Nat.reduceLT]) (.tup [.agg [.lit (.int .i64 0), .lit (.int .i64 0)], .lit (.iface 58 (.int .i64 c))]) rfl (fun w1 hw1 => hb w1) ?_
    refine run_ok Γok (stops := []) 400 _ _ _ ?_
    simp only [St.put, r_ops, rawOp, stopAt, memN, Bool.or_false, o_false, dstOk, Nat.reduceLT, gdK, stC, stpK, pureK, rdK, kn, SV.known, evO, getT, ↓reduceIte, putA, getL, Nat.reduceEqDiff, allocK, g73, List.length_cons, List.length_nil, Nat.zero_add, Nat.reduceAdd, litL, List.cons_append, List.nil_append, storeK, getH, SV.flat, Nat.succ_ne_self, oneL, SV.one, Value.oneCell', and_true, SV.cells, Nat.le_refl, putS, setH, putL, r_ops_nil, r_seq, r_reg, binK, g25, nilS, isConstO, Bool.or_true, eqK, notS, Bool.not_false, r_cond, cndK, r_ret, r_code_ret, r_nil, RX.Ends, retK, resvK, oneTup, true_and]
    exact fun b3 w' hw => ⟨rfl, hw.rs⟩
set_option maxRecDepth 100000 in
theorem len_calls {t m : Nat} {room : Int} {l : List (Nat × E)} {w : World} (h : Tab t m room l w) :
    Calls Try.prog 11 #[pv (some t)] w fun e' w' => e' = .returned (.int .i64 l.length) ∧ Below w.heap.size w w' := by
  refine calls_rx Γok [.lit (.pointer (some ⟨t, 0, none⟩))] [] _ _ Try.func11 rfl (by rw [Try.ntmps11]; exact Nat.le_of_ble_eq_true rfl) (SatH.start _ _ w) ?_
  rw [Try.ntmps11, Try.results11]
  refine run_ok Γok (stops := []) 400 _ _ _ ?_
  simp only [argsF, r_seq, r_reg, r_ops, rawOp, stopAt, memN, Bool.or_false, o_false, dstOk, Nat.reduceLT, gdK, stC, stpK, pureK, rdK, kn, SV.known, evO, putA, St.put, r_ops_nil, getT, reduceCtorEq, ↓reduceIte, binK, g23, nilS, isConstO, Bool.or_true, eqK, r_cond, cndK, r_skip, f62_1, ne_eq, Nat.succ_ne_self, not_false_eq_true, loadK, g59, Nat.lt_add_one, callK, blenK, lenK, r_ret, r_nil, RX.Ends, retK, resvK, oneTup, true_and]
  refine ⟨.map (some m), fun w1 h1 => by rw [cell_add (h.below h1).ch.tab]; rfl, ?_⟩
  simp only [fb2, intB, strB, iaK, r_nil, r_skip, r_seq, r_block, r_ret, r_exit, r_cond, r_reg, r_regd, d_stop, d_run, r_rg, r_chk, d_true, d_false, d_held, plainL, heldK, heldH, heldJ, heldT, tailK, keptS, blurH, tgtS, keepH, soEq, r_loop, r_code_ret, r_code_exit, r_ops_nil, r_ops, o_true, o_false, r_ops_ret, r_ops_exit, r_blk_normal, r_blk_ret, r_blk_hit, r_blk_miss, h_zero, h_cons, rawOp, stopAt, memN, calmOp, calmN, dstOk, gdK, gdvK, wantK, dstAt, stC, skC, pureC, rawC, stpK, pureK, rdK, kn, evO, getT, St.put, SV.known, pickK, selB, binK, intK, strK, eqK, notS, nilS, isConstO, loadK, lenK, blenK, callK, idxK, cnvK, mkiK, unK, bndK, cutK, storeK, allocK, boxK, putS, putA, buildOpK, buildK, aggC, partsL, bslK, bslC, catK, catC, nthP, getL, getH, setH, takeL, putL, SV.flat, SV.cells, SV.one, oneL, litL, cndK, setB, argsF, RX.Ends, retK, resvK, oneTup, evL, knownL, Value.oneCell', List.toList_toArray, List.length_cons, List.length_nil, List.append_eq, List.nil_append, List.cons_append, List.drop_succ_cons, List.drop_zero, List.map_cons, List.map_nil, List.mem_cons, List.not_mem_nil, or_false, forall_eq_or_imp, forall_eq, Nat.reduceAdd, Nat.reduceLT, Nat.reduceLeDiff, Nat.reduceEqDiff, Nat.reduceBEq, Nat.reduceMul, Nat.zero_add, Nat.add_zero, ↓reduceIte, Bool.or_false, Bool.or_true, Bool.false_or, Bool.true_or, Bool.and_true, Bool.true_and, Bool.and_false, Bool.false_and, Bool.not_true, Bool.not_false, reduceCtorEq, true_and, and_true, false_and, and_false, forall_false, forall_const, implies_true, imp_self, ne_eq, not_true_eq_false, not_false_eq_true, Nat.succ_ne_self, Nat.lt_add_one, Nat.le_refl, Nat.zero_le, Nat.zero_lt_succ, g3, g4, g9, g25, g23, g60, g62, g73, g80, g38, g40, g58, g59, g54, s73, s80, s38, s62, f40_0, f40_1, f40_2, f40_3, f73_0, f73_1, f62_0, f62_1, f62_2, f62_3, f80_0, f80_1, f80_2, f80_3, f38_0, f38_1, f38_2]
  exact ⟨l.length, fun w1 h1 => (h.below h1).mapLen, fun w' hw => ⟨rfl, hw.rs⟩⟩
set_option maxRecDepth 100000 in
theorem len_nil (w : World) : Calls Try.prog 11 #[.pointer none] w fun e' w' => e' = .returned (.int .i64 0) ∧ Below w.heap.size w w' := by
  refine calls_rx Γok [.lit (.pointer none)] [] _ _ Try.func11 rfl (by rw [Try.ntmps11]; exact Nat.le_of_ble_eq_true rfl) (SatH.start _ _ w) ?_
  rw [Try.ntmps11, Try.results11]
  refine run_ok Γok (stops := []) 400 _ _ _ ?_
  simp only [argsF, r_seq, r_reg, r_ops, rawOp, stopAt, memN, Bool.or_false, o_false, dstOk, Nat.reduceLT, gdK, stC, stpK, pureK, rdK, kn, SV.known, evO, putA, St.put, r_ops_nil, getT, reduceCtorEq, ↓reduceIte, binK, g23, nilS, isConstO, Bool.or_true, eqK, r_cond, cndK, r_ret, r_code_ret, r_nil, RX.Ends, retK, resvK, oneTup, true_and]
  exact fun w' hw => ⟨rfl, hw.rs⟩
set_option maxRecDepth 100000 in
theorem clone_nil (w : World) : Calls Try.prog 20 #[.pointer none] w fun e' w' => e' = .returned (.pointer none) ∧ Below w.heap.size w w' := by
  refine calls_rx Γok [.lit (.pointer none)] [] _ _ Try.func20 rfl (by rw [Try.ntmps20]; exact Nat.le_of_ble_eq_true rfl) (SatH.start _ _ w) ?_
  rw [Try.ntmps20, Try.results20]
  refine run_ok Γok (stops := []) 400 _ _ _ ?_
  simp only [argsF, r_seq, r_reg, r_ops, rawOp, stopAt, memN, Bool.or_false, o_false, dstOk, Nat.reduceLT, gdK, stC, stpK, pureK, rdK, kn, SV.known, evO, putA, St.put, r_ops_nil, getT, reduceCtorEq, ↓reduceIte, binK, g23, nilS, isConstO, Bool.or_true, eqK, r_cond, cndK, r_ret, r_code_ret, r_nil, RX.Ends, retK, resvK, oneTup, true_and]
  exact fun w' hw => ⟨rfl, hw.rs⟩
set_option maxRecDepth 100000 in
theorem who_nil (w : World) : Calls Try.prog 19 #[.pointer none] w fun e' w' => e' = .returned (.slice none 0 0) ∧ Below w.heap.size w w' := by
  refine calls_rx Γok [.lit (.pointer none)] [] _ _ Try.func19 rfl (by rw [Try.ntmps19]; exact Nat.le_of_ble_eq_true rfl) (SatH.start _ _ w) ?_
  rw [Try.ntmps19, Try.results19]
  refine run_ok Γok (stops := []) 400 _ _ _ ?_
  simp only [argsF, r_seq, r_reg, r_ops, rawOp, stopAt, memN, Bool.or_false, o_false, dstOk, Nat.reduceLT, gdK, stC, stpK, pureK, rdK, kn, SV.known, evO, putA, St.put, r_ops_nil, getT, reduceCtorEq, ↓reduceIte, binK, g23, nilS, isConstO, Bool.or_true, eqK, r_cond, cndK, r_ret, r_code_ret, r_nil, RX.Ends, retK, resvK, oneTup, true_and]
  exact fun w' hw => ⟨rfl, hw.rs⟩

set_option maxRecDepth 100000 in
theorem new_calls (room : Int) (w : World) (h1 : 1 ≤ room) (h2 : room ≤ 1024) :
    Calls Try.prog 5 #[.int .i64 room] w fun e' w' => ∃ t m, e' = .returned (.tuple #[pv (some t), .nilIface]) ∧ Tab t m room [] w' ∧ Below w.heap.size w w' ∧ w.heap.size ≤ t ∧ w.heap.size ≤ m := by
  refine calls_rx Γok [.lit (.int .i64 room)] [] _ _ Try.func5 rfl (by rw [Try.ntmps5]; exact Nat.le_of_ble_eq_true rfl) (SatH.start _ _ w) ?_
  rw [Try.ntmps5, Try.results5]
  refine run_ok Γok (stops := []) 400 _ _ _ ?_
  simp only [argsF, r_seq, r_reg, r_ops, rawOp, stopAt, memN, Bool.or_false, o_false, dstOk, Nat.reduceLT, gdK, stC, stpK, pureK, rdK, kn, SV.known, evO, putA, St.put, r_ops_nil, getT, reduceCtorEq, ↓reduceIte, binK, intB, intK, dstAt, gdvK, wantK, skC, Nat.succ_ne_self, pickK, Nat.reduceEqDiff, selB, r_cond, cndK, mkiK, g58, r_ret, r_code_ret, r_nil, RX.Ends, retK, resvK, oneTup, true_and, setB, r_skip, o_true, rawC]
  refine ⟨fun h => absurd (of_decide_eq_true h) (by omega), fun _ => ⟨fun h => absurd (of_decide_eq_true h) (by omega), fun _ => ?_⟩⟩
  refine VdT.mkMap u59 rfl rfl (by simp [dstOk]) rfl rfl fun m => ?_
  refine run_ok Γok (stops := []) 400 _ _ _ ?_
  simp only [St.put, ne_eq, r_ops, rawOp, stopAt, memN, Bool.or_false, o_false, dstOk, Nat.reduceLT, gdK, stC, stpK, pureK, buildOpK, g62, s62, litL, partsL, evO, getT, Nat.succ_ne_self, ↓reduceIte, buildK, nthP, SV.flat, SV.one, Value.oneCell', SV.cells, List.length_cons, List.length_nil, Nat.zero_add, Nat.reduceAdd, Nat.reduceLeDiff, putL, aggC, putA, Nat.lt_add_one, boxK, oneL, and_true, List.nil_append, rdK, kn, SV.known, r_ops_nil, r_ret, r_nil, RX.Ends, retK, resvK, oneTup, true_and]
  intro t w' hw
  obtain ⟨k1, k2, k3⟩ := hw.rs
  have ht := hw.obj 0 _ _ rfl
  have hft := hw.far 0 _ _ _ rfl
  refine ⟨t, m, rfl, ⟨⟨ht, trivial, by simp⟩, [], k2, List.Perm.refl _⟩, k1, Nat.le_of_not_lt fun h => hft (.inl h), Nat.le_of_not_lt fun h => k3 m h rfl⟩
set_option maxRecDepth 100000 in
theorem new_bad (room : Int) (w : World) (h : ¬ (1 ≤ room ∧ room ≤ 1024)) :
    Calls Try.prog 5 #[.int .i64 room] w fun e' w' => e' = .returned (.tuple #[.pointer none, .iface 58 (.int .i64 1)]) ∧ Below w.heap.size w w' := by
  refine calls_rx Γok [.lit (.int .i64 room)] [] _ _ Try.func5 rfl (by rw [Try.ntmps5]; exact Nat.le_of_ble_eq_true rfl) (SatH.start _ _ w) ?_
  rw [Try.ntmps5, Try.results5]
  refine run_ok Γok (stops := []) 400 _ _ _ ?_
  simp only [argsF, r_seq, r_reg, r_ops, rawOp, stopAt, memN, Bool.or_false, o_false, dstOk, Nat.reduceLT, gdK, stC, stpK, pureK, rdK, kn, SV.known, evO, putA, St.put, r_ops_nil, getT, reduceCtorEq, ↓reduceIte, binK, intB, intK, dstAt, gdvK, wantK, skC, Nat.succ_ne_self, pickK, Nat.reduceEqDiff, selB, r_cond, cndK, mkiK, g58, r_ret, r_code_ret, r_nil, RX.Ends, retK, resvK, oneTup, true_and, setB, r_skip, o_true, rawC]
  refine ⟨fun _ w' hw => ⟨rfl, hw.rs⟩, fun h1 => ⟨fun _ w' hw => ⟨rfl, hw.rs⟩, fun h2 => ?_⟩⟩
  simp at h1 h2
  omega
/-- The names' cells, in a row. -/
def rowOf (l : List E) : List Value := l.flatMap fun e => [.int .i64 e.route, .int .i64 e.kind, .string e.name]
theorem rowOf_snoc (l : List E) (e : E) : rowOf (l ++ [e]) = rowOf l ++ [.int .i64 e.route, .int .i64 e.kind, .string e.name] := by simp [rowOf]
def WhoI (w : World) (l : List (Nat × E)) (L : List E) (j : Nat) (s : St) : Prop :=
  j ≤ l.length ∧ ∃ v, s = { n := 25, tm := [(4, .lit (pv (hd (l.drop j) none))), (3, .lit v)], hp := [], fp := fun k => k < w.heap.size ∨ v.ownBlock = some k, res := fun w' => Below w.heap.size w w' ∧ w'.ownsRow 0 38 3 v j (rowOf (L.take j)) } ∧ ∀ k, k < w.heap.size → v.ownBlock ≠ some k
theorem u54 : Try.prog.underlying 54 = some (.slice 38) := by kernel_rfl
theorem i38 : (Try.prog.info? 38).map (fun i => (i.size, i.bytes, i.zero.map (fun z => z.cells.size))) = some (3, 32, some 3) := by kernel_rfl
set_option maxRecDepth 100000 in
theorem who_calls {t m : Nat} {room : Int} {l : List (Nat × E)} {L : List E} {w : World} (h : Tab t m room l w) (hL : l.map (·.2) = L) (hlen : l.length ≤ 1024) :
    Calls Try.prog 19 #[pv (some t)] w fun e' w' => ∃ v, e' = .returned v ∧ Below w.heap.size w w' ∧ w'.ownsRow 0 38 3 v L.length (rowOf L) ∧ ∀ k, v.ownBlock = some k → w.heap.size ≤ k := by
  refine calls_rx Γok [.lit (.pointer (some ⟨t, 0, none⟩))] [] _ _ Try.func19 rfl (by rw [Try.ntmps19]; exact Nat.le_of_ble_eq_true rfl) (SatH.start _ _ w) ?_
  rw [Try.ntmps19, Try.results19]
  refine run_ok Γok (stops := []) 400 _ _ _ ?_
  simp only [argsF, r_seq, r_reg, r_ops, rawOp, stopAt, memN, Bool.or_false, o_false, dstOk, Nat.reduceLT, gdK, stC, stpK, pureK, rdK, kn, SV.known, evO, putA, St.put, r_ops_nil, getT, reduceCtorEq, ↓reduceIte, binK, g23, nilS, isConstO, Bool.or_true, eqK, r_cond, cndK, r_skip, f62_2, ne_eq, Nat.succ_ne_self, not_false_eq_true, loadK, g60, r_block, r_loop, true_and]
  refine ⟨pv (hd l none), fun w1 h1 => by rw [cell_add (h.below h1).ch.tab]; rfl, ?_⟩
  have dB : Dep (fun k => k < w.heap.size) (Below w.heap.size w) := Dep.below _ _ (Nat.le_refl _)
  refine VdT.cut { n := 25, tm := [(4, .lit (pv (hd l none))), (3, .lit (.slice none 0 0))], hp := [], fp := fun k => k < w.heap.size ∨ (Value.slice none 0 0).ownBlock = some k, res := fun w' => Below w.heap.size w w' ∧ w'.ownsRow 0 38 3 (.slice none 0 0) 0 [] } rfl ⟨rfl, rfl, trivial⟩ rfl (fun k hk => by rcases hk with h | h; exact h; simp [Value.ownBlock] at h)
    (dB.and (Dep.own 38 3 0 (.slice none 0 0) [])) (fun w1 hw1 => ⟨hw1.rs, ⟨rfl, .inl ⟨rfl, rfl⟩⟩⟩) ?_
  have hLl : L.length = l.length := by rw [← hL]; simp
  refine VdT.loop (α := Nat) (WhoI w l L) (fun j => l.length - j) 0 ?_ ?_
  · exact ⟨Nat.zero_le _, _, rfl, by simp [Value.ownBlock]⟩
  · rintro j s' ⟨hj, v, rfl, hv⟩
    rcases hdr : l.drop j with _ | ⟨⟨x, e⟩, r⟩
    · rw [show pv (hd [] none) = .pointer none from rfl]
      refine run_ok Γok (stops := []) 400 _ _ _ ?_
      simp only [r_seq, r_reg, r_ops, rawOp, stopAt, memN, Bool.or_false, o_false, dstOk, Nat.reduceLT, gdK, stC, stpK, pureK, rdK, kn, SV.known, evO, getT, ↓reduceIte, putA, St.put, binK, g60, nilS, isConstO, Bool.or_true, eqK, notS, Bool.not_true, r_ops_nil, r_cond, cndK, r_exit, r_code_exit, r_nil, true_and]
      refine run_ok Γok (stops := []) 400 _ _ _ ?_
      simp only [r_blk_hit, r_seq, r_reg, r_ops, rawOp, stopAt, memN, Bool.or_false, o_false, dstOk, Nat.lt_add_one, gdK, stC, stpK, pureK, rdK, kn, SV.known, evO, getT, Nat.reduceEqDiff, ↓reduceIte, Nat.succ_ne_self, putA, St.put, Nat.reduceLT, r_ops_nil, r_ret, r_nil, RX.Ends, retK, resvK, oneTup, true_and]
      have hjl : j = l.length := by
        have := congrArg List.length hdr
        simp at this
        omega
      intro w' hw
      refine ⟨v, rfl, hw.rs.1, ?_, fun k hk => Nat.le_of_not_lt fun h => hv k h hk⟩
      have := hw.rs.2
      rw [hjl, ← hLl, List.take_length] at this
      exact this
    · have hjl : j < l.length := by
        have := congrArg List.length hdr
        simp at this
        omega
      have hlj : l = l.take j ++ (x, e) :: r := by rw [← hdr, List.take_append_drop]
      have hr : l.drop (j + 1) = r := by rw [← List.drop_drop, hdr]; rfl
      have hLj : L.take (j + 1) = L.take j ++ [e] := by
        rw [List.take_add_one]
        congr 1
        rw [← hL, List.getElem?_map]
        have : l[j]? = some (x, e) := by
          have h1 : (l.drop j)[0]? = some (x, e) := by rw [hdr]; rfl
          simpa using h1
        rw [this]; rfl
      have hx : ∀ w1, Below w.heap.size w w1 → ∃ p, w1.heap[x]? = some (nodeO e p (hd r none)) := fun w1 hb => by
        have h1 := (h.below hb).ch.seg
        rw [hlj, seg_append] at h1
        exact ⟨_, h1.2.1⟩
      rw [show pv (hd ((x, e) :: r) none) = .pointer (some ⟨x, 0, none⟩) from rfl]
      refine run_ok Γok (stops := []) 400 _ _ _ ?_
      simp only [r_seq, r_reg, r_ops, rawOp, stopAt, memN, Bool.or_false, o_false, dstOk, Nat.reduceLT, gdK, stC, stpK, pureK, rdK, kn, SV.known, evO, getT, ↓reduceIte, putA, St.put, binK, g60, nilS, isConstO, Bool.or_true, eqK, notS, Bool.not_false, r_ops_nil, r_cond, cndK, r_skip, r_block, Nat.reduceEqDiff, Nat.succ_ne_self, f80_0, ne_eq, reduceCtorEq, not_false_eq_true, loadK, g38, bslK, g54, List.length_cons, List.length_nil, Nat.zero_add, Nat.lt_add_one, Nat.zero_lt_succ, Nat.reduceMul, Nat.reduceLeDiff, partsL, catK, SV.flat, SV.cells, catC, bslC, List.nil_append, o_true, rawC, true_and]
      refine ⟨[.int .i64 e.route, .int .i64 e.kind, .string e.name], rfl, fun w1 h1 j v hj => ?_, by simp [litL, oneL, SV.one, Value.oneCell'], rfl, fun b => ?_⟩
      · obtain ⟨p, hb⟩ := hx w1 h1.1
        rw [cell_add2 hb]
        (match j with | 0 => exact hj | 1 => exact hj | 2 => exact hj | j + 3 => simp at hj)
      refine VdT.append (z := undef) (c := { callee := .builtin .append, args := #[], argTypes := #[] }) rfl rfl u54 i38 (by omega) rfl rfl rfl rfl (by simp [litL, oneL, SV.one, Value.oneCell']) (by simp [dstOk]) rfl rfl dB hv (by omega) (by omega) fun v' hn hv' => ?_
      refine run_ok Γok (stops := []) 400 _ _ _ ?_
      simp only [St.put, litL, List.cons_append, List.nil_append, r_ops, rawOp, stopAt, memN, Bool.or_false, o_false, dstOk, Nat.reduceLT, gdK, stC, stpK, pureK, rdK, kn, SV.known, evO, getT, ↓reduceIte, putA, r_ops_nil, r_blk_normal, r_reg, Nat.reduceEqDiff, f80_3, ne_eq, Nat.succ_ne_self, not_false_eq_true, loadK, g60, r_nil, true_and]
      refine ⟨pv (hd r none), fun w1 h1 => ?_, ?_⟩
      · obtain ⟨p, hb⟩ := hx w1 h1.1
        rw [cell_add hb]; rfl
      refine ⟨j + 1, { n := 25, tm := [(4, .lit (pv (hd r none))), (3, .lit v')], hp := [], fp := fun k => k < w.heap.size ∨ v'.ownBlock = some k, res := fun w' => Below w.heap.size w w' ∧ w'.ownsRow 0 38 3 v' (j + 1) (rowOf (L.take (j + 1))) }, by omega, fun a w1 hs => ?_, ⟨by omega, v', by rw [hr], hv'⟩⟩
      refine hs.cut rfl ⟨rfl, rfl, trivial⟩ rfl (fun k hk => hk) (dB.and (Dep.own 38 3 (j + 1) v' _)) ?_
      rw [hLj, rowOf_snoc]
      exact hs.H.rs
end Go.Proofs.Ytoplidleecbdeaa
