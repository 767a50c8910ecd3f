import Derived.Test.YtoplidleecbdeaaT4
import Derived.Test.YtoplidleecbdeaaT1
set_option linter.unusedVariables false
set_option linter.unusedSimpArgs false
namespace Go.Proofs.Ytoplidleecbdeaa
open Go Go.RowKit Go.Proofs.RX Go.Maps Go.ChangeMaps
theorem nm14 : (Try.f14.name == "runtime.NumGoroutine") = false := by kernel_rfl

/-- The same one? -/
def same (a b : E) : Bool := a.route == b.route && a.kind == b.kind && decide (a.name = b.name)
theorem same_iff (a b : E) : same a b = true ↔ whoV a = whoV b := by
  simp only [same, whoV_inj, Bool.and_eq_true, beq_iff_eq, decide_eq_true_eq, and_assoc]
def lk (L : List E) (q : E) : Option E := L.find? (same q)
/-- 'bucket': parts, at, error. -/
def tBucket (L : List E) (q : E) (r p b now : Int) : Int × Int × Option Int :=
  match (bFull r p b now).2.2 with
  | some c => (0, 0, some c)
  | none => match lk L q with
    | some e => (e.pt, e.at_, none)
    | none => ((bFull r p b now).1, (bFull r p b now).2.1, none)
theorem lk_cases (l : List (Nat × E)) (q : E) : (∃ l1 x e l2, l = l1 ++ (x, e) :: l2 ∧ whoV e = whoV q ∧ lk (l.map (·.2)) q = some e ∧ ∀ y ∈ l1, whoV y.2 ≠ whoV q) ∨ (lk (l.map (·.2)) q = none ∧ ∀ y ∈ l, whoV y.2 ≠ whoV q) := by
  induction l with
  | nil => exact .inr ⟨rfl, by simp⟩
  | cons y r ih =>
    obtain ⟨x, e⟩ := y
    by_cases h : same q e = true
    · exact .inl ⟨[], x, e, r, rfl, ((same_iff q e).1 h).symm, by simp [lk, h], by simp⟩
    · have h' : whoV e ≠ whoV q := fun he => h ((same_iff q e).2 he.symm)
      have hf : same q e = false := by simpa using h
      rcases ih with ⟨l1, x1, e1, l2, rfl, h1, h2, h3⟩ | ⟨h1, h2⟩
      · refine .inl ⟨(x, e) :: l1, x1, e1, l2, rfl, h1, ?_, ?_⟩
        · simpa [lk, hf] using h2
        · intro z hz
          rcases List.mem_cons.1 hz with rfl | hz
          · exact h'
          · exact h3 z hz
      · refine .inr ⟨by simpa [lk, hf] using h1, ?_⟩
        intro z hz
        rcases List.mem_cons.1 hz with rfl | hz
        · exact h'
        · exact h2 z hz
theorem zero60 (w : World) : (zeroValue 60).run Try.prog w = .ok (.pointer none) w := by kernel_rfl
theorem Tab.below {t m : Nat} {room : Int} {l : List (Nat × E)} {w w' : World} (h : Tab t m room l w) (hb : Below w.heap.size w w') : Tab t m room l w' := (Tab.dep t m room l) w w' (fun k hk => hb.block k (h.lt k hk)) hb.os hb.tape hb.output hb.size h
theorem Tab.D {t m : Nat} {room : Int} {l : List (Nat × E)} {w : World} (h : Tab t m room l w) : ∃ D, MapD Try.prog 38 m D w ∧ ∀ p, p ∈ D ↔ p ∈ ents l := by
  obtain ⟨D, h1, h2⟩ := h.mp
  exact ⟨D, h1, fun p => h2.mem_iff⟩

set_option maxRecDepth 100000 in
theorem bucket_nil (q : E) (g r p b now : Int) (w : World) :
    Calls Try.prog 25 #[.pointer none, whoV q, .agg #[.int .i64 g, .int .i64 r, .int .i64 p, .int .i64 b], .int .i64 now] w fun e' w' =>
      e' = .returned (.tuple #[.agg #[.int .i64 0, .int .i64 0], ev (match (bFull r p b now).2.2 with | some c => some c | none => some 1)]) ∧ Below w.heap.size w w' := by
  refine calls_rx Γok [.lit (.pointer none), .lit (.agg #[.int .i64 q.route, .int .i64 q.kind, .string q.name]), .lit (.agg #[.int .i64 g, .int .i64 r, .int .i64 p, .int .i64 b]), .lit (.int .i64 now)] [] _ _ Try.func25 rfl (by rw [Try.ntmps25]; exact Nat.le_of_ble_eq_true rfl) (SatH.start _ _ w) ?_
  rw [Try.ntmps25, Try.results25]
  refine run_ok Γok (stops := []) 400 _ _ _ ?_
  simp only [argsF, Nat.zero_add, Nat.reduceAdd, r_seq, r_reg, r_ops, rawOp, stopAt, memN, Bool.or_false, o_false, dstOk, Nat.reduceLT, gdK, stC, stpK, boxK, SV.flat, evO, getT, reduceCtorEq, ↓reduceIte, litL, oneL, SV.one, Value.oneCell', and_true, putA, St.put, List.length_nil, SV.cells, List.nil_append, Nat.reduceEqDiff, List.length_cons, List.cons_append, allocK, g73, pureK, rdK, kn, SV.known, r_ops_nil, loadK, g40, getH, Nat.le_refl, takeL, o_true, rawC, true_and]
  intro b1 b2 b3
  refine VdT.callA rfl rfl rfl Try.func38 rfl nm38 (by simp only [evL, evO, getT, Nat.succ_ne_self, ↓reduceIte, knownL, SV.known, and_true]) (by simp only [dstOk, Nat.reduceLT]) (.tup [.agg [.lit (.int .i64 (bFull r p b now).1), .lit (.int .i64 (bFull r p b now).2.1)], .lit (ev (bFull r p b now).2.2)]) rfl (fun w1 hw1 => full_any g r p b now w1) ?_
  obtain ⟨⟨x, y, z⟩, hf⟩ : ∃ q, bFull r p b now = q := ⟨_, rfl⟩
  cases z with
  | some c =>
    simp only [hf, ev]
    refine run_ok Γok (stops := []) 400 _ _ _ ?_
    simp only [St.put, r_ops, rawOp, stopAt, memN, Bool.or_false, o_false, dstOk, Nat.reduceLT, gdK, stC, stpK, pureK, rdK, kn, SV.known, evO, getT, ↓reduceIte, putA, getL, Nat.reduceEqDiff, allocK, g73, List.length_cons, List.length_nil, Nat.zero_add, Nat.reduceAdd, litL, List.cons_append, List.nil_append, storeK, getH, SV.flat, Nat.succ_ne_self, oneL, SV.one, Value.oneCell', and_true, SV.cells, Nat.le_refl, putS, setH, putL, r_ops_nil, r_seq, r_reg, binK, g25, nilS, isConstO, Bool.or_true, eqK, notS, Bool.not_false, r_cond, cndK, buildOpK, s73, partsL, buildK, aggC, r_ret, r_code_ret, r_nil, RX.Ends, retK, resvK, loadK, oneTup, takeL, true_and]
    exact fun b4 w' hw => ⟨rfl, hw.rs⟩
  | none =>
    simp only [hf, ev]
    refine run_ok Γok (stops := []) 400 _ _ _ ?_
    simp only [St.put, r_ops, rawOp, stopAt, memN, Bool.or_false, o_false, dstOk, Nat.reduceLT, gdK, stC, stpK, pureK, rdK, kn, SV.known, evO, getT, ↓reduceIte, putA, getL, Nat.reduceEqDiff, allocK, g73, List.length_cons, List.length_nil, Nat.zero_add, Nat.reduceAdd, litL, List.cons_append, List.nil_append, storeK, getH, SV.flat, Nat.succ_ne_self, oneL, SV.one, Value.oneCell', and_true, SV.cells, Nat.le_refl, putS, setH, putL, r_ops_nil, r_seq, r_reg, binK, g25, nilS, isConstO, Bool.or_true, eqK, notS, Bool.not_true, r_cond, cndK, r_skip, reduceCtorEq, g23, buildOpK, s73, partsL, buildK, aggC, mkiK, g58, r_ret, r_code_ret, r_nil, RX.Ends, retK, resvK, loadK, oneTup, takeL, true_and]
    exact fun b4 w' hw => ⟨rfl, hw.rs⟩
set_option maxRecDepth 100000 in
theorem bucket_any {t m : Nat} {room : Int} {l : List (Nat × E)} {w : World} (h : Tab t m room l w) (q : E) (hq : okE q) (g r p b now : Int) :
    Calls Try.prog 25 #[pv (some t), whoV q, .agg #[.int .i64 g, .int .i64 r, .int .i64 p, .int .i64 b], .int .i64 now] w fun e' w' =>
      e' = .returned (.tuple #[.agg #[.int .i64 (tBucket (l.map (·.2)) q r p b now).1, .int .i64 (tBucket (l.map (·.2)) q r p b now).2.1], ev (tBucket (l.map (·.2)) q r p b now).2.2]) ∧ Below w.heap.size w w' := by
  refine calls_rx Γok [.lit (.pointer (some ⟨t, 0, none⟩)), .lit (.agg #[.int .i64 q.route, .int .i64 q.kind, .string q.name]), .lit (.agg #[.int .i64 g, .int .i64 r, .int .i64 p, .int .i64 b]), .lit (.int .i64 now)] [] _ _ Try.func25 rfl (by rw [Try.ntmps25]; exact Nat.le_of_ble_eq_true rfl) (SatH.start _ _ w) ?_
  rw [Try.ntmps25, Try.results25]
  refine run_ok Γok (stops := []) 400 _ _ _ ?_
  simp only [argsF, Nat.zero_add, Nat.reduceAdd, r_seq, r_reg, r_ops, rawOp, stopAt, memN, Bool.or_false, o_false, dstOk, Nat.reduceLT, gdK, stC, stpK, boxK, SV.flat, evO, getT, reduceCtorEq, ↓reduceIte, litL, oneL, SV.one, Value.oneCell', and_true, putA, St.put, List.length_nil, SV.cells, List.nil_append, Nat.reduceEqDiff, List.length_cons, List.cons_append, allocK, g73, pureK, rdK, kn, SV.known, r_ops_nil, loadK, g40, getH, Nat.le_refl, takeL, o_true, rawC, true_and]
  intro b1 b2 b3
  refine VdT.callA rfl rfl rfl Try.func38 rfl nm38 (by simp only [evL, evO, getT, Nat.succ_ne_self, ↓reduceIte, knownL, SV.known, and_true]) (by simp only [dstOk, Nat.reduceLT]) (.tup [.agg [.lit (.int .i64 (bFull r p b now).1), .lit (.int .i64 (bFull r p b now).2.1)], .lit (ev (bFull r p b now).2.2)]) rfl (fun w1 hw1 => full_any g r p b now w1) ?_
  obtain ⟨⟨x, y, z⟩, hf⟩ : ∃ q, bFull r p b now = q := ⟨_, rfl⟩
  cases z with
  | some c =>
    simp only [hf, ev, tBucket]
    refine run_ok Γok (stops := []) 400 _ _ _ ?_
    simp only [St.put, r_ops, rawOp, stopAt, memN, Bool.or_false, o_false, dstOk, Nat.reduceLT, gdK, stC, stpK, pureK, rdK, kn, SV.known, evO, getT, ↓reduceIte, putA, getL, Nat.reduceEqDiff, allocK, g73, List.length_cons, List.length_nil, Nat.zero_add, Nat.reduceAdd, litL, List.cons_append, List.nil_append, storeK, getH, SV.flat, Nat.succ_ne_self, oneL, SV.one, Value.oneCell', and_true, SV.cells, Nat.le_refl, putS, setH, putL, r_ops_nil, r_seq, r_reg, binK, g25, nilS, isConstO, Bool.or_true, eqK, notS, Bool.not_false, r_cond, cndK, buildOpK, s73, partsL, buildK, aggC, r_ret, r_code_ret, r_nil, RX.Ends, retK, resvK, loadK, oneTup, takeL, true_and]
    exact fun b4 w' hw => ⟨rfl, hw.rs⟩
  | none =>
    simp only [hf, ev, tBucket]
    refine run_ok Γok (stops := [32]) 400 _ _ _ ?_
    simp only [St.put, r_ops, rawOp, stopAt, memN, Nat.reduceEqDiff, ↓reduceIte, Bool.or_false, o_false, dstOk, Nat.reduceLT, gdK, stC, stpK, pureK, rdK, kn, SV.known, evO, getT, putA, getL, allocK, g73, List.length_cons, List.length_nil, Nat.zero_add, Nat.reduceAdd, litL, List.cons_append, List.nil_append, storeK, getH, SV.flat, Nat.succ_ne_self, oneL, SV.one, Value.oneCell', and_true, SV.cells, Nat.le_refl, putS, setH, putL, r_ops_nil, r_seq, r_reg, binK, g25, nilS, isConstO, Bool.or_true, eqK, notS, Bool.not_true, r_cond, cndK, r_skip, reduceCtorEq, g23, r_regd, calmN, calmOp, Bool.not_false, Bool.and_true, Bool.and_false, Nat.reduceBEq, List.drop_succ_cons, List.drop_zero, plainL, d_run, d_false, h_cons, pureC, f62_1, ne_eq, not_false_eq_true, loadK, g59, g38, takeL, h_zero, o_true, rawC, true_and]
    intro b4
    refine ⟨by first | (unfold LexTailB; kernel_rfl) | (unfold LexHeldB; kernel_rfl), .map (some m), fun w1 h1 => by rw [cell_add (h.below h1).ch.tab]; rfl, ?_⟩
    rcases lk_cases l q with ⟨l1, x1, e1, l2, rfl, h1, h2, h3⟩ | ⟨h1, h2⟩
    · simp only [h2]
      refine VdT.lookHit K38 u59 rfl rfl (by simp [dstOk]) rfl rfl rfl (x := whoV q) rfl (v := .pointer (some ⟨x1, 0, none⟩)) ?_ ?_
      · intro w1 hw1
        obtain ⟨D, hD, hm⟩ := (h.below hw1.rs).D
        exact ⟨D, hD, isK_who hq, (hm _).2 (by rw [← h1]; simp [ents, pv])⟩
      refine run_ok Γok (stops := []) 400 _ _ _ ?_
      simp only [St.put, r_ops, rawOp, stopAt, memN, Bool.or_false, o_false, dstOk, Nat.reduceLT, gdK, stC, stpK, pureK, rdK, kn, SV.known, evO, getT, ↓reduceIte, putA, r_ops_nil, r_seq, r_reg, binK, g60, nilS, isConstO, Bool.or_true, eqK, notS, Bool.not_false, r_cond, cndK, Nat.reduceEqDiff, f80_1, ne_eq, reduceCtorEq, not_false_eq_true, loadK, g73, storeK, Nat.succ_ne_self, getH, SV.flat, SV.cells, Nat.zero_add, List.length_cons, List.length_nil, Nat.reduceAdd, Nat.le_refl, putS, setH, r_ret, r_code_ret, r_nil, RX.Ends, retK, resvK, oneTup, true_and]
      refine ⟨[.int .i64 e1.pt, .int .i64 e1.at_], rfl, fun w1 h1 j v hj => ?_, ?_⟩
      · obtain ⟨p', n', hb⟩ := seg_obj (h.below h1).ch.seg (x1, e1) (by simp)
        rw [cell_add2 hb]
        (match j with | 0 => exact hj | 1 => exact hj | j + 2 => simp at hj)
      · simp only [litL, oneL, SV.one, Value.oneCell', and_true, List.length_cons, List.length_nil, Nat.zero_add, Nat.reduceAdd, putL, Nat.le_refl, takeL, true_and]
        exact fun w1 hw => ⟨rfl, hw.rs⟩
    · simp only [h1]
      refine VdT.lookMiss K38 u59 rfl rfl (by simp [dstOk]) rfl rfl rfl (x := whoV q) rfl (v := .pointer none) zero60 ?_ ?_
      · intro w1 hw1
        obtain ⟨D, hD, hm⟩ := (h.below hw1.rs).D
        refine ⟨D, hD, isK_who hq, fun p hp => ?_⟩
        obtain ⟨y, hy, rfl⟩ := List.mem_map.1 ((hm p).1 hp)
        exact h2 y hy
      refine run_ok Γok (stops := []) 400 _ _ _ ?_
      simp only [St.put, r_ops, rawOp, stopAt, memN, Bool.or_false, o_false, dstOk, Nat.reduceLT, gdK, stC, stpK, pureK, rdK, kn, SV.known, evO, getT, ↓reduceIte, putA, r_ops_nil, r_seq, r_reg, binK, g60, nilS, isConstO, Bool.or_true, eqK, notS, Bool.not_true, r_cond, cndK, r_skip, Nat.lt_add_one, loadK, g73, Nat.reduceEqDiff, Nat.succ_ne_self, getH, Nat.zero_add, List.length_cons, List.length_nil, Nat.reduceAdd, Nat.le_refl, takeL, storeK, SV.flat, oneL, SV.one, Value.oneCell', and_true, SV.cells, putS, setH, putL, r_ret, r_nil, RX.Ends, retK, resvK, oneTup, true_and]
      exact fun w' hw => ⟨rfl, hw.rs⟩
end Go.Proofs.Ytoplidleecbdeaa
