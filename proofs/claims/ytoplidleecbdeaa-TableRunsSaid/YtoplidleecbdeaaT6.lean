import Derived.Test.YtoplidleecbdeaaT5
import Derived.Test.YtoplidleecbdeaaRXp
set_option linter.unusedVariables false
set_option linter.unusedSimpArgs false
namespace Go.Proofs.Ytoplidleecbdeaa
open Go Go.RowKit Go.Proofs.RX Go.Maps Go.ChangeMaps

/-- An entry with another bucket. -/
def E.with (q : E) (x y : Int) : E := ⟨q.route, q.kind, q.name, x, y⟩
/-- 'Take': the list, whether, the error. -/
def tTake (room : Int) (L : List E) (q : E) (r p b now : Int) : List E × Bool × Option Int :=
  match tBucket L q r p b now with
  | (_, _, some c) => (L, false, some c)
  | (pt, at_, none) => match bTake pt at_ r p b now with
    | (_, _, _, some c) => (L, false, some c)
    | (x, y, ok, none) => ((match lk L q with
      | some _ => L.eraseP (same q)
      | none => if (L.length : Int) = room then L.tail else L) ++ [q.with x y], ok, none)
/-- The map by whose it is. -/
def MapOf (m : Nat) (l : List (Nat × E)) (w : World) : Prop := ∃ D, MapD Try.prog 38 m D w ∧ D.Perm (ents l)
theorem MapOf.dep (m : Nat) (l : List (Nat × E)) : Dep (fun k => k = m) (MapOf m l) := Dep.ex fun D => (MapD.dep _ _ m D).and2 (Dep.pure _ _)
theorem MapOf.lt {m : Nat} {l : List (Nat × E)} {w : World} (h : MapOf m l w) : m < w.heap.size := h.choose_spec.1.lt
theorem MapOf.ne {m b : Nat} {l : List (Nat × E)} {w : World} (h : MapOf m l w) {cs : Array Value} {t : TypeId} {fr : Nat × Nat} (hb : w.heap[b]? = some (.cells cs t fr)) : m ≠ b := by
  obtain ⟨D, ⟨es, c, hm, _⟩, _⟩ := h
  rintro rfl
  rw [hb] at hm
  simp at hm
theorem MapOf.chain {t m : Nat} {room : Int} {l l' : List (Nat × E)} {w : World} (h : MapOf m l' w) (hc : Chain t m room l w) : m ≠ t ∧ m ∉ l.map (·.1) := by
  refine ⟨h.ne hc.tab, fun hm => ?_⟩
  obtain ⟨y, hy, e⟩ := List.mem_map.1 hm
  obtain ⟨p', n', h1⟩ := seg_obj hc.seg y hy
  exact h.ne h1 e.symm
theorem MapOf.perm {m : Nat} {l l' : List (Nat × E)} {w : World} (h : MapOf m l w) (hp : (ents l).Perm (ents l')) : MapOf m l' w := by
  obtain ⟨D, h1, h2⟩ := h
  exact ⟨D, h1, h2.trans hp⟩
theorem unlink_tab {t m x : Nat} {room : Int} {l1 l2 : List (Nat × E)} {e : E} {w : World} (h : Tab t m room (l1 ++ (x, e) :: l2) w) :
    Calls Try.prog 28 #[pv (some t), pv (some x)] w fun e' w' => e' = .returned (.tuple #[]) ∧ Chain t m room (l1 ++ l2) w' ∧ w'.heap[x]? = some (nodeO e none none) ∧ MapOf m (l1 ++ (x, e) :: l2) w' ∧ Keep (TabF t m (l1 ++ (x, e) :: l2)) w w' := by
  refine (unlink_calls h.ch).mono ?_
  rintro e' w' ⟨he, h1, h2, hk⟩
  have hm : MapOf m (l1 ++ (x, e) :: l2) w := h.mp
  obtain ⟨n1, n2⟩ := hm.chain h.ch
  exact ⟨he, h1, h2, MapOf.dep m _ w w' (fun k hk' => hk' ▸ hk.block m hm.lt (by rintro (h | h); exact n1 h; exact n2 h)) hk.os hk.tape hk.output hk.size hm, hk.mono (fun k hk => by rcases hk with h | h; exact .inl h; exact .inr (.inr h))⟩
theorem behind_tab {t m x : Nat} {room : Int} {l : List (Nat × E)} {e : E} {p0 : Option Nat} {w : World} (h : Chain t m room l w) (hx : w.heap[x]? = some (nodeO e p0 none)) (hxl : x ∉ l.map (·.1)) (hm : MapOf m (l ++ [(x, e)]) w) :
    Calls Try.prog 29 #[pv (some t), pv (some x)] w fun e' w' => e' = .returned (.tuple #[]) ∧ Tab t m room (l ++ [(x, e)]) w' ∧ Keep (TabF t m (l ++ [(x, e)])) w w' := by
  refine (behind_calls h hx hxl).mono ?_
  rintro e' w' ⟨he, h1, hk⟩
  obtain ⟨n1, n2⟩ := hm.chain h
  refine ⟨he, ⟨h1, MapOf.dep m _ w w' (fun k hk' => hk' ▸ hk.block m hm.lt (by rintro (h | h | h); exact n1 h; exact hm.ne hx h; exact n2 h)) hk.os hk.tape hk.output hk.size hm⟩, hk.mono (fun k hk => ?_)⟩
  rcases hk with h | h | h
  · exact .inl h
  · exact .inr (.inr (by simp [h]))
  · exact .inr (.inr (by rw [List.map_append]; exact List.mem_append_left _ h))
theorem _root_.Go.Proofs.RX.Keep.trans' {M M' : Nat → Prop} {w w1 w2 : World} (h : Keep M w w1) (k : Keep M' w1 w2) (hM : ∀ i, i < w.heap.size → M' i → M i) : Keep M w w2 :=
  ⟨k.os.trans h.os, k.tape.trans h.tape, k.output.trans h.output, Nat.le_trans h.size k.size, fun i hi hm => (k.block i (Nat.lt_of_lt_of_le hi h.size) (fun h' => hm (hM i hi h'))).trans (h.block i hi hm)⟩
theorem Chain.old {t m : Nat} {room : Int} {l : List (Nat × E)} {F : Nat → Prop} (ht : F t) (hl : ∀ k ∈ l.map (·.1), F k) : Dep F (Chain t m room l) :=
  (Chain.dep t m room l).mono (fun k hk => by rcases hk with rfl | h; exact ht; exact hl k h)
theorem Tab.mapLen {t m : Nat} {room : Int} {l : List (Nat × E)} {w : World} (h : Tab t m room l w) : ∃ es c, w.heap[m]? = some (.map es c) ∧ es.size = l.length := by
  obtain ⟨D, ⟨es, c, hb, hes, _⟩, _, hl⟩ := h.len
  exact ⟨es, c, hb, by rw [← hl, ← hes]; simp⟩
theorem bucket_any' {t m : Nat} {room : Int} {l : List (Nat × E)} {L : List E} {w : World} (h : Tab t m room l w) (hL : l.map (·.2) = L) (q : E) (hq : okE q) (g r p b now : Int) :
    Calls Try.prog 25 #[pv (some t), whoV q, .agg #[.int .i64 g, .int .i64 r, .int .i64 p, .int .i64 b], .int .i64 now] w fun e' w' =>
      e' = .returned (.tuple #[.agg #[.int .i64 (tBucket L q r p b now).1, .int .i64 (tBucket L q r p b now).2.1], ev (tBucket L q r p b now).2.2]) ∧ Below w.heap.size w w' := hL ▸ bucket_any h q hq g r p b now
set_option maxRecDepth 100000 in
theorem take_calls {t m : Nat} {room : Int} {l : List (Nat × E)} {L : List E} {w : World} (h : Tab t m room l w) (hL : l.map (·.2) = L) (q : E) (hq : okE q) (hr1 : 1 ≤ room) (g r p b now : Int) :
    Calls Try.prog 14 #[pv (some t), whoV q, .agg #[.int .i64 g, .int .i64 r, .int .i64 p, .int .i64 b], .int .i64 now] w fun e' w' =>
      e' = .returned (.tuple #[.bool (tTake room L q r p b now).2.1, ev (tTake room L q r p b now).2.2]) ∧
      ∃ l', l'.map (·.2) = (tTake room L q r p b now).1 ∧ Tab t m room l' w' ∧ Keep (TabF t m l) w w' ∧ ∀ k, TabF t m l' k → TabF t m l k ∨ w.heap.size ≤ k := by
  refine calls_rx Γok [.lit (.pointer (some ⟨t, 0, none⟩)), .lit (.agg #[.int .i64 q.route, .int .i64 q.kind, .string q.name]), .lit (.agg #[.int .i64 g, .int .i64 r, .int .i64 p, .int .i64 b]), .lit (.int .i64 now)] [] _ _ Try.func14 rfl (by rw [Try.ntmps14]; exact Nat.le_of_ble_eq_true rfl) (SatH.start _ _ w) ?_
  rw [Try.ntmps14, Try.results14]
  refine run_ok Γok (stops := []) 400 _ _ _ ?_
  simp only [argsF, Nat.zero_add, Nat.reduceAdd, r_seq, r_reg, r_ops, rawOp, stopAt, memN, Bool.or_false, o_false, dstOk, Nat.reduceLT, gdK, stC, stpK, boxK, SV.flat, evO, getT, reduceCtorEq, ↓reduceIte, litL, oneL, SV.one, Value.oneCell', and_true, putA, St.put, List.length_nil, SV.cells, List.nil_append, Nat.reduceEqDiff, List.length_cons, List.cons_append, pureK, rdK, kn, SV.known, r_ops_nil, loadK, g38, Nat.succ_ne_self, getH, Nat.le_refl, takeL, g40, o_true, rawC, true_and]
  intro b1 b2
  obtain ⟨⟨x, y, z⟩, hf⟩ : ∃ q', tBucket L q r p b now = q' := ⟨_, rfl⟩
  have hbk : ∀ w1, Below w.heap.size w w1 → Calls Try.prog 25 #[pv (some t), whoV q, .agg #[.int .i64 g, .int .i64 r, .int .i64 p, .int .i64 b], .int .i64 now] w1 fun e' w' =>
      e' = .returned (.tuple #[.agg #[.int .i64 x, .int .i64 y], ev z]) ∧ Below w1.heap.size w1 w' := fun w1 hb => by
    have := bucket_any' (h.below hb) hL q hq g r p b now
    rw [hf] at this
    exact this
  refine VdT.callA rfl rfl rfl Try.func25 rfl nm25 (by simp only [evL, evO, getT, Nat.reduceEqDiff, ↓reduceIte, Nat.succ_ne_self, knownL, SV.known, and_true]) (by simp only [dstOk, Nat.reduceLT]) (.tup [.agg [.lit (.int .i64 x), .lit (.int .i64 y)], .lit (ev z)]) rfl (fun w1 hw1 => hbk w1 hw1.rs) ?_
  cases z with
  | some c =>
    simp only [hf, ev, tTake]
    refine run_ok Γok (stops := []) 400 _ _ _ ?_
    simp only [St.put, r_ops, rawOp, stopAt, memN, Bool.or_false, o_false, dstOk, Nat.reduceLT, gdK, stC, stpK, pureK, rdK, kn, SV.known, evO, getT, ↓reduceIte, putA, getL, Nat.reduceEqDiff, allocK, g73, List.length_cons, List.length_nil, Nat.zero_add, Nat.reduceAdd, litL, List.cons_append, List.nil_append, storeK, getH, SV.flat, Nat.succ_ne_self, oneL, SV.one, Value.oneCell', and_true, SV.cells, Nat.le_refl, putS, setH, putL, r_ops_nil, r_seq, r_reg, binK, g25, nilS, isConstO, Bool.or_true, eqK, notS, Bool.not_false, r_cond, cndK, r_ret, r_code_ret, r_nil, RX.Ends, retK, resvK, oneTup, true_and]
    exact fun b3 w' hw => ⟨rfl, l, hL, h.below hw.rs, Keep.of_below hw.rs, fun k hk => .inl hk⟩
  | none =>
    simp only [ev]
    refine run_ok Γok (stops := []) 400 _ _ _ ?_
    simp only [St.put, r_ops, rawOp, stopAt, memN, Bool.or_false, o_false, dstOk, Nat.reduceLT, gdK, stC, stpK, pureK, rdK, kn, SV.known, evO, getT, ↓reduceIte, putA, getL, Nat.reduceEqDiff, allocK, g73, List.length_cons, List.length_nil, Nat.zero_add, Nat.reduceAdd, litL, List.cons_append, List.nil_append, storeK, getH, SV.flat, Nat.succ_ne_self, oneL, SV.one, Value.oneCell', and_true, SV.cells, Nat.le_refl, putS, setH, putL, r_ops_nil, r_seq, r_reg, binK, g25, nilS, isConstO, Bool.or_true, eqK, notS, Bool.not_true, r_cond, cndK, r_skip, loadK, takeL, g40, reduceCtorEq, o_true, rawC, true_and]
    intro b3
    obtain ⟨⟨x', y', ok, z⟩, hf2⟩ : ∃ q', bTake x y r p b now = q' := ⟨_, rfl⟩
    have htk : ∀ w1, Calls Try.prog 26 #[.agg #[.int .i64 x, .int .i64 y], .agg #[.int .i64 g, .int .i64 r, .int .i64 p, .int .i64 b], .int .i64 now] w1 fun e w' =>
      e = .returned (.tuple #[.agg #[.int .i64 x', .int .i64 y'], .bool ok, ev z]) ∧ Below w1.heap.size w1 w' := fun w1 => by
      have := take_any g r p b now x y w1
      rw [hf2] at this
      exact this
    refine VdT.callA rfl rfl rfl Try.func26 rfl nm26 (by simp only [evL, evO, getT, Nat.reduceEqDiff, ↓reduceIte, Nat.succ_ne_self, knownL, SV.known, and_true]) (by simp only [dstOk, Nat.reduceLT]) (.tup [.agg [.lit (.int .i64 x'), .lit (.int .i64 y')], .lit (.bool ok), .lit (ev z)]) rfl (fun w1 hw1 => htk w1) ?_
    cases z with
    | some c =>
      simp only [hf, hf2, ev, tTake]
      refine run_ok Γok (stops := []) 400 _ _ _ ?_
      simp only [St.put, r_ops, rawOp, stopAt, memN, Bool.or_false, o_false, dstOk, Nat.reduceLT, gdK, stC, stpK, pureK, rdK, kn, SV.known, evO, getT, ↓reduceIte, putA, getL, Nat.reduceEqDiff, storeK, g73, Nat.succ_ne_self, getH, SV.flat, oneL, SV.one, Value.oneCell', and_true, SV.cells, List.length_cons, List.length_nil, Nat.zero_add, Nat.reduceAdd, Nat.le_refl, putS, setH, putL, r_ops_nil, r_seq, r_reg, binK, g25, nilS, isConstO, Bool.or_true, eqK, notS, Bool.not_false, r_cond, cndK, r_ret, r_code_ret, r_nil, RX.Ends, retK, resvK, oneTup, true_and]
      exact fun w' hw => ⟨rfl, l, hL, h.below hw.rs, Keep.of_below hw.rs, fun k hk => .inl hk⟩
    | none =>
      simp only [ev]
      refine run_ok Γok (stops := [41]) 400 _ _ _ ?_
      simp only [St.put, r_ops, rawOp, stopAt, memN, Nat.reduceEqDiff, ↓reduceIte, Bool.or_false, o_false, dstOk, Nat.reduceLT, gdK, stC, stpK, pureK, rdK, kn, SV.known, evO, getT, putA, getL, storeK, g73, Nat.succ_ne_self, getH, SV.flat, oneL, SV.one, Value.oneCell', and_true, SV.cells, List.length_cons, List.length_nil, Nat.zero_add, Nat.reduceAdd, Nat.le_refl, putS, setH, putL, r_ops_nil, r_seq, r_reg, binK, g25, nilS, isConstO, Bool.or_true, eqK, notS, Bool.not_true, r_cond, cndK, r_skip, r_regd, calmN, calmOp, Bool.not_false, Bool.and_true, Bool.and_false, Nat.reduceBEq, List.drop_succ_cons, List.drop_zero, plainL, d_run, d_false, h_cons, pureC, reduceCtorEq, f62_1, ne_eq, not_false_eq_true, loadK, g59, g38, takeL, h_zero, o_true, rawC, true_and]
      refine ⟨by first | (unfold LexTailB; kernel_rfl) | (unfold LexHeldB; kernel_rfl), .map (some m), fun w1 h1 => by rw [cell_add (h.below h1).ch.tab]; rfl, ?_⟩
      rcases lk_cases l q with ⟨l1, x1, e1, l2, rfl, h1, h2, h3⟩ | ⟨h1, h2⟩
      · have hF := h.lt
        have hft : t < w.heap.size := hF t (.inl rfl)
        have hfm : m < w.heap.size := hF m (.inr (.inl rfl))
        have hfl : ∀ k ∈ (l1 ++ l2).map (·.1), k < w.heap.size ∧ k ≠ x1 := by
          intro k hk
          have hnd := h.ch.nd
          refine ⟨hF k (.inr (.inr (by simp at hk ⊢; grind))), ?_⟩
          simp at hk hnd
          grind
        refine VdT.lookHit K38 u59 rfl rfl (by simp [dstOk]) rfl rfl rfl (x := whoV q) rfl (v := .pointer (some ⟨x1, 0, none⟩)) ?_ ?_
        · intro w1 hw1
          obtain ⟨D, hD, hm⟩ := (h.below hw1.rs).D
          exact ⟨D, hD, isK_who hq, (hm _).2 (by rw [← h1]; simp [ents, pv])⟩
        refine run_ok Γok (stops := []) 400 _ _ _ ?_
        simp only [St.put, r_ops, rawOp, stopAt, memN, Bool.or_false, o_false, dstOk, Nat.reduceLT, gdK, stC, stpK, pureK, rdK, kn, SV.known, evO, getT, ↓reduceIte, putA, r_ops_nil, r_seq, r_reg, binK, g60, nilS, isConstO, Bool.or_true, eqK, r_cond, cndK, reduceCtorEq, Nat.reduceEqDiff, o_true, rawC, true_and]
        have d1 : Dep (fun k => k < w.heap.size) (fun w' => Chain t m room (l1 ++ l2) w' ∧ w'.heap[x1]? = some (nodeO e1 none none) ∧ MapOf m (l1 ++ (x1, e1) :: l2) w' ∧ Keep (TabF t m (l1 ++ (x1, e1) :: l2)) w w') :=
          (Chain.old (F := fun k => k < w.heap.size) hft (fun k hk => (hfl k hk).1)).and2 ((Dep.blk (F := fun k => k < w.heap.size) (hF x1 (.inr (.inr (by simp))))).and2 (((MapOf.dep m _).old (fun k hk => hk ▸ hfm)).and2 ((Keep.dep _ w).old (fun k hk => hk.1))))
        refine VdT.callR rfl rfl rfl Try.func28 rfl nm28 (by simp only [evL, evO, getT, Nat.succ_ne_self, ↓reduceIte, knownL, SV.known, and_true]) (by simp only [dstOk, Nat.reduceLT]) (fun _ : Unit => .lit (.tuple #[])) (fun _ k => k < w.heap.size) (fun _ w' => Chain t m room (l1 ++ l2) w' ∧ w'.heap[x1]? = some (nodeO e1 none none) ∧ MapOf m (l1 ++ (x1, e1) :: l2) w' ∧ Keep (TabF t m (l1 ++ (x1, e1) :: l2)) w w') (fun w1 hw1 => ?c1) ?_
        case c1 =>
          have hb : Below w.heap.size w w1 := hw1.rs
          refine (unlink_tab (h.below hb)).mono ?_
          rintro e' w' ⟨he, h1, h2, h3, hk⟩
          exact ⟨(), _, he, rfl, hk, fun k hk' => hF k hk', ⟨h1, h2, h3, (Keep.of_below hb).trans hk⟩, fun k hk' => ⟨Nat.lt_of_lt_of_le hk' (Nat.le_trans hb.size hk.size), .inl hk'⟩, d1⟩
        intro _
        refine VdT.take (b := x1) (cs := [.lit (.int .i64 e1.route), .lit (.int .i64 e1.kind), .lit (.string e1.name), .lit (.int .i64 e1.pt), .lit (.int .i64 e1.at_), .lit (.pointer none), .lit (.pointer none)]) (t := 80) (F' := fun k => k < w.heap.size ∧ k ≠ x1)
          (p' := fun w' => Chain t m room (l1 ++ l2) w' ∧ MapOf m (l1 ++ (x1, e1) :: l2) w' ∧ Keep (TabF t m (l1 ++ (x1, e1) :: l2)) w w') (by simp [allC, St.put]) (fun w1 hw1 => ⟨hw1.rs.2.1, hw1.rs.1, hw1.rs.2.2⟩) (hF x1 (.inr (.inr (by simp)))) (fun k hk => hk) ?_ ?_
        · exact (Chain.old (F := fun k => k < w.heap.size ∧ k ≠ x1) ⟨hft, fun he => h.ch.ne (x1, e1) (by simp) he.symm⟩ hfl).and2 (((MapOf.dep m _).mono (fun k hk => hk ▸ ⟨hfm, fun he => h.ml (by simp [he])⟩)).and2 ((Keep.dep _ w).mono (fun k hk => ⟨hk.1, fun he => hk.2 (.inr (.inr (by simp [he])))⟩)))
        refine VdT.retell 13 (.ptr 3 x1 0) rfl rfl ?_
        refine run_ok Γok (stops := []) 400 _ _ _ ?_
        simp only [St.put, List.cons_append, List.nil_append, ne_eq, r_ops_nil, r_seq, r_reg, r_ops, rawOp, stopAt, memN, Bool.or_false, o_false, dstOk, Nat.reduceLT, gdK, stC, stpK, pureK, rdK, kn, SV.known, evO, getT, ↓reduceIte, putA, loadK, g73, Nat.reduceEqDiff, Nat.succ_ne_self, getH, Nat.zero_add, List.length_cons, List.length_nil, Nat.reduceAdd, Nat.le_refl, takeL, f80_1, reduceCtorEq, not_false_eq_true, storeK, SV.flat, oneL, SV.one, Value.oneCell', and_true, SV.cells, Nat.reduceLeDiff, putS, setH, putL, o_true, rawC, true_and]
        refine VdT.give (i := 3) (b := x1) (cs := [.lit (.int .i64 e1.route), .lit (.int .i64 e1.kind), .lit (.string e1.name), .lit (.int .i64 x'), .lit (.int .i64 y'), .lit (.pointer none), .lit (.pointer none)]) (t := 80) rfl ?_
        have hl' : (l1 ++ l2).map (·.2) ++ [q.with x' y'] = (tTake room L q r p b now).1 := by
          have : L.eraseP (same q) = (l1 ++ l2).map (·.2) := by
            rw [← hL]
            simp only [List.map_append, List.map_cons]
            rw [List.eraseP_append_right]
            · rw [List.eraseP_cons_of_pos ((same_iff _ _).2 h1.symm)]
            · intro y hy
              obtain ⟨z, hz, rfl⟩ := List.mem_map.1 hy
              exact fun hs => h3 z hz ((same_iff _ _).1 hs).symm
          simp only [tTake, hf, hf2]
          rw [hL] at h2
          rw [h2, this]
        have hT : (tTake room L q r p b now).2 = (ok, none) := by simp only [tTake, hf, hf2]
        have hew : ({ e1 with pt := x', at_ := y' } : E) = q.with x' y' := by
          obtain ⟨a1, a2, a3⟩ := whoV_inj.1 h1
          simp [E.with, a1, a2, a3]
        have d2 : Dep (fun k => k < w.heap.size) (fun w' => Tab t m room (l1 ++ l2 ++ [(x1, q.with x' y')]) w' ∧ Keep (TabF t m (l1 ++ (x1, e1) :: l2)) w w') :=
          ((Tab.dep t m room _).old (fun k hk => hF k (by
            rcases hk with h | h | h
            · exact .inl h
            · exact .inr (.inl h)
            · exact .inr (.inr (by simp at h ⊢; grind))))).and2 ((Keep.dep _ w).old (fun k hk => hk.1))
        refine VdT.callR rfl rfl rfl Try.func29 rfl nm29 (by simp only [evL, evO, getT, Nat.succ_ne_self, ↓reduceIte, knownL, SV.known, and_true]) (by simp only [dstOk, Nat.reduceLT]) (fun _ : Unit => .lit (.tuple #[])) (fun _ k => k < w.heap.size) (fun _ w' => Tab t m room (l1 ++ l2 ++ [(x1, q.with x' y')]) w' ∧ Keep (TabF t m (l1 ++ (x1, e1) :: l2)) w w') (fun w1 hw1 => ?c2) ?_
        case c2 =>
          obtain ⟨⟨g1, g2, g3⟩, g4⟩ := hw1.rs
          have g5 : w1.heap[x1]? = some (nodeO (q.with x' y') none none) := by rw [← hew]; exact g4
          have g6 : MapOf m (l1 ++ l2 ++ [(x1, q.with x' y')]) w1 := g2.perm (by
            simp only [ents, List.map_append, List.map_cons, List.map_nil]
            rw [show whoV (q.with x' y') = whoV e1 from h1.symm]
            exact List.perm_middle.trans (List.perm_append_comm (l₁ := [(whoV e1, pv (some x1))])))
          refine (behind_tab g1 g5 (fun hm => (hfl x1 hm).2 rfl) g6).mono ?_
          rintro e' w' ⟨he, k1, hk⟩
          have hsub : ∀ k, TabF t m (l1 ++ l2 ++ [(x1, q.with x' y')]) k → TabF t m (l1 ++ (x1, e1) :: l2) k := fun k hk => by
            rcases hk with h | h | h
            · exact .inl h
            · exact .inr (.inl h)
            · exact .inr (.inr (by simp at h ⊢; grind))
          refine ⟨(), _, he, rfl, hk, fun k hk' => ?_, ⟨k1, g3.trans (hk.mono hsub)⟩, fun k hk' => ?_, d2⟩
          · by_cases hx : k = x1
            · exact .inr hx
            · exact .inl ⟨hF k (hsub k hk'), hx⟩
          · refine ⟨Nat.lt_of_lt_of_le hk' (Nat.le_trans g3.size hk.size), ?_⟩
            by_cases hx : k = x1
            · exact .inl (.inr hx)
            · exact .inl (.inl ⟨hk', hx⟩)
        intro _
        refine run_ok Γok (stops := []) 400 _ _ _ ?_
        simp only [St.put, setH, r_ops_nil, r_seq, r_reg, r_ops, rawOp, stopAt, memN, Bool.or_false, o_false, dstOk, Nat.lt_add_one, gdK, stC, stpK, pureK, rdK, kn, SV.known, evO, getT, Nat.reduceEqDiff, ↓reduceIte, Nat.succ_ne_self, putA, Nat.reduceLT, r_ret, r_nil, RX.Ends, retK, resvK, oneTup, true_and]
        intro w' hw
        rw [hT]
        exact ⟨rfl, _, by rw [List.map_append]; exact hl', hw.rs.1, hw.rs.2, fun k hk => .inl (by
            rcases hk with h | h | h
            · exact .inl h
            · exact .inr (.inl h)
            · exact .inr (.inr (by simp at h ⊢; grind)))⟩
      · refine VdT.lookMiss K38 u59 rfl rfl (by simp [dstOk]) rfl rfl rfl (x := whoV q) rfl (v := .pointer none) zero60 ?_ ?_
        · intro w1 hw1
          obtain ⟨D, hD, hm⟩ := (h.below hw1.rs).D
          refine ⟨D, hD, isK_who hq, fun p hp => ?_⟩
          obtain ⟨y, hy, rfl⟩ := List.mem_map.1 ((hm p).1 hp)
          exact h2 y hy
        refine run_ok Γok (stops := []) 400 _ _ _ ?_
        simp only [St.put, r_ops, rawOp, stopAt, memN, Bool.or_false, o_false, dstOk, Nat.reduceLT, gdK, stC, stpK, pureK, rdK, kn, SV.known, evO, getT, ↓reduceIte, putA, r_ops_nil, r_seq, r_reg, binK, g60, nilS, isConstO, Bool.or_true, eqK, r_cond, cndK, r_regd, calmN, calmOp, Bool.not_false, Bool.and_true, Nat.zero_add, Nat.reduceAdd, List.length_cons, List.length_nil, Nat.reduceBEq, List.drop_succ_cons, List.drop_zero, plainL, d_run, d_true, h_cons, pureC, reduceCtorEq, f62_1, ne_eq, Nat.succ_ne_self, not_false_eq_true, loadK, g59, callK, blenK, lenK, f62_0, g3, Nat.reduceEqDiff, intB, intK, h_zero, setB, f62_2, o_true, rawC, true_and, r_skip, g38, getH, Nat.le_refl, takeL, buildOpK, g80, s80, litL, partsL, buildK, nthP, SV.flat, oneL, SV.one, Value.oneCell', and_true, SV.cells, Nat.reduceLeDiff, aggC, putL, boxK, List.cons_append, List.nil_append, Bool.not_true, d_false, strB, strK, fb2]
        refine ⟨by unfold LexB; kernel_rfl, .map (some m), fun w1 h1 => by rw [cell_add (h.below h1).ch.tab]; rfl, ?_⟩
        simp only [fb2, intB, strB, iaK, r_nil, r_skip, r_seq, r_block, r_ret, r_exit, r_cond, r_reg, r_regd, d_stop, d_run, r_rg, r_chk, d_true, d_false, d_held, plainL, heldK, heldH, heldJ, heldT, tailK, keptS, blurH, tgtS, keepH, soEq, r_loop, r_code_ret, r_code_exit, r_ops_nil, r_ops, o_true, o_false, r_ops_ret, r_ops_exit, r_blk_normal, r_blk_ret, r_blk_hit, r_blk_miss, h_zero, h_cons, rawOp, stopAt, memN, calmOp, calmN, dstOk, gdK, gdvK, wantK, dstAt, stC, skC, pureC, rawC, stpK, pureK, rdK, kn, evO, getT, St.put, SV.known, pickK, selB, binK, intK, strK, eqK, notS, nilS, isConstO, loadK, lenK, blenK, callK, idxK, cnvK, mkiK, unK, bndK, cutK, storeK, allocK, boxK, putS, putA, buildOpK, buildK, aggC, partsL, bslK, bslC, catK, catC, nthP, getL, getH, setH, takeL, putL, SV.flat, SV.cells, SV.one, oneL, litL, cndK, setB, argsF, RX.Ends, retK, resvK, oneTup, evL, knownL, Value.oneCell', List.toList_toArray, List.length_cons, List.length_nil, List.append_eq, List.nil_append, List.cons_append, List.drop_succ_cons, List.drop_zero, List.map_cons, List.map_nil, List.mem_cons, List.not_mem_nil, or_false, forall_eq_or_imp, forall_eq, Nat.reduceAdd, Nat.reduceLT, Nat.reduceLeDiff, Nat.reduceEqDiff, Nat.reduceBEq, Nat.reduceMul, Nat.zero_add, Nat.add_zero, ↓reduceIte, Bool.or_false, Bool.or_true, Bool.false_or, Bool.true_or, Bool.and_true, Bool.true_and, Bool.and_false, Bool.false_and, Bool.not_true, Bool.not_false, reduceCtorEq, true_and, and_true, false_and, and_false, forall_false, forall_const, implies_true, imp_self, ne_eq, not_true_eq_false, not_false_eq_true, Nat.succ_ne_self, Nat.lt_add_one, Nat.le_refl, Nat.zero_le, Nat.zero_lt_succ, g40, g73, g3, g25, g58, g60, g23, g62, g80, g59, g38, s73, s80, s38, f40_0, f40_1, f40_2, f40_3, f73_0, f73_1, f62_0, f62_1, f62_2, f62_3, f80_0, f80_1, f80_2, f80_3]
        refine ⟨l.length, fun w1 h1 => (h.below h1).mapLen, ?_⟩
        refine ⟨.int .i64 room, fun w1 h1 => by rw [cell_add (h.below h1).ch.tab]; rfl, ?_⟩
        simp only [true_and]
        have hF := h.lt
        have hlen : L.length = l.length := by rw [← hL]; simp
        constructor
        · intro hfull
          have hfull' : (l.length : Int) = room := by simpa using hfull
          obtain ⟨⟨x0, e0⟩, l0, hl⟩ : ∃ y l0, l = y :: l0 := by
            cases l with
            | nil => simp at hfull'; omega
            | cons y l0 => exact ⟨y, l0, rfl⟩
          have hl0 : ∀ k, TabF t m l0 k → TabF t m l k := fun k hk => by
            rcases hk with h | h | h
            · exact .inl h
            · exact .inr (.inl h)
            · exact .inr (.inr (by rw [hl]; exact List.mem_cons_of_mem _ h))
          have hl0m : ∀ y ∈ l0, y ∈ l := fun y hy => by rw [hl]; exact List.mem_cons_of_mem _ hy
          have hl0L : l0.map (·.2) = (if (L.length : Int) = room then L.tail else L) := by
            rw [hlen, if_pos hfull', ← hL, hl]
            rfl
          refine ⟨.pointer (some ⟨x0, 0, none⟩), fun w1 h1 => by rw [cell_add (h.below h1).ch.tab, hl]; rfl, ?_⟩
          have d1 : Dep (fun k => k < w.heap.size) (fun w' => Tab t m room l0 w' ∧ Keep (TabF t m l) w w') := ((Tab.dep t m room l0).old (fun k hk => hF k (hl0 k hk))).and2 ((Keep.dep _ w).old (fun k hk => hk.1))
          refine VdT.callR rfl rfl rfl Try.func27 rfl nm27 (by simp only [evL, evO, getT, Nat.reduceEqDiff, ↓reduceIte, Nat.succ_ne_self, knownL, SV.known, and_true]) (by simp only [dstOk, Nat.reduceLT]) (fun _ : Unit => .lit (.tuple #[])) (fun _ k => k < w.heap.size) (fun _ w' => Tab t m room l0 w' ∧ Keep (TabF t m l) w w') (fun w1 hw1 => ?c3) ?_
          case c3 =>
            have hb : Below w.heap.size w w1 := hw1.rs
            have h5 := h.below hb
            have h6 : Tab t m room ([] ++ (x0, e0) :: l0) w1 := by rw [hl] at h5; exact h5
            refine (remove_calls h6).mono ?_
            rintro e' w' ⟨he, h7, hk⟩
            have hk' : Keep (TabF t m l) w1 w' := by rw [hl]; exact hk
            exact ⟨(), _, he, rfl, hk', fun k hk' => hF k hk', ⟨h7, (Keep.of_below hb).trans hk'⟩, fun k hk' => ⟨Nat.lt_of_lt_of_le hk' (Nat.le_trans hb.size hk.size), .inl hk'⟩, d1⟩
          intro _
          have hI : ∀ w1, Tab t m room l0 w1 ∧ Keep (TabF t m l) w w1 → Tab t m room l0 w1 ∧ Keep (TabF t m l) w w1 := fun w1 h => h
          refine run_ok Γok (stops := []) 400 _ _ _ ?_
          simp only [St.put, r_ops_nil, r_seq, r_reg, r_ops, rawOp, stopAt, memN, Bool.or_false, o_false, dstOk, Nat.reduceLT, gdK, stC, stpK, pureK, rdK, loadK, g38, evO, getT, Nat.reduceEqDiff, ↓reduceIte, Nat.succ_ne_self, getH, Nat.zero_add, List.length_cons, List.length_nil, Nat.reduceAdd, Nat.le_refl, putA, takeL, buildOpK, g80, s80, litL, partsL, buildK, nthP, SV.flat, oneL, SV.one, Value.oneCell', and_true, SV.cells, Nat.reduceLeDiff, aggC, putL, boxK, List.cons_append, List.nil_append, kn, SV.known, r_regd, calmN, calmOp, Bool.not_false, Bool.and_true, Bool.not_true, Nat.reduceBEq, List.drop_succ_cons, List.drop_zero, plainL, d_run, d_false, h_cons, pureC, reduceCtorEq, f62_1, ne_eq, not_false_eq_true, g59, h_zero, o_true, rawC, true_and]
          intro b4
          refine ⟨by first | (unfold LexTailB; kernel_rfl) | (unfold LexHeldB; kernel_rfl), .map (some m), fun w1 h1 => by rw [cell_add (hI w1 h1).1.ch.tab]; rfl, ?_⟩
          have d3 : Dep (fun k => k < w.heap.size) (fun w' => (Chain t m room l0 w' ∧ MapOf m (l0 ++ [(b4, q.with x' y')]) w' ∧ Keep (TabF t m l) w w') ∧ w.heap.size ≤ b4) :=
            ((Chain.old (F := fun k => k < w.heap.size) (hF t (.inl rfl)) (fun k hk => hF k (hl0 k (.inr (.inr hk))))).and2 (((MapOf.dep m _).old (fun k hk => hk ▸ hF m (.inr (.inl rfl)))).and2 ((Keep.dep _ w).old (fun k hk => hk.1)))).and2 (Dep.pure _ _)
          refine VdT.mapNew K38 u59 (.inl rfl) rfl trivial rfl rfl rfl (x := whoV q) rfl rfl rfl (v := pv (some b4)) rfl (F' := fun k => k < w.heap.size) (p' := fun w' => (Chain t m room l0 w' ∧ MapOf m (l0 ++ [(b4, q.with x' y')]) w' ∧ Keep (TabF t m l) w w') ∧ w.heap.size ≤ b4) d3 (hF m (.inr (.inl rfl))) (fun k hk => hk) ?_ ?_
          · intro w1 hw1
            obtain ⟨k1, k2⟩ := hI w1 hw1.rs
            obtain ⟨D, hD, hp⟩ := k1.mp
            refine ⟨D, hD, isK_who hq, fun p hpD => ?_, fun w' hM' hk => ⟨⟨?_, ⟨_, hM', ?_⟩, k2.trans' hk (fun k _ e => e ▸ .inr (.inl rfl))⟩, Nat.le_of_not_lt (hw1.far 3 b4 _ _ rfl)⟩⟩
            · obtain ⟨y, hy, rfl⟩ := List.mem_map.1 (hp.mem_iff.1 hpD)
              exact h2 y (hl0m y hy)
            · exact Chain.dep t m room l0 w1 w' (fun k hk' => hk.block k (k1.lt k (by rcases hk' with h | h; exact .inl h; exact .inr (.inr h))) (by rintro rfl; rcases hk' with h | h; exact k1.mt h; exact k1.ml h)) hk.os hk.tape hk.output hk.size k1.ch
            · simp only [ents, List.map_append, List.map_cons, List.map_nil]
              exact hp.append (List.Perm.refl _)
          refine run_ok Γok (stops := []) 400 _ _ _ ?_
          simp only [St.put, r_ops_nil, r_seq, r_reg, r_ops, rawOp, stopAt, memN, Bool.or_false, o_false, dstOk, Nat.reduceLT, gdK, stC, stpK, pureK, rdK, kn, SV.known, evO, getT, Nat.reduceEqDiff, ↓reduceIte, putA, loadK, g73, Nat.succ_ne_self, getH, Nat.zero_add, List.length_cons, List.length_nil, Nat.reduceAdd, Nat.le_refl, takeL, f80_1, ne_eq, reduceCtorEq, not_false_eq_true, storeK, SV.flat, oneL, SV.one, Value.oneCell', and_true, SV.cells, Nat.reduceLeDiff, putS, setH, putL, o_true, rawC, true_and]
          refine VdT.give (i := 3) (b := b4) (cs := [.lit (.int .i64 q.route), .lit (.int .i64 q.kind), .lit (.string q.name), .lit (.int .i64 x'), .lit (.int .i64 y'), .lit (.pointer none), .lit (.pointer none)]) (t := 80) rfl ?_
          have hl' : l0.map (·.2) ++ [q.with x' y'] = (tTake room L q r p b now).1 := by
            rw [hL] at h1
            simp only [tTake, hf, hf2, h1]
            rw [hl0L]
          have hT : (tTake room L q r p b now).2 = (ok, none) := by simp only [tTake, hf, hf2]
          have d2 : Dep (fun k => k < w.heap.size ∨ k = b4) (fun w' => Tab t m room (l0 ++ [(b4, q.with x' y')]) w' ∧ Keep (TabF t m l) w w' ∧ w.heap.size ≤ b4) :=
            ((Tab.dep t m room _).mono (fun k hk => by
              rcases hk with h | h | h
              · exact .inl (hF k (.inl h))
              · exact .inl (hF k (.inr (.inl h)))
              · simp only [List.map_append, List.map_cons, List.map_nil, List.mem_append, List.mem_singleton] at h
                rcases h with h | h
                · exact .inl (hF k (hl0 k (.inr (.inr h))))
                · exact .inr h)).and2 (((Keep.dep _ w).mono (fun k hk => .inl hk.1)).and2 (Dep.pure _ _))
          refine VdT.callR rfl rfl rfl Try.func29 rfl nm29 (by simp only [evL, evO, getT, Nat.succ_ne_self, ↓reduceIte, knownL, SV.known, and_true]) (by simp only [dstOk, Nat.reduceLT]) (fun _ : Unit => .lit (.tuple #[])) (fun _ k => k < w.heap.size ∨ k = b4) (fun _ w' => Tab t m room (l0 ++ [(b4, q.with x' y')]) w' ∧ Keep (TabF t m l) w w' ∧ w.heap.size ≤ b4) (fun w1 hw1 => ?c4) ?_
          case c4 =>
            obtain ⟨⟨⟨g1, g2, g3⟩, g5⟩, g4⟩ := hw1.rs
            have hb4 : b4 ∉ l0.map (·.1) := fun hm => by
              have := hF b4 (hl0 b4 (.inr (.inr hm)))
              omega
            refine (behind_tab (p0 := none) (e := q.with x' y') g1 g4 hb4 g2).mono ?_
            rintro e' w' ⟨he, k1, hk⟩
            have hsub : ∀ k, TabF t m (l0 ++ [(b4, q.with x' y')]) k → TabF t m l k ∨ k = b4 := fun k hk => by
              rcases hk with h | h | h
              · exact .inl (.inl h)
              · exact .inl (.inr (.inl h))
              · simp only [List.map_append, List.map_cons, List.map_nil, List.mem_append, List.mem_singleton] at h
                rcases h with h | h
                · exact .inl (hl0 k (.inr (.inr h)))
                · exact .inr h
            refine ⟨(), _, he, rfl, hk, fun k hk' => ?_, ⟨k1, g3.trans' hk (fun k hlt hk' => ?_), g5⟩, fun k hk' => ⟨?_, .inl hk'⟩, d2⟩
            · rcases hsub k hk' with h | h
              · exact .inl (hF k h)
              · exact .inr h
            · rcases hsub k hk' with h | h
              · exact h
              · omega
            · rcases hk' with h | h
              · exact Nat.lt_of_lt_of_le h (Nat.le_trans g3.size hk.size)
              · rw [h]; exact k1.lt b4 (.inr (.inr (by simp)))
          intro _
          refine run_ok Γok (stops := []) 400 _ _ _ ?_
          simp only [St.put, setH, r_ops_nil, r_seq, r_reg, r_ops, rawOp, stopAt, memN, Bool.or_false, o_false, dstOk, Nat.lt_add_one, gdK, stC, stpK, pureK, rdK, kn, SV.known, evO, getT, Nat.reduceEqDiff, ↓reduceIte, Nat.succ_ne_self, putA, Nat.reduceLT, r_ret, r_nil, RX.Ends, retK, resvK, oneTup, true_and]
          intro w' hw
          rw [hT]
          refine ⟨rfl, _, by rw [List.map_append]; exact hl', hw.rs.1, hw.rs.2.1, fun k hk => ?_⟩
          rcases hk with h | h | h
          · exact .inl (.inl h)
          · exact .inl (.inr (.inl h))
          · simp only [List.map_append, List.map_cons, List.map_nil, List.mem_append, List.mem_singleton] at h
            rcases h with h | h
            · exact .inl (hl0 k (.inr (.inr h)))
            · exact .inr (h ▸ hw.rs.2.2)
        · intro hfull
          have hfull' : ¬ (l.length : Int) = room := by simpa using hfull
          obtain ⟨l0, rfl⟩ : ∃ l0, l = l0 := ⟨_, rfl⟩
          have hl0 : ∀ k, TabF t m l k → TabF t m l k := fun k hk => hk
          have hl0m : ∀ y ∈ l, y ∈ l := fun y hy => hy
          have hl0L : l.map (·.2) = (if (L.length : Int) = room then L.tail else L) := by
            rw [hlen, if_neg hfull', ← hL]
          have hI : ∀ w1, Below w.heap.size w w1 → Tab t m room l w1 ∧ Keep (TabF t m l) w w1 := fun w1 h1 => ⟨h.below h1, Keep.of_below h1⟩
          intro b4
          refine ⟨by first | (unfold LexTailB; kernel_rfl) | (unfold LexHeldB; kernel_rfl), .map (some m), fun w1 h1 => by rw [cell_add (hI w1 h1).1.ch.tab]; rfl, ?_⟩
          have d3 : Dep (fun k => k < w.heap.size) (fun w' => (Chain t m room l w' ∧ MapOf m (l ++ [(b4, q.with x' y')]) w' ∧ Keep (TabF t m l) w w') ∧ w.heap.size ≤ b4) :=
            ((Chain.old (F := fun k => k < w.heap.size) (hF t (.inl rfl)) (fun k hk => hF k (hl0 k (.inr (.inr hk))))).and2 (((MapOf.dep m _).old (fun k hk => hk ▸ hF m (.inr (.inl rfl)))).and2 ((Keep.dep _ w).old (fun k hk => hk.1)))).and2 (Dep.pure _ _)
          refine VdT.mapNew K38 u59 (.inl rfl) rfl trivial rfl rfl rfl (x := whoV q) rfl rfl rfl (v := pv (some b4)) rfl (F' := fun k => k < w.heap.size) (p' := fun w' => (Chain t m room l w' ∧ MapOf m (l ++ [(b4, q.with x' y')]) w' ∧ Keep (TabF t m l) w w') ∧ w.heap.size ≤ b4) d3 (hF m (.inr (.inl rfl))) (fun k hk => hk) ?_ ?_
          · intro w1 hw1
            obtain ⟨k1, k2⟩ := hI w1 hw1.rs
            obtain ⟨D, hD, hp⟩ := k1.mp
            refine ⟨D, hD, isK_who hq, fun p hpD => ?_, fun w' hM' hk => ⟨⟨?_, ⟨_, hM', ?_⟩, k2.trans' hk (fun k _ e => e ▸ .inr (.inl rfl))⟩, Nat.le_of_not_lt (hw1.far 3 b4 _ _ rfl)⟩⟩
            · obtain ⟨y, hy, rfl⟩ := List.mem_map.1 (hp.mem_iff.1 hpD)
              exact h2 y (hl0m y hy)
            · exact Chain.dep t m room l w1 w' (fun k hk' => hk.block k (k1.lt k (by rcases hk' with h | h; exact .inl h; exact .inr (.inr h))) (by rintro rfl; rcases hk' with h | h; exact k1.mt h; exact k1.ml h)) hk.os hk.tape hk.output hk.size k1.ch
            · simp only [ents, List.map_append, List.map_cons, List.map_nil]
              exact hp.append (List.Perm.refl _)
          refine run_ok Γok (stops := []) 400 _ _ _ ?_
          simp only [St.put, r_ops_nil, r_seq, r_reg, r_ops, rawOp, stopAt, memN, Bool.or_false, o_false, dstOk, Nat.reduceLT, gdK, stC, stpK, pureK, rdK, kn, SV.known, evO, getT, Nat.reduceEqDiff, ↓reduceIte, putA, loadK, g73, Nat.succ_ne_self, getH, Nat.zero_add, List.length_cons, List.length_nil, Nat.reduceAdd, Nat.le_refl, takeL, f80_1, ne_eq, reduceCtorEq, not_false_eq_true, storeK, SV.flat, oneL, SV.one, Value.oneCell', and_true, SV.cells, Nat.reduceLeDiff, putS, setH, putL, o_true, rawC, true_and]
          refine VdT.give (i := 3) (b := b4) (cs := [.lit (.int .i64 q.route), .lit (.int .i64 q.kind), .lit (.string q.name), .lit (.int .i64 x'), .lit (.int .i64 y'), .lit (.pointer none), .lit (.pointer none)]) (t := 80) rfl ?_
          have hl' : l.map (·.2) ++ [q.with x' y'] = (tTake room L q r p b now).1 := by
            rw [hL] at h1
            simp only [tTake, hf, hf2, h1]
            rw [hl0L]
          have hT : (tTake room L q r p b now).2 = (ok, none) := by simp only [tTake, hf, hf2]
          have d2 : Dep (fun k => k < w.heap.size ∨ k = b4) (fun w' => Tab t m room (l ++ [(b4, q.with x' y')]) w' ∧ Keep (TabF t m l) w w' ∧ w.heap.size ≤ b4) :=
            ((Tab.dep t m room _).mono (fun k hk => by
              rcases hk with h | h | h
              · exact .inl (hF k (.inl h))
              · exact .inl (hF k (.inr (.inl h)))
              · simp only [List.map_append, List.map_cons, List.map_nil, List.mem_append, List.mem_singleton] at h
                rcases h with h | h
                · exact .inl (hF k (hl0 k (.inr (.inr h))))
                · exact .inr h)).and2 (((Keep.dep _ w).mono (fun k hk => .inl hk.1)).and2 (Dep.pure _ _))
          refine VdT.callR rfl rfl rfl Try.func29 rfl nm29 (by simp only [evL, evO, getT, Nat.succ_ne_self, ↓reduceIte, knownL, SV.known, and_true]) (by simp only [dstOk, Nat.reduceLT]) (fun _ : Unit => .lit (.tuple #[])) (fun _ k => k < w.heap.size ∨ k = b4) (fun _ w' => Tab t m room (l ++ [(b4, q.with x' y')]) w' ∧ Keep (TabF t m l) w w' ∧ w.heap.size ≤ b4) (fun w1 hw1 => ?c5) ?_
          case c5 =>
            obtain ⟨⟨⟨g1, g2, g3⟩, g5⟩, g4⟩ := hw1.rs
            have hb4 : b4 ∉ l.map (·.1) := fun hm => by
              have := hF b4 (hl0 b4 (.inr (.inr hm)))
              omega
            refine (behind_tab (p0 := none) (e := q.with x' y') g1 g4 hb4 g2).mono ?_
            rintro e' w' ⟨he, k1, hk⟩
            have hsub : ∀ k, TabF t m (l ++ [(b4, q.with x' y')]) k → TabF t m l k ∨ k = b4 := fun k hk => by
              rcases hk with h | h | h
              · exact .inl (.inl h)
              · exact .inl (.inr (.inl h))
              · simp only [List.map_append, List.map_cons, List.map_nil, List.mem_append, List.mem_singleton] at h
                rcases h with h | h
                · exact .inl (hl0 k (.inr (.inr h)))
                · exact .inr h
            refine ⟨(), _, he, rfl, hk, fun k hk' => ?_, ⟨k1, g3.trans' hk (fun k hlt hk' => ?_), g5⟩, fun k hk' => ⟨?_, .inl hk'⟩, d2⟩
            · rcases hsub k hk' with h | h
              · exact .inl (hF k h)
              · exact .inr h
            · rcases hsub k hk' with h | h
              · exact h
              · omega
            · rcases hk' with h | h
              · exact Nat.lt_of_lt_of_le h (Nat.le_trans g3.size hk.size)
              · rw [h]; exact k1.lt b4 (.inr (.inr (by simp)))
          intro _
          refine run_ok Γok (stops := []) 400 _ _ _ ?_
          simp only [St.put, setH, r_ops_nil, r_seq, r_reg, r_ops, rawOp, stopAt, memN, Bool.or_false, o_false, dstOk, Nat.lt_add_one, gdK, stC, stpK, pureK, rdK, kn, SV.known, evO, getT, Nat.reduceEqDiff, ↓reduceIte, Nat.succ_ne_self, putA, Nat.reduceLT, r_ret, r_nil, RX.Ends, retK, resvK, oneTup, true_and]
          intro w' hw
          rw [hT]
          refine ⟨rfl, _, by rw [List.map_append]; exact hl', hw.rs.1, hw.rs.2.1, fun k hk => ?_⟩
          rcases hk with h | h | h
          · exact .inl (.inl h)
          · exact .inl (.inr (.inl h))
          · simp only [List.map_append, List.map_cons, List.map_nil, List.mem_append, List.mem_singleton] at h
            rcases h with h | h
            · exact .inl (hl0 k (.inr (.inr h)))
            · exact .inr (h ▸ hw.rs.2.2)
end Go.Proofs.Ytoplidleecbdeaa
