import Derived.Test.YtoplidleecbdeaaT19
import Derived.Test.YtoplidleecbdeaaT9
set_option linter.unusedVariables false
set_option linter.unusedSimpArgs false
namespace Go.Proofs.Ytoplidleecbdeaa
open Go Go.RowKit Go.Proofs.RX Go.Maps Go.ChangeMaps
theorem nm9 : (Try.f9.name == "runtime.NumGoroutine") = false := by kernel_rfl
theorem nm10 : (Try.f10.name == "runtime.NumGoroutine") = false := by kernel_rfl
theorem nm6 : (Try.f6.name == "runtime.NumGoroutine") = false := by kernel_rfl
theorem num_ev' (z : Option Int) (w : World) : Calls Try.prog 7 #[ev z] w fun e' w' => e' = .returned (.int .i64 (numE z)) ∧ Below w.heap.size w w' := by
  cases z with
  | none => exact num_nil w
  | some c => exact num_some c w
theorem eqB2 (x y : Operand) (t : TypeId) (h : Try.prog.underlying t = some .bool) (a b : Bool) (w : World) : (binF .eql t x y (.bool a) (.bool b)).run Try.prog w = .ok (.bool (a == b)) w := by
  have h1 : (Op.equalIn (9999 + 1) t (.bool a) (.bool b)).run Try.prog w = .ok (a == b) w := run_equalIn_bool' w 9999 t a b h
  simp [binF, eqGuard, binOp, Op.equal, Op.maxDepth, h1]
/-- The two tables: the program's with L, the reference's row with M. -/
def DI (w0 : World) (t m : Nat) (room : Int) (l : List (Nat × E)) (L M : List E) (o : Option (Nat × Nat)) (w : World) : Prop := TI w0 t m room l L w ∧ RowE M o w ∧ ∀ k, rowB o = some k → w0.heap.size ≤ k ∧ ¬ TabF t m l k
def DF (w0 : World) (t m : Nat) (l : List (Nat × E)) (o : Option (Nat × Nat)) (k : Nat) : Prop := TIF w0 t m l k ∨ rowB o = some k
theorem DI.dep (w0 : World) (t m : Nat) (room : Int) (l : List (Nat × E)) (L M : List E) (o : Option (Nat × Nat)) : Dep (DF w0 t m l o) (DI w0 t m room l L M o) :=
  ((TI.dep w0 t m room l L).mono (fun k hk => .inl hk)).and2 (((Row.dep 72 5 o M.length (rowL entS M)).mono (fun k hk => .inr hk)).and2 (Dep.pure _ _))
theorem DI.lt {w0 w : World} {t m : Nat} {room : Int} {l : List (Nat × E)} {L M : List E} {o : Option (Nat × Nat)} (h : DI w0 t m room l L M o w) (k : Nat) (hk : DF w0 t m l o k) : k < w.heap.size := by
  rcases hk with (hk | hk) | hk
  · exact Nat.lt_of_lt_of_le hk h.1.2.1.size
  · exact h.1.1.lt k hk
  · exact Row.lt h.2.1 k hk
theorem DI.below {w0 w w' : World} {t m : Nat} {room : Int} {l : List (Nat × E)} {L M : List E} {o : Option (Nat × Nat)} (h : DI w0 t m room l L M o w) (hb : Below w.heap.size w w') : DI w0 t m room l L M o w' :=
  DI.dep w0 t m room l L M o w w' (fun k hk => hb.block k (h.lt k hk)) hb.os hb.tape hb.output hb.size h
/-- The reference goes on. -/
theorem DI.ref {w0 w w' : World} {t m : Nat} {room : Int} {l : List (Nat × E)} {L M M' : List E} {o o' : Option (Nat × Nat)} (h : DI w0 t m room l L M o w) (hb : Below w.heap.size w w') (hr : RowE M' o' w') (hf : o' = o ∨ ∀ k, rowB o' = some k → w.heap.size ≤ k) :
    DI w0 t m room l L M' o' w' ∧ ∀ k, DF w0 t m l o' k → k < w'.heap.size ∧ (DF w0 t m l o k ∨ w.heap.size ≤ k) := by
  have h1 := h.below hb
  have h2 : DI w0 t m room l L M' o' w' := by
    refine ⟨h1.1, hr, fun k hk => ?_⟩
    rcases hf with rfl | hf
    · exact h.2.2 k hk
    · exact ⟨Nat.le_trans h.1.2.1.size (hf k hk), fun hc => by have := h.1.1.lt k hc; have := hf k hk; omega⟩
  refine ⟨h2, fun k hk => ⟨h2.lt k hk, ?_⟩⟩
  rcases hk with hk | hk
  · exact .inl (.inl hk)
  · rcases hf with rfl | hf
    · exact .inl (.inr hk)
    · exact .inr (hf k hk)
/-- The program goes on. -/
theorem DI.prog {w0 w w' : World} {t m : Nat} {room : Int} {l l' : List (Nat × E)} {L L' M : List E} {o : Option (Nat × Nat)} (h : DI w0 t m room l L M o w) (h' : Tab t m room l' w') (hL : l'.map (·.2) = L') (hk : Keep (TabF t m l) w w') (hf : ∀ k, TabF t m l' k → TabF t m l k ∨ w.heap.size ≤ k) :
    DI w0 t m room l' L' M o w' ∧ ∀ k, DF w0 t m l' o k → k < w'.heap.size ∧ (DF w0 t m l o k ∨ w.heap.size ≤ k) := by
  have h1 := h.1.step h' hL hk hf
  have hrow : RowE M o w' := Row.dep 72 5 o M.length (rowL entS M) w w' (fun k hk' => hk.block k (Row.lt h.2.1 k hk') (h.2.2 k hk').2) hk.os hk.tape hk.output hk.size h.2.1
  have h2 : DI w0 t m room l' L' M o w' := by
    refine ⟨h1, hrow, fun k hk' => ⟨(h.2.2 k hk').1, fun hc => ?_⟩⟩
    rcases hf k hc with hc | hc
    · exact (h.2.2 k hk').2 hc
    · have := Row.lt h.2.1 k hk'; omega
  refine ⟨h2, fun k hk' => ⟨h2.lt k hk', ?_⟩⟩
  rcases hk' with (hk' | hk') | hk'
  · exact .inl (.inl (.inl hk'))
  · rcases hf k hk' with hc | hc
    · exact .inl (.inl (.inr hc))
    · exact .inr hc
  · exact .inl (.inr hk')
theorem filter_len {α : Type} (p : α → Bool) : ∀ l : List α, l.length = (l.filter p).length + (l.filter fun x => !p x).length
  | [] => rfl
  | x :: r => by
    have := filter_len p r
    cases h : p x <;> simp [h] <;> omega
/-- Since a world w, in which it was l and o. -/
def DJ (w0 : World) (t m : Nat) (room : Int) (l : List (Nat × E)) (o : Option (Nat × Nat)) (w : World) (l' : List (Nat × E)) (L M : List E) (o' : Option (Nat × Nat)) (w' : World) : Prop :=
  DI w0 t m room l' L M o' w' ∧ Keep (DF w0 t m l o) w w' ∧ ∀ k, DF w0 t m l' o' k → DF w0 t m l o k ∨ w.heap.size ≤ k
def DG (w0 : World) (t m : Nat) (w : World) (l' : List (Nat × E)) (o' : Option (Nat × Nat)) (k : Nat) : Prop := k < w.heap.size ∨ DF w0 t m l' o' k
section
variable {w0 w : World} {t m : Nat} {room : Int} {l l' l'' : List (Nat × E)} {L L' M M' : List E} {o o' o'' : Option (Nat × Nat)}
theorem DJ.dep : Dep (DG w0 t m w l' o') (DJ w0 t m room l o w l' L M o') :=
  ((DI.dep w0 t m room l' L M o').mono (fun k hk => .inr hk)).and2 (((Keep.dep _ w).mono (fun k hk => .inl hk.1)).and2 (Dep.pure _ _))
theorem DJ.lt {w1 : World} (h : DJ w0 t m room l o w l' L M o' w1) (k : Nat) (hk : DG w0 t m w l' o' k) : k < w1.heap.size := by
  rcases hk with hk | hk
  · exact Nat.lt_of_lt_of_le hk h.2.1.size
  · exact h.1.lt k hk
theorem DJ.refl (h : DI w0 t m room l L M o w) : DJ w0 t m room l o w l L M o w := ⟨h, Keep.refl _ _, fun k hk => .inl hk⟩
theorem SatH.startJ (n : Nat) (tm : List (Nat × SV)) (h : DI w0 t m room l L M o w) : SatH ⟨n, tm, [], DG w0 t m w l o, DJ w0 t m room l o w l L M o⟩ w where
  nd := by simp
  obj := by intro i b o h; simp [getH] at h
  lt := by simp
  far := by intro i b cs t h; simp [getH] at h
  fpl := fun k hk => (DJ.refl h).lt k hk
  dep := DJ.dep
  rs := DJ.refl h
theorem DJ.below {w1 w' : World} (h : DJ w0 t m room l o w l' L M o' w1) (hb : Below w1.heap.size w1 w') : DJ w0 t m room l o w l' L M o' w' :=
  DJ.dep w1 w' (fun k hk => hb.block k (h.lt k hk)) hb.os hb.tape hb.output hb.size h
theorem DJ.ref {w1 w' : World} (h : DJ w0 t m room l o w l' L M o' w1) (hb : Below w1.heap.size w1 w') (hr : RowE M' o'' w') (hf : o'' = o' ∨ ∀ k, rowB o'' = some k → w1.heap.size ≤ k) :
    Keep (fun _ => False) w1 w' ∧ DJ w0 t m room l o w l' L M' o'' w' ∧ ∀ k, DG w0 t m w l' o'' k → k < w'.heap.size ∧ (DG w0 t m w l' o' k ∨ w1.heap.size ≤ k) := by
  obtain ⟨h1, h2⟩ := h.1.ref hb hr hf
  have h3 : DJ w0 t m room l o w l' L M' o'' w' := ⟨h1, (h.below hb).2.1, fun k hk => by
    rcases (h2 k hk).2 with hc | hc
    · exact h.2.2 k hc
    · exact .inr (Nat.le_trans h.2.1.size hc)⟩
  refine ⟨Keep.of_below hb, h3, fun k hk => ⟨h3.lt k hk, ?_⟩⟩
  rcases hk with hk | hk
  · exact .inl (.inl hk)
  · rcases (h2 k hk).2 with hc | hc
    · exact .inl (.inr hc)
    · exact .inr hc
theorem DJ.prog {w1 w' : World} (h : DJ w0 t m room l o w l' L M o' w1) (h' : Tab t m room l'' w') (hL : l''.map (·.2) = L') (hk : Keep (TabF t m l') w1 w') (hf : ∀ k, TabF t m l'' k → TabF t m l' k ∨ w1.heap.size ≤ k) :
    Keep (TabF t m l') w1 w' ∧ (∀ k, TabF t m l' k → DG w0 t m w l' o' k) ∧ DJ w0 t m room l o w l'' L' M o' w' ∧ ∀ k, DG w0 t m w l'' o' k → k < w'.heap.size ∧ (DG w0 t m w l' o' k ∨ w1.heap.size ≤ k) := by
  obtain ⟨h1, h2⟩ := h.1.prog h' hL hk hf
  have h3 : DJ w0 t m room l o w l'' L' M o' w' := ⟨h1, h.2.1.trans' hk (fun k hlt hm => by
    rcases h.2.2 k (.inl (.inr hm)) with hc | hc
    · exact hc
    · omega), fun k hk => by
    rcases (h2 k hk).2 with hc | hc
    · exact h.2.2 k hc
    · exact .inr (Nat.le_trans h.2.1.size hc)⟩
  refine ⟨hk, fun k hk => .inr (.inl (.inr hk)), h3, fun k hk => ⟨h3.lt k hk, ?_⟩⟩
  rcases hk with hk | hk
  · exact .inl (.inl hk)
  · rcases (h2 k hk).2 with hc | hc
    · exact .inl (.inr hc)
    · exact .inr hc
end
theorem tTake_len {room : Int} {L L' : List E} {q : E} {r p b now : Int} {ok : Bool} {z : Option Int} (hroom : (L.length : Int) ≤ room) (hr : 1 ≤ room) (h : tTake room L q r p b now = (L', ok, z)) : (L'.length : Int) ≤ room := by
  unfold tTake at h
  split at h
  · cases h; exact hroom
  · split at h
    · cases h; exact hroom
    · cases h
      rw [List.length_append]
      split
      · rename_i e he
        obtain ⟨hs, i, hi, hg, _⟩ := List.find?_eq_some_iff_getElem.1 (show L.find? (same q) = some e from he)
        have hm : e ∈ L := by rw [← hg]; exact List.getElem_mem hi
        have := List.length_eraseP_of_mem hm hs
        have h0 : 0 < L.length := by omega
        simp only [List.length_cons, List.length_nil]
        omega
      · split
        · simp only [List.length_tail, List.length_cons, List.length_nil]; omega
        · simp only [List.length_cons, List.length_nil]; omega
set_option maxRecDepth 100000 in
theorem do_calls (w0 : World) (t : Nat) (m : Nat) (room : Int) (hr1 : 1 ≤ room) (hr2 : room ≤ 1024) (l : List (Nat × E)) (L : List E) (o : Option (Nat × Nat)) (hroom : (L.length : Int) ≤ room) (kd : Int) (q : E) (hq : okE q) (g : Int) (r : Int) (p : Int) (b : Int) (now : Int) (w : World) (h : DI w0 t m room l L L o w) : Calls Try.prog 9 #[pv (some t), .agg #[.int .i64 room, rowV L.length o], .agg #[.int .i64 kd, .int .i64 q.route, .int .i64 q.kind, .string q.name, .int .i64 g, .int .i64 r, .int .i64 p, .int .i64 b, .int .i64 now]] w fun e w' =>
    ∃ l' L' o', e = .returned (.tuple #[.agg #[.int .i64 room, rowV L'.length o'], .bool true]) ∧ DI w0 t m room l' L' L' o' w' ∧ (L'.length : Int) ≤ room ∧ Keep (DF w0 t m l o) w w' ∧ ∀ k, DF w0 t m l' o' k → DF w0 t m l o k ∨ w.heap.size ≤ k := by
  refine args_eq [.lit (.pointer (some ⟨t, 0, none⟩)), .agg [.lit (.int .i64 room), vecE L o], .agg [.lit (.int .i64 kd), .lit (.int .i64 q.route), .lit (.int .i64 q.kind), .lit (.string q.name), .lit (.int .i64 g), .lit (.int .i64 r), .lit (.int .i64 p), .lit (.int .i64 b), .lit (.int .i64 now)]] rfl ?_
  refine calls_rx Γok _ [] (DG w0 t m w l o) (DJ w0 t m room l o w l L L o) Try.func9 rfl (by rw [Try.ntmps9]; exact Nat.le_of_ble_eq_true rfl) (SatH.startJ _ _ h) ?_
  rw [Try.ntmps9, Try.results9]
  refine run_ok Γok (stops := [1005, 1009, 1012, 1015]) 400 _ _ _ ?_
  simp only [argsF, Nat.zero_add, vecE, rowSV, entS, Nat.reduceAdd, r_seq, r_reg, r_ops, rawOp, stopAt, memN, Nat.reduceEqDiff, ↓reduceIte, Bool.or_false, o_false, dstOk, Nat.reduceLT, gdK, stC, stpK, boxK, SV.flat, evO, getT, reduceCtorEq, oneL, SV.one, Value.oneCell', and_self, putA, St.put, List.length_nil, SV.cells, List.nil_append, List.length_cons, List.cons_append, allocK, g30, litL, pureK, rdK, kn, SV.known, r_ops_nil, f42_0, ne_eq, Nat.succ_ne_self, not_false_eq_true, Nat.add_zero, loadK, g3, getH, getL, binK, intB, intK, Int.reduceEq, r_block, r_cond, cndK, beq_iff_eq, setB, f42_1, g38, Nat.reduceLeDiff, takeL, f42_2, g40, f42_3, o_true, rawC, true_and, beq_eq_false_iff_ne, Nat.le_refl, f38_0, r_skip, r_blk_normal]
  intro b1 b2 b3
  have hlen : L.length ≤ 1024 := by omega
  refine ⟨fun _ => ?_, fun _ => ⟨fun _ => ?_, fun _ => ⟨fun _ => ?_, fun _ => ?_⟩⟩⟩
  · refine VdT.callA rfl rfl rfl Try.func15 rfl nm15 (by simp only [evL, evO, getT, Nat.reduceEqDiff, ↓reduceIte, Nat.succ_ne_self, knownL, SV.known, and_self]) (by simp only [dstOk, Nat.reduceLT]) (.tup [.lit (.int .i64 (tLeft L q r p b now).1), .lit (ev (tLeft L q r p b now).2)]) rfl (fun w1 hw1 => left_calls hw1.rs.1.1.1 hw1.rs.1.1.2.2.1 q hq g r p b now) ?_
    refine run_ok Γok (stops := [1005, 1009, 1012, 1015]) 400 _ _ _ ?_
    simp only [St.put, r_ops, rawOp, stopAt, memN, Nat.reduceEqDiff, ↓reduceIte, Bool.or_false, o_false, dstOk, Nat.reduceLT, gdK, stC, stpK, pureK, rdK, kn, SV.known, evO, getT, putA, getL, Nat.succ_ne_self, r_ops_nil, r_seq, r_reg, loadK, g30, getH, Nat.zero_add, List.length_cons, List.length_nil, Nat.reduceAdd, Nat.le_refl, takeL, f42_1, ne_eq, reduceCtorEq, not_false_eq_true, g38, Nat.reduceLeDiff, f42_2, g40, f42_3, g3, o_true, rawC, true_and]
    refine VdT.callA rfl rfl rfl Try.func21 rfl nm21 (by simp only [evL, evO, getT, Nat.reduceEqDiff, ↓reduceIte, Nat.succ_ne_self, knownL, SV.known, and_self]) (by simp only [dstOk, Nat.reduceLT]) (.tup [.lit (.int .i64 (tLeft L q r p b now).1), .lit (.int .i64 (numE (tLeft L q r p b now).2))]) rfl (fun w1 hw1 => (by have hrow := hw1.rs.1.2.1; have := r22left_calls room hr1 q L o hrow.nil hlen g r p b now w1 (RowE.own hrow); rw [slV_row _ _ hrow.nil] at this; exact this)) ?_
    refine run_ok Γok (stops := [1005, 1009, 1012, 1015]) 400 _ _ _ ?_
    simp only [St.put, r_ops, rawOp, stopAt, memN, Nat.reduceEqDiff, ↓reduceIte, Bool.or_false, o_false, dstOk, Nat.reduceLT, gdK, stC, stpK, pureK, rdK, kn, SV.known, evO, getT, putA, getL, Nat.succ_ne_self, r_ops_nil, r_seq, r_regd, calmN, calmOp, Bool.not_false, Bool.and_true, Bool.not_true, Nat.zero_add, Nat.reduceAdd, List.length_cons, List.length_nil, Nat.reduceBEq, List.drop_succ_cons, List.drop_zero, plainL, d_stop, true_and]
    refine VdT.regIn Γok (SatH ⟨0, [], [(b1, .cells [.lit (.int .i64 room), vecE L o] 30), (b2, .cells [.lit (.int .i64 kd), .lit (.int .i64 q.route), .lit (.int .i64 q.kind), .lit (.string q.name), .lit (.int .i64 g), .lit (.int .i64 r), .lit (.int .i64 p), .lit (.int .i64 b), .lit (.int .i64 now)] 42), (b3, .unk)], fun _ => False, fun _ => True⟩) (NoPanic.ends' _ _ _) ?_
    refine VdT.regGo Γok [0, 1, 2, 3, 4, 5, 7] [6] (by unfold LexC; kernel_rfl) (NoPanic.ends' _ _ _) (fun _ hw => hw.c0 (by repeat' first | exact trivial | rfl | refine And.intro ?_ ?_)) ?_
    simp only [List.length_cons, List.length_nil, Nat.zero_add, Nat.reduceAdd, pickO, nthO, vecE, rowSV, entS, revA, h_cons, dstOk, Nat.reduceLT, gdK, pureC, pureK, rdK, loadK, g30, evO, getT, Nat.reduceEqDiff, ↓reduceIte, Nat.succ_ne_self, getH, Nat.le_refl, putA, St.put, takeL, kn, SV.known, binK, intB, intK, beq_self_eq_true, dstAt, gdvK, wantK, h_zero, contK, contO, and_true, true_and, forall_const, Bool.true_eq_false, skC, forall_false]
    refine run_ok Γok (stops := []) 400 _ _ _ ?_
    simp only [r_ops, rawOp, stopAt, memN, Bool.or_false, o_true, dstOk, Nat.reduceLT, gdK, dstAt, gdvK, getT, Nat.reduceEqDiff, ↓reduceIte, Nat.succ_ne_self, wantK, rawC, true_and]
    refine VdT.callA rfl rfl rfl Try.func7 rfl nm7 (by simp only [evL, evO, getT, Nat.reduceEqDiff, ↓reduceIte, knownL, SV.known, and_self]) (by simp only [dstOk, Nat.reduceLT]) (.lit (.int .i64 (numE (tLeft L q r p b now).2))) rfl (fun w1 hw1 => num_ev' _ w1) ?_
    refine run_ok Γok (stops := []) 400 _ _ _ ?_
    simp only [St.put, r_ops_nil, r_chk, r_rg]
    refine And.intro (fun _ hw => hw.c0 (by repeat' first | exact trivial | rfl | refine And.intro ?_ ?_)) ?_
    refine VdT.regGo Γok [8, 9] [10] (by unfold LexC; kernel_rfl) (NoPanic.ends' _ _ _) (fun _ hw => hw.c0 (by repeat' first | exact trivial | rfl | refine And.intro ?_ ?_)) ?_
    simp only [List.length_cons, List.length_nil, Nat.zero_add, Nat.reduceAdd, pickO, nthO, revA, h_cons, dstOk, Nat.reduceLT, gdK, dstAt, gdvK, getT, Nat.reduceEqDiff, ↓reduceIte, Nat.succ_ne_self, wantK, pureC, pureK, rdK, binK, evO, intB, intK, putA, St.put, beq_self_eq_true, pickK, kn, SV.known, selB, h_zero, contK, contO, and_true, true_and]
    refine run_ok Γok (stops := []) 400 _ _ _ ?_
    simp only [r_ops, rawOp, stopAt, Bool.or_false, o_false, dstOk, gdK, stC, stpK, storeK, g30, evO, getT, Nat.reduceEqDiff, ↓reduceIte, Nat.succ_ne_self, getH, SV.flat, oneL, SV.one, Value.oneCell', and_self, SV.cells, List.length_cons, List.length_nil, Nat.zero_add, Nat.reduceAdd, Nat.le_refl, putS, St.put, setH, putL, r_ops_nil, r_chk, r_rg, true_and]
    refine And.intro (fun _ hw => hw.c0 (by repeat' first | exact trivial | rfl | refine And.intro ?_ ?_)) ?_
    refine VdT.regGo Γok [] [11] (by unfold LexC; kernel_rfl) (NoPanic.ends' _ _ _) (fun _ hw => hw.c0 (by repeat' first | exact trivial | rfl | refine And.intro ?_ ?_)) ?_
    simp only [List.length_nil, pickO, revA, h_zero, contK, contO, nthO, and_true]
    refine run_ok Γok (stops := []) 400 _ _ _ ?_
    simp only [r_ops, rawOp, stopAt, memN, Bool.or_false, o_false, dstOk, Nat.reduceLT, gdK, stC, stpK, pureK, rdK, kn, SV.known, evO, getT, ↓reduceIte, putA, St.put, r_ops_nil, r_chk, r_rg, true_and]
    refine And.intro (fun _ hw => hw.c0 (by repeat' first | exact trivial | rfl | refine And.intro ?_ ?_)) ?_
    refine VdT.regGo Γok [] [] (by unfold LexC; kernel_rfl) (NoPanic.ends' _ _ _) (fun _ hw => hw.c0 (by repeat' first | exact trivial | rfl | refine And.intro ?_ ?_)) ?_
    simp only [List.length_nil, pickO, revA, h_zero, contK]
    refine run_ok Γok (stops := []) 400 _ _ _ ?_
    simp only [r_ret, r_blk_ret, r_code_ret, r_nil, RX.Ends, retK, resvK, loadK, g30, evO, getT, Nat.succ_ne_self, ↓reduceIte, Nat.reduceEqDiff, getH, Nat.zero_add, List.length_cons, List.length_nil, Nat.reduceAdd, Nat.le_refl, kn, SV.known, oneTup, SV.den, denL, takeL, rowV_eq, true_and]
    intro w' hw
    exact ⟨l, L, o, rfl, hw.rs.1, hroom, hw.rs.2⟩
  · refine VdT.callA rfl rfl rfl Try.func16 rfl nm16 (by simp only [evL, evO, getT, Nat.reduceEqDiff, ↓reduceIte, Nat.succ_ne_self, knownL, SV.known, and_self]) (by simp only [dstOk, Nat.reduceLT]) (.tup [.lit (.int .i64 (tWait L q r p b now).1), .lit (ev (tWait L q r p b now).2)]) rfl (fun w1 hw1 => wait_calls hw1.rs.1.1.1 hw1.rs.1.1.2.2.1 q hq g r p b now) ?_
    refine run_ok Γok (stops := [1005, 1009, 1012, 1015]) 400 _ _ _ ?_
    simp only [St.put, r_ops, rawOp, stopAt, memN, Nat.reduceEqDiff, ↓reduceIte, Bool.or_false, o_false, dstOk, Nat.reduceLT, gdK, stC, stpK, pureK, rdK, kn, SV.known, evO, getT, putA, getL, Nat.succ_ne_self, r_ops_nil, r_seq, r_reg, loadK, g30, getH, Nat.zero_add, List.length_cons, List.length_nil, Nat.reduceAdd, Nat.le_refl, takeL, f42_1, ne_eq, reduceCtorEq, not_false_eq_true, g38, Nat.reduceLeDiff, f42_2, g40, f42_3, g3, o_true, rawC, true_and]
    refine VdT.callA rfl rfl rfl Try.func22 rfl nm22 (by simp only [evL, evO, getT, Nat.reduceEqDiff, ↓reduceIte, Nat.succ_ne_self, knownL, SV.known, and_self]) (by simp only [dstOk, Nat.reduceLT]) (.tup [.lit (.int .i64 (tWait L q r p b now).1), .lit (.int .i64 (numE (tWait L q r p b now).2))]) rfl (fun w1 hw1 => (by have hrow := hw1.rs.1.2.1; have := r22wait_calls room hr1 q L o hrow.nil hlen g r p b now w1 (RowE.own hrow); rw [slV_row _ _ hrow.nil] at this; exact this)) ?_
    refine run_ok Γok (stops := [1005, 1009, 1012, 1015]) 400 _ _ _ ?_
    simp only [St.put, r_ops, rawOp, stopAt, memN, Nat.reduceEqDiff, ↓reduceIte, Bool.or_false, o_false, dstOk, Nat.reduceLT, gdK, stC, stpK, pureK, rdK, kn, SV.known, evO, getT, putA, getL, Nat.succ_ne_self, r_ops_nil, r_seq, r_regd, calmN, calmOp, Bool.not_false, Bool.and_true, Bool.not_true, Nat.zero_add, Nat.reduceAdd, List.length_cons, List.length_nil, Nat.reduceBEq, List.drop_succ_cons, List.drop_zero, plainL, d_stop, true_and]
    refine VdT.regIn Γok (SatH ⟨0, [], [(b1, .cells [.lit (.int .i64 room), vecE L o] 30), (b2, .cells [.lit (.int .i64 kd), .lit (.int .i64 q.route), .lit (.int .i64 q.kind), .lit (.string q.name), .lit (.int .i64 g), .lit (.int .i64 r), .lit (.int .i64 p), .lit (.int .i64 b), .lit (.int .i64 now)] 42), (b3, .unk)], fun _ => False, fun _ => True⟩) (NoPanic.ends' _ _ _) ?_
    refine VdT.regGo Γok [0, 1, 2, 3, 4, 5, 7] [6] (by unfold LexC; kernel_rfl) (NoPanic.ends' _ _ _) (fun _ hw => hw.c0 (by repeat' first | exact trivial | rfl | refine And.intro ?_ ?_)) ?_
    simp only [List.length_cons, List.length_nil, Nat.zero_add, Nat.reduceAdd, pickO, nthO, vecE, rowSV, entS, revA, h_cons, dstOk, Nat.reduceLT, gdK, pureC, pureK, rdK, loadK, g30, evO, getT, Nat.reduceEqDiff, ↓reduceIte, Nat.succ_ne_self, getH, Nat.le_refl, putA, St.put, takeL, kn, SV.known, binK, intB, intK, beq_self_eq_true, dstAt, gdvK, wantK, h_zero, contK, contO, and_true, true_and, forall_const, Bool.true_eq_false, skC, forall_false]
    refine run_ok Γok (stops := []) 400 _ _ _ ?_
    simp only [r_ops, rawOp, stopAt, memN, Bool.or_false, o_true, dstOk, Nat.reduceLT, gdK, dstAt, gdvK, getT, Nat.reduceEqDiff, ↓reduceIte, Nat.succ_ne_self, wantK, rawC, true_and]
    refine VdT.callA rfl rfl rfl Try.func7 rfl nm7 (by simp only [evL, evO, getT, Nat.reduceEqDiff, ↓reduceIte, knownL, SV.known, and_self]) (by simp only [dstOk, Nat.reduceLT]) (.lit (.int .i64 (numE (tWait L q r p b now).2))) rfl (fun w1 hw1 => num_ev' _ w1) ?_
    refine run_ok Γok (stops := []) 400 _ _ _ ?_
    simp only [St.put, r_ops_nil, r_chk, r_rg]
    refine And.intro (fun _ hw => hw.c0 (by repeat' first | exact trivial | rfl | refine And.intro ?_ ?_)) ?_
    refine VdT.regGo Γok [8, 9] [10] (by unfold LexC; kernel_rfl) (NoPanic.ends' _ _ _) (fun _ hw => hw.c0 (by repeat' first | exact trivial | rfl | refine And.intro ?_ ?_)) ?_
    simp only [List.length_cons, List.length_nil, Nat.zero_add, Nat.reduceAdd, pickO, nthO, revA, h_cons, dstOk, Nat.reduceLT, gdK, dstAt, gdvK, getT, Nat.reduceEqDiff, ↓reduceIte, Nat.succ_ne_self, wantK, pureC, pureK, rdK, binK, evO, intB, intK, putA, St.put, beq_self_eq_true, pickK, kn, SV.known, selB, h_zero, contK, contO, and_true, true_and]
    refine run_ok Γok (stops := []) 400 _ _ _ ?_
    simp only [r_ops, rawOp, stopAt, Bool.or_false, o_false, dstOk, gdK, stC, stpK, storeK, g30, evO, getT, Nat.reduceEqDiff, ↓reduceIte, Nat.succ_ne_self, getH, SV.flat, oneL, SV.one, Value.oneCell', and_self, SV.cells, List.length_cons, List.length_nil, Nat.zero_add, Nat.reduceAdd, Nat.le_refl, putS, St.put, setH, putL, r_ops_nil, r_chk, r_rg, true_and]
    refine And.intro (fun _ hw => hw.c0 (by repeat' first | exact trivial | rfl | refine And.intro ?_ ?_)) ?_
    refine VdT.regGo Γok [] [11] (by unfold LexC; kernel_rfl) (NoPanic.ends' _ _ _) (fun _ hw => hw.c0 (by repeat' first | exact trivial | rfl | refine And.intro ?_ ?_)) ?_
    simp only [List.length_nil, pickO, revA, h_zero, contK, contO, nthO, and_true]
    refine run_ok Γok (stops := []) 400 _ _ _ ?_
    simp only [r_ops, rawOp, stopAt, memN, Bool.or_false, o_false, dstOk, Nat.reduceLT, gdK, stC, stpK, pureK, rdK, kn, SV.known, evO, getT, ↓reduceIte, putA, St.put, r_ops_nil, r_chk, r_rg, true_and]
    refine And.intro (fun _ hw => hw.c0 (by repeat' first | exact trivial | rfl | refine And.intro ?_ ?_)) ?_
    refine VdT.regGo Γok [] [] (by unfold LexC; kernel_rfl) (NoPanic.ends' _ _ _) (fun _ hw => hw.c0 (by repeat' first | exact trivial | rfl | refine And.intro ?_ ?_)) ?_
    simp only [List.length_nil, pickO, revA, h_zero, contK]
    refine run_ok Γok (stops := []) 400 _ _ _ ?_
    simp only [r_ret, r_blk_ret, r_code_ret, r_nil, RX.Ends, retK, resvK, loadK, g30, evO, getT, Nat.succ_ne_self, ↓reduceIte, Nat.reduceEqDiff, getH, Nat.zero_add, List.length_cons, List.length_nil, Nat.reduceAdd, Nat.le_refl, kn, SV.known, oneTup, SV.den, denL, takeL, rowV_eq, true_and]
    intro w' hw
    exact ⟨l, L, o, rfl, hw.rs.1, hroom, hw.rs.2⟩
  · refine VdT.callR rfl rfl rfl Try.func23 rfl nm23 (by simp only [evL, evO, getT, Nat.reduceEqDiff, ↓reduceIte, Nat.succ_ne_self, knownL, SV.known, and_self]) (by simp only [dstOk, Nat.reduceLT]) (fun o' : Option (Nat × Nat) => .tup [.agg [.lit (.int .i64 room), vecE (L.filter fun e => e.route != q.route) o'], .lit (.int .i64 (L.length - (L.filter fun e => e.route != q.route).length))]) (fun o' => DG w0 t m w l o') (fun o' => DJ w0 t m room l o w l L (L.filter fun e => e.route != q.route) o') (fun w1 hw1 => ?d1) ?_
    case d1 =>
      refine (r22drop_calls room hr1 L o hlen w1 hw1.rs.1.2.1 q.route).mono ?_
      rintro e w' ⟨o', he, hb, hrow, hf⟩
      obtain ⟨k1, k2, k3⟩ := DJ.ref hw1.rs hb hrow (.inr hf)
      exact ⟨o', _, he, rfl, k1, fun k hk => hk.elim, k2, k3, DJ.dep⟩
    intro o'
    refine run_ok Γok (stops := [1005, 1009, 1012, 1015]) 400 _ _ _ ?_
    simp only [St.put, vecE, rowSV, entS, r_ops, rawOp, stopAt, memN, Nat.reduceEqDiff, ↓reduceIte, Bool.or_false, o_false, dstOk, Nat.reduceLT, gdK, stC, stpK, pureK, rdK, kn, SV.known, evO, getT, putA, getL, allocK, g30, List.length_cons, List.length_nil, Nat.zero_add, Nat.reduceAdd, litL, List.cons_append, List.nil_append, storeK, getH, SV.flat, Nat.succ_ne_self, oneL, SV.one, Value.oneCell', and_self, SV.cells, Nat.le_refl, putS, setH, putL, r_ops_nil, r_seq, r_regd, calmN, calmOp, Bool.not_false, Bool.and_true, Bool.not_true, Nat.reduceBEq, List.drop_succ_cons, List.drop_zero, plainL, d_stop, true_and]
    intro b4
    refine VdT.regIn Γok (SatH ⟨0, [], [(b1, .cells [.lit (.int .i64 room), vecE L o] 30), (b2, .cells [.lit (.int .i64 kd), .lit (.int .i64 q.route), .lit (.int .i64 q.kind), .lit (.string q.name), .lit (.int .i64 g), .lit (.int .i64 r), .lit (.int .i64 p), .lit (.int .i64 b), .lit (.int .i64 now)] 42), (b3, .unk), (b4, .cells [.lit (.int .i64 room), vecE (L.filter fun e => e.route != q.route) o'] 30)], fun _ => False, fun _ => True⟩) (NoPanic.ends' _ _ _) ?_
    refine VdT.regGo Γok [0, 1, 2, 3, 4, 6] [5] (by unfold LexC; kernel_rfl) (NoPanic.ends' _ _ _) (fun _ hw => hw.c0 (by repeat' first | exact trivial | rfl | refine And.intro ?_ ?_)) ?_
    simp only [List.length_cons, List.length_nil, Nat.zero_add, Nat.reduceAdd, pickO, nthO, vecE, rowSV, entS, revA, h_cons, dstOk, Nat.reduceLT, gdK, pureC, pureK, rdK, loadK, g30, evO, getT, Nat.succ_ne_self, ↓reduceIte, getH, Nat.le_refl, putA, St.put, takeL, kn, SV.known, reduceCtorEq, f42_1, ne_eq, not_false_eq_true, Nat.reduceEqDiff, f38_0, Nat.add_zero, g3, getL, h_zero, contK, contO, and_true, true_and]
    refine run_ok Γok (stops := []) 400 _ _ _ ?_
    simp only [r_ops, rawOp, stopAt, memN, Bool.or_false, o_true, dstOk, Nat.reduceLT, gdK, rawC, true_and]
    refine VdT.callR rfl rfl rfl Try.func18 rfl nm18 (by simp only [evL, evO, getT, Nat.reduceEqDiff, ↓reduceIte, Nat.succ_ne_self, knownL, SV.known, and_self]) (by simp only [dstOk, Nat.reduceLT]) (fun l' : List (Nat × E) => .lit (.int .i64 (L.length - (L.filter fun e => e.route != q.route).length))) (fun l' => DG w0 t m w l' o') (fun l' => DJ w0 t m room l o w l' (L.filter fun e => e.route != q.route) (L.filter fun e => e.route != q.route) o') (fun w1 hw1 => ?d2) ?_
    case d2 =>
      have hL : l.map (·.2) = L := hw1.rs.1.1.2.2.1
      have hll : l.length = L.length := by rw [← hL]; simp
      refine (drop_calls q.route hw1.rs.1.1.1 hL (by omega)).mono ?_
      rintro e w' ⟨he, hT, hk⟩
      have hL' : (l.filter fun x => x.2.route != q.route).map (·.2) = L.filter fun e => e.route != q.route := by
        rw [← hL, List.filter_map]; rfl
      obtain ⟨k1, k2, k3, k4⟩ := DJ.prog hw1.rs hT hL' hk (fun k hk => .inl (by
        rcases hk with hk | hk | hk
        · exact .inl hk
        · exact .inr (.inl hk)
        · exact .inr (.inr (by obtain ⟨y, hy, rfl⟩ := List.mem_map.1 hk; exact List.mem_map.2 ⟨y, (List.mem_filter.1 hy).1, rfl⟩))))
      refine ⟨_, _, ?_, rfl, k1, k2, k3, k4, DJ.dep⟩
      rw [he]
      have hg : (gone l q.route l.length : Int) = L.length - (L.filter fun e => e.route != q.route).length := by
        have h1 : (L.filter fun e => e.route != q.route).length = (l.filter fun x => x.2.route != q.route).length := by rw [← hL']; simp
        have h2 := filter_len (fun x : Nat × E => x.2.route == q.route) l
        simp only [gone, List.take_length]
        rw [h1, ← hll]
        have h3 : (l.filter fun x => x.2.route != q.route).length = (l.filter fun x => !(x.2.route == q.route)).length := rfl
        omega
      rw [hg]
      rfl
    intro l'
    refine run_ok Γok (stops := []) 400 _ _ _ ?_
    simp only [St.put, r_ops_nil, r_chk, r_rg]
    refine And.intro (fun _ hw => hw.c0 (by repeat' first | exact trivial | rfl | refine And.intro ?_ ?_)) ?_
    refine VdT.regGo Γok [7] [8] (by unfold LexC; kernel_rfl) (NoPanic.ends' _ _ _) (fun _ hw => hw.c0 (by repeat' first | exact trivial | rfl | refine And.intro ?_ ?_)) ?_
    simp only [List.length_cons, List.length_nil, Nat.zero_add, pickO, nthO, revA, h_cons, dstOk, Nat.reduceLT, gdK, pureC, pureK, rdK, binK, evO, getT, ↓reduceIte, Nat.reduceEqDiff, intB, intK, putA, St.put, beq_self_eq_true, h_zero, contK, contO, and_true, true_and]
    refine run_ok Γok (stops := []) 400 _ _ _ ?_
    simp only [r_ops, rawOp, stopAt, Bool.or_false, o_false, dstOk, gdK, stC, stpK, storeK, g30, evO, getT, Nat.reduceEqDiff, ↓reduceIte, Nat.succ_ne_self, getH, SV.flat, oneL, SV.one, Value.oneCell', and_self, SV.cells, List.length_cons, List.length_nil, Nat.zero_add, Nat.reduceAdd, Nat.le_refl, putS, St.put, setH, putL, r_ops_nil, r_chk, r_rg, true_and]
    refine And.intro (fun _ hw => hw.c0 (by repeat' first | exact trivial | rfl | refine And.intro ?_ ?_)) ?_
    refine VdT.regGo Γok [] [9] (by unfold LexC; kernel_rfl) (NoPanic.ends' _ _ _) (fun _ hw => hw.c0 (by repeat' first | exact trivial | rfl | refine And.intro ?_ ?_)) ?_
    simp only [List.length_nil, pickO, revA, h_zero, contK, contO, nthO, and_true]
    refine run_ok Γok (stops := []) 400 _ _ _ ?_
    simp only [r_ops, rawOp, stopAt, memN, Bool.or_false, o_false, dstOk, Nat.reduceLT, gdK, stC, stpK, pureK, rdK, kn, SV.known, evO, getT, ↓reduceIte, putA, St.put, r_ops_nil, r_chk, r_rg, true_and]
    refine And.intro (fun _ hw => hw.c0 (by repeat' first | exact trivial | rfl | refine And.intro ?_ ?_)) ?_
    refine VdT.regGo Γok [] [] (by unfold LexC; kernel_rfl) (NoPanic.ends' _ _ _) (fun _ hw => hw.c0 (by repeat' first | exact trivial | rfl | refine And.intro ?_ ?_)) ?_
    simp only [List.length_nil, pickO, revA, h_zero, contK]
    refine run_ok Γok (stops := []) 400 _ _ _ ?_
    simp only [r_ret, r_blk_ret, r_code_ret, r_nil, RX.Ends, retK, resvK, loadK, g30, evO, getT, Nat.succ_ne_self, ↓reduceIte, Nat.reduceEqDiff, getH, Nat.zero_add, List.length_cons, List.length_nil, Nat.reduceAdd, Nat.le_refl, kn, SV.known, oneTup, SV.den, denL, takeL, rowV_eq, true_and]
    intro w' hw
    refine ⟨l', _, o', rfl, hw.rs.1, ?_, hw.rs.2⟩
    have := List.length_filter_le (fun e : E => e.route != q.route) L
    omega
  · obtain ⟨⟨L', ok, z⟩, hT⟩ : ∃ x, tTake room L q r p b now = x := ⟨_, rfl⟩
    refine VdT.callR rfl rfl rfl Try.func24 rfl nm24 (by simp only [evL, evO, getT, Nat.reduceEqDiff, ↓reduceIte, Nat.succ_ne_self, knownL, SV.known, and_self]) (by simp only [dstOk, Nat.reduceLT]) (fun o' : Option (Nat × Nat) => .tup [.agg [.lit (.int .i64 room), vecE L' o'], .lit (.bool ok), .lit (.int .i64 (numE z))]) (fun o' => DG w0 t m w l o') (fun o' => DJ w0 t m room l o w l L L' o') (fun w1 hw1 => ?e1) ?_
    case e1 =>
      refine (r22take_calls room hr1 q L o hlen g r p b now w1 hw1.rs.1.2.1 hroom hT).mono ?_
      rintro e w' ⟨o', he, hb, hrow, hf⟩
      obtain ⟨k1, k2, k3⟩ := DJ.ref hw1.rs hb hrow hf
      exact ⟨o', _, he, rfl, k1, fun k hk => hk.elim, k2, k3, DJ.dep⟩
    intro o'
    refine run_ok Γok (stops := [1005, 1009, 1012, 1015]) 400 _ _ _ ?_
    simp only [St.put, vecE, rowSV, entS, r_ops, rawOp, stopAt, memN, Nat.reduceEqDiff, ↓reduceIte, Bool.or_false, o_false, dstOk, Nat.reduceLT, gdK, stC, stpK, pureK, rdK, kn, SV.known, evO, getT, putA, getL, allocK, g30, List.length_cons, List.length_nil, Nat.zero_add, Nat.reduceAdd, litL, List.cons_append, List.nil_append, storeK, getH, SV.flat, Nat.succ_ne_self, oneL, SV.one, Value.oneCell', and_self, SV.cells, Nat.le_refl, putS, setH, putL, r_ops_nil, r_seq, r_reg, reduceCtorEq, f42_1, ne_eq, not_false_eq_true, loadK, g38, Nat.reduceLeDiff, takeL, f42_2, g40, f42_3, g3, o_true, rawC, true_and]
    intro b4
    refine VdT.callR rfl rfl rfl Try.func14 rfl nm14 (by simp only [evL, evO, getT, Nat.reduceEqDiff, ↓reduceIte, Nat.succ_ne_self, knownL, SV.known, and_self]) (by simp only [dstOk, Nat.reduceLT]) (fun l' : List (Nat × E) => .tup [.lit (.bool ok), .lit (ev z)]) (fun l' => DG w0 t m w l' o') (fun l' => DJ w0 t m room l o w l' L' L' o') (fun w1 hw1 => ?e2) ?_
    case e2 =>
      refine (take_calls hw1.rs.1.1.1 hw1.rs.1.1.2.2.1 q hq hr1 g r p b now).mono ?_
      rintro e w' ⟨he, l', hL', hTab, hk, hf⟩
      rw [hT] at he hL'
      obtain ⟨k1, k2, k3, k4⟩ := DJ.prog hw1.rs hTab hL' hk hf
      exact ⟨l', _, he, rfl, k1, k2, k3, k4, DJ.dep⟩
    intro l'
    refine run_ok Γok (stops := [1005, 1009, 1012, 1015]) 400 _ _ _ ?_
    simp only [St.put, r_ops, rawOp, stopAt, memN, Nat.reduceEqDiff, ↓reduceIte, Bool.or_false, o_false, dstOk, Nat.reduceLT, gdK, stC, stpK, pureK, rdK, kn, SV.known, evO, getT, putA, getL, Nat.succ_ne_self, r_ops_nil, r_seq, r_regd, calmN, calmOp, Bool.not_false, Bool.and_true, Bool.not_true, Nat.zero_add, Nat.reduceAdd, List.length_cons, List.length_nil, Nat.reduceBEq, List.drop_succ_cons, List.drop_zero, plainL, d_stop, true_and]
    refine VdT.regIn Γok (SatH ⟨0, [], [(b1, .cells [.lit (.int .i64 room), vecE L o] 30), (b2, .cells [.lit (.int .i64 kd), .lit (.int .i64 q.route), .lit (.int .i64 q.kind), .lit (.string q.name), .lit (.int .i64 g), .lit (.int .i64 r), .lit (.int .i64 p), .lit (.int .i64 b), .lit (.int .i64 now)] 42), (b3, .unk), (b4, .cells [.lit (.int .i64 room), vecE L' o'] 30)], fun _ => False, fun _ => True⟩) (NoPanic.ends' _ _ _) ?_
    refine VdT.regGo Γok [0, 1, 2, 3, 4, 5, 7] [6] (by unfold LexC; kernel_rfl) (NoPanic.ends' _ _ _) (fun _ hw => hw.c0 (by repeat' first | exact trivial | rfl | refine And.intro ?_ ?_)) ?_
    simp only [List.length_cons, List.length_nil, Nat.zero_add, Nat.reduceAdd, pickO, nthO, vecE, rowSV, entS, revA, h_cons, dstOk, Nat.reduceLT, gdK, pureC, pureK, rdK, loadK, g30, evO, getT, Nat.reduceEqDiff, ↓reduceIte, Nat.succ_ne_self, getH, Nat.le_refl, putA, St.put, takeL, kn, SV.known, binK, g4, nilS, fb2, SV.den, forall_const, dstAt, gdvK, wantK, h_zero, contK, contO, and_true, true_and, skC]
    refine ⟨.lit (.bool (ok == ok)), rfl, fun w1 => eqB2 _ _ 4 (by kernel_rfl) ok ok w1, ?_⟩
    simp only [beq_self_eq_true, true_and]
    refine run_ok Γok (stops := []) 400 _ _ _ ?_
    simp only [r_ops, rawOp, stopAt, memN, Bool.or_false, o_true, dstOk, Nat.reduceLT, gdK, dstAt, gdvK, getT, Nat.reduceEqDiff, ↓reduceIte, Nat.succ_ne_self, wantK, rawC, true_and]
    refine VdT.callA rfl rfl rfl Try.func7 rfl nm7 (by simp only [evL, evO, getT, Nat.reduceEqDiff, ↓reduceIte, knownL, SV.known, and_self]) (by simp only [dstOk, Nat.reduceLT]) (.lit (.int .i64 (numE z))) rfl (fun w1 hw1 => num_ev' _ w1) ?_
    refine run_ok Γok (stops := []) 400 _ _ _ ?_
    simp only [St.put, r_ops_nil, r_chk, r_rg]
    refine And.intro (fun _ hw => hw.c0 (by repeat' first | exact trivial | rfl | refine And.intro ?_ ?_)) ?_
    refine VdT.regGo Γok [8, 9] [10] (by unfold LexC; kernel_rfl) (NoPanic.ends' _ _ _) (fun _ hw => hw.c0 (by repeat' first | exact trivial | rfl | refine And.intro ?_ ?_)) ?_
    simp only [List.length_cons, List.length_nil, Nat.zero_add, Nat.reduceAdd, pickO, nthO, revA, h_cons, dstOk, Nat.reduceLT, gdK, dstAt, gdvK, getT, Nat.reduceEqDiff, ↓reduceIte, Nat.succ_ne_self, wantK, pureC, pureK, rdK, binK, evO, intB, intK, putA, St.put, beq_self_eq_true, Nat.lt_add_one, pickK, kn, SV.known, selB, h_zero, contK, contO, and_true, true_and]
    refine run_ok Γok (stops := []) 400 _ _ _ ?_
    simp only [r_ops, rawOp, stopAt, Bool.or_false, o_false, dstOk, gdK, stC, stpK, storeK, g30, evO, getT, Nat.reduceEqDiff, ↓reduceIte, Nat.succ_ne_self, getH, SV.flat, oneL, SV.one, Value.oneCell', and_self, SV.cells, List.length_cons, List.length_nil, Nat.zero_add, Nat.reduceAdd, Nat.le_refl, putS, St.put, setH, putL, r_ops_nil, r_chk, r_rg, true_and]
    refine And.intro (fun _ hw => hw.c0 (by repeat' first | exact trivial | rfl | refine And.intro ?_ ?_)) ?_
    refine VdT.regGo Γok [] [11] (by unfold LexC; kernel_rfl) (NoPanic.ends' _ _ _) (fun _ hw => hw.c0 (by repeat' first | exact trivial | rfl | refine And.intro ?_ ?_)) ?_
    simp only [List.length_nil, pickO, revA, h_zero, contK, contO, nthO, and_true]
    refine run_ok Γok (stops := []) 400 _ _ _ ?_
    simp only [r_ops, rawOp, stopAt, memN, Bool.or_false, o_false, dstOk, Nat.reduceLT, gdK, stC, stpK, pureK, rdK, kn, SV.known, evO, getT, ↓reduceIte, putA, St.put, r_ops_nil, r_chk, r_rg, true_and]
    refine And.intro (fun _ hw => hw.c0 (by repeat' first | exact trivial | rfl | refine And.intro ?_ ?_)) ?_
    refine VdT.regGo Γok [] [] (by unfold LexC; kernel_rfl) (NoPanic.ends' _ _ _) (fun _ hw => hw.c0 (by repeat' first | exact trivial | rfl | refine And.intro ?_ ?_)) ?_
    simp only [List.length_nil, pickO, revA, h_zero, contK]
    refine run_ok Γok (stops := []) 400 _ _ _ ?_
    simp only [r_ret, r_nil, RX.Ends, retK, resvK, loadK, g30, evO, getT, Nat.succ_ne_self, ↓reduceIte, Nat.reduceEqDiff, getH, Nat.zero_add, List.length_cons, List.length_nil, Nat.reduceAdd, Nat.le_refl, kn, SV.known, oneTup, SV.den, denL, takeL, rowV_eq, true_and]
    intro w' hw
    exact ⟨l', L', o', rfl, hw.rs.1, tTake_len hroom hr1 hT, hw.rs.2⟩
