import Derived.Test.YtoplidleecbdeaaT11
set_option linter.unusedVariables false
set_option linter.unusedSimpArgs false
namespace Go.Proofs.Ytoplidleecbdeaa
open Go Go.RowKit Go.Proofs.RX Go.Maps Go.ChangeMaps
theorem run_min2 (P : Program) (ts : Array TypeId) (t : TypeId) (k : IntKind) (x y : Int) (w : World) : (Builtin.min_ ts t #[.int k x, .int k y]).run P w = .ok (.int k (if y < x then y else x)) w := by
  simp [Builtin.min_, Builtin.min2]
theorem bmin {P : Program} {k : List It} {s : St} {K : Exit → St → Prop} {all r : List Oper} {o : Oper} {X Y : Operand} {ts : Array TypeId} {kd : IntKind} {x y : Int} (hop : o.op = .call { callee := .builtin .min, args := #[X, Y], argTypes := ts }) (hg : o.guard = none) (hd : dstOk s o.dst)
    (hX : evO s X = .lit (.int kd x)) (hY : evO s Y = .lit (.int kd y)) (h : VdT P (.ops all r :: k) .normal (s.put o.dst (.lit (.int kd (if y < x then y else x)))) K) : VdT P (.ops all (o :: r) :: k) .normal s K :=
  VdT.val hg hd rfl (fun o' a w ho' hs => by
    have eX := ev_ok hs X (by rw [hX]; rfl)
    have eY := ev_ok hs Y (by rw [hY]; rfl)
    rw [hX] at eX
    rw [hY] at eY
    simp only [SV.den] at eX eY
    rw [hop] at ho'
    have := run_min2 P ts o'.type kd x y w
    simp only [execOp, ho', resolve, invoke, builtin, Sem.run_bind, Sem.run_pure, Result.andThen_ok, List.map_toArray, List.map_cons, List.map_nil, eX, eY, this, SV.den]) h
theorem rCheck_fill (pt at_ r p b now : Int) : rCheck pt at_ r p b now = numE (bFill pt at_ r p b now).2.2 := by
  unfold rCheck bFill
  by_cases hb : bOk r p b
  · by_cases ht : okT now
    · by_cases h3 : pt < 0 ∨ b * p < pt ∨ ¬ okT at_
      · have h3' : pt < 0 ∨ b * p < pt ∨ ¬ okT at_ ∨ ¬ okT now := by rcases h3 with h | h | h; exact .inl h; exact .inr (.inl h); exact .inr (.inr (.inl h))
        rw [if_neg (by simpa using hb), if_pos h3', if_neg (by simpa using hb), if_neg (by simpa using ht), if_pos h3]
        rfl
      · have h3' : ¬ (pt < 0 ∨ b * p < pt ∨ ¬ okT at_ ∨ ¬ okT now) := by
          rintro (h | h | h | h)
          · exact h3 (.inl h)
          · exact h3 (.inr (.inl h))
          · exact h3 (.inr (.inr h))
          · exact h ht
        rw [if_neg (by simpa using hb), if_neg h3', if_neg (by simpa using hb), if_neg (by simpa using ht), if_neg h3]
        split
        · rfl
        · split <;> rfl
    · rw [if_neg (by simpa using hb), if_pos (.inr (.inr (.inr ht))), if_neg (by simpa using hb), if_pos ht]
      rfl
  · rw [if_pos hb, if_pos hb]
    rfl
theorem fill_pre {pt at_ r p b now x y : Int} (h : bFill pt at_ r p b now = (x, y, none)) : bOk r p b ∧ okT now ∧ 0 ≤ pt ∧ pt ≤ b * p ∧ okT at_ ∧ (¬ at_ < now → x = pt ∧ y = at_) ∧ (at_ < now → y = now ∧ x = if b * p < pt + (now - at_) * r then b * p else pt + (now - at_) * r) := by
  unfold bFill at h
  split at h
  · simp at h
  · rename_i hb
    split at h
    · simp at h
    · rename_i ht
      split at h
      · simp at h
      · rename_i h3
        have hb' : bOk r p b := by simpa using hb
        have ht' : okT now := by simpa using ht
        have h4 : okT at_ := Classical.byContradiction fun hn => h3 (.inr (.inr hn))
        refine ⟨hb', ht', by omega, by omega, h4, fun hn => ?_, fun hn => ?_⟩
        · rw [if_pos (by omega)] at h
          simp at h
          exact ⟨h.1.symm, h.2.symm⟩
        · rw [if_neg (by omega)] at h
          have hm : now - at_ ≤ (now - at_) * r := by
            have := Int.mul_le_mul_of_nonneg_left hb'.1.1 (show 0 ≤ now - at_ by omega)
            simpa using this
          split at h
          · rename_i hc
            simp at h
            refine ⟨h.2.symm, ?_⟩
            rw [if_neg (by omega)]
            exact h.1.symm
          · rename_i hc
            simp at h
            refine ⟨h.2.symm, ?_⟩
            have : b * p - pt ≤ (now - at_) * r := by
              by_cases h5 : now - at_ < b * p - pt
              · exact Int.not_lt.1 fun h6 => hc ⟨h5, h6⟩
              · omega
            split
            · exact h.1.symm
            · omega
theorem fill_err {pt at_ r p b now x y c : Int} (h : bFill pt at_ r p b now = (x, y, some c)) : x = 0 ∧ y = 0 ∧ (c = 1 ∨ c = 4) := by
  unfold bFill at h
  split at h
  · simp at h; omega
  · split at h
    · simp at h; omega
    · split at h
      · simp at h; omega
      · split at h
        · simp at h
        · split at h <;> simp at h
set_option maxRecDepth 100000 in
theorem rfill_calls (g r p b now pt at_ : Int) (w : World) : Calls Try.prog 41 #[.agg #[.int .i64 pt, .int .i64 at_], .agg #[.int .i64 g, .int .i64 r, .int .i64 p, .int .i64 b], .int .i64 now] w fun e w' =>
    e = .returned (.tuple #[.agg #[.int .i64 (bFill pt at_ r p b now).1, .int .i64 (bFill pt at_ r p b now).2.1], .int .i64 (numE (bFill pt at_ r p b now).2.2)]) ∧ Below w.heap.size w w' := by
  refine calls_rx Γok [.lit (.agg #[.int .i64 pt, .int .i64 at_]), .lit (.agg #[.int .i64 g, .int .i64 r, .int .i64 p, .int .i64 b]), .lit (.int .i64 now)] [] _ _ Try.func41 rfl (by rw [Try.ntmps41]; exact Nat.le_of_ble_eq_true rfl) (SatH.start _ _ w) ?_
  rw [Try.ntmps41, Try.results41]
  refine run_ok Γok (stops := []) 400 _ _ _ ?_
  simp only [argsF, Nat.zero_add, Nat.reduceAdd, r_seq, r_reg, r_ops, rawOp, stopAt, memN, Bool.or_false, o_false, dstOk, Nat.reduceLT, gdK, stC, stpK, boxK, SV.flat, evO, getT, ↓reduceIte, litL, oneL, SV.one, Value.oneCell', and_true, putA, St.put, List.length_nil, SV.cells, List.nil_append, Nat.reduceEqDiff, reduceCtorEq, List.length_cons, List.cons_append, allocK, g70, pureK, rdK, kn, SV.known, r_ops_nil, loadK, Nat.succ_ne_self, getH, Nat.le_refl, takeL, g40, o_true, rawC, true_and]
  intro b1 b2 b3
  refine VdT.callA rfl rfl rfl Try.func44 rfl nm44 (by simp only [evL, evO, getT, Nat.reduceEqDiff, ↓reduceIte, Nat.succ_ne_self, knownL, SV.known, and_true]) (by simp only [dstOk, Nat.reduceLT]) (.lit (.int .i64 (rCheck pt at_ r p b now))) rfl (fun w1 hw1 => rcheck_calls g r p b now pt at_ w1) ?_
  rw [rCheck_fill]
  obtain ⟨⟨x, y, z⟩, hf⟩ : ∃ q, bFill pt at_ r p b now = q := ⟨_, rfl⟩
  cases z with
  | some c =>
    obtain ⟨rfl, rfl, hc⟩ := fill_err hf
    simp only [hf, numE]
    refine run_ok Γok (stops := []) 400 _ _ _ ?_
    simp only [St.put, r_ops, rawOp, stopAt, memN, Bool.or_false, o_false, dstOk, Nat.reduceLT, gdK, stC, stpK, pureK, rdK, kn, SV.known, evO, getT, ↓reduceIte, putA, r_ops_nil, r_seq, r_reg, binK, intB, intK, r_cond, cndK, setB, buildOpK, g70, s70, litL, partsL, buildK, aggC, Nat.reduceEqDiff, storeK, Nat.succ_ne_self, getH, SV.flat, oneL, SV.one, Value.oneCell', and_true, SV.cells, List.length_cons, List.length_nil, Nat.zero_add, Nat.reduceAdd, Nat.le_refl, putS, setH, putL, r_ret, r_code_ret, r_nil, RX.Ends, retK, resvK, loadK, oneTup, takeL, true_and, r_skip, reduceCtorEq, f70_1, ne_eq, not_false_eq_true, g3, getL, f70_0, Nat.add_zero, f40_1, f40_3, f40_2, o_true, rawC, Nat.lt_add_one]
    exact ⟨fun _ w' hw => ⟨rfl, hw.rs⟩, fun h => absurd h (by rcases hc with rfl | rfl <;> decide)⟩
  | none =>
    obtain ⟨hok, ht, hp1, hp2, hat, hx1, hx2⟩ := fill_pre hf
    simp only [hf, numE]
    refine run_ok Γok (stops := []) 400 _ _ _ ?_
    simp only [St.put, r_ops, rawOp, stopAt, memN, Bool.or_false, o_false, dstOk, Nat.reduceLT, gdK, stC, stpK, pureK, rdK, kn, SV.known, evO, getT, ↓reduceIte, putA, r_ops_nil, r_seq, r_reg, binK, intB, intK, r_cond, cndK, setB, buildOpK, g70, s70, litL, partsL, buildK, aggC, Nat.reduceEqDiff, storeK, Nat.succ_ne_self, getH, SV.flat, oneL, SV.one, Value.oneCell', and_true, SV.cells, List.length_cons, List.length_nil, Nat.zero_add, Nat.reduceAdd, Nat.le_refl, putS, setH, putL, r_ret, r_code_ret, r_nil, RX.Ends, retK, resvK, loadK, oneTup, takeL, true_and, r_skip, reduceCtorEq, f70_1, ne_eq, not_false_eq_true, g3, getL, f70_0, Nat.add_zero, f40_1, f40_3, f40_2, o_true, rawC, Nat.lt_add_one]
    refine ⟨fun h => absurd h (by decide), fun _ => ⟨fun h => ?_, fun h w' hw => ?_⟩⟩
    · obtain ⟨rfl, hx⟩ := hx2 (of_decide_eq_true h)
      obtain ⟨m1, m2⟩ := wrap_mul hok.2.2 hok.2.1
      have hlt := of_decide_eq_true h
      obtain ⟨a1, a2⟩ := hat
      obtain ⟨t1, t2⟩ := ht
      obtain ⟨n1, n2⟩ := mul_in (n := y - at_) (by omega) (by omega) hok.1
      refine bmin rfl rfl (by simp [dstOk]) rfl rfl ?_
      rw [wrap_in (x := y - at_) (by omega) (by omega), wrap_in (x := (y - at_) * r) (by omega) (by omega), wrap_in (x := pt + (y - at_) * r) (by omega) (by omega), wrap_in (x := b * p) (by omega) (by omega), ← hx]
      refine run_ok Γok (stops := []) 400 _ _ _ ?_
      simp only [St.put, r_ops, rawOp, stopAt, memN, Bool.or_false, o_false, dstOk, Nat.reduceLT, gdK, stC, stpK, pureK, rdK, f70_0, ne_eq, Nat.succ_ne_self, not_false_eq_true, evO, getT, Nat.reduceEqDiff, ↓reduceIte, putA, Nat.add_zero, storeK, g3, getH, SV.flat, SV.one, Value.oneCell', SV.cells, List.length_cons, List.length_nil, Nat.zero_add, Nat.reduceAdd, Nat.reduceLeDiff, putS, setH, putL, r_ops_nil, r_reg, kn, SV.known, reduceCtorEq, f70_1, Nat.le_refl, r_seq, Nat.lt_add_one, loadK, g70, takeL, oneL, and_true, r_ret, r_nil, RX.Ends, retK, resvK, oneTup, true_and]
      exact fun w' hw => ⟨rfl, hw.rs⟩
    · obtain ⟨rfl, rfl⟩ := hx1 (of_decide_eq_false h)
      exact ⟨rfl, hw.rs⟩
end Go.Proofs.Ytoplidleecbdeaa
