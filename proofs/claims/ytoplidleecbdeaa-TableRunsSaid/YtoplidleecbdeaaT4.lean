import Derived.Test.YtoplidleecbdeaaT3
import Derived.Test.YtoplidleecbdeaaRXo
set_option linter.unusedVariables false
set_option linter.unusedSimpArgs false
namespace Go.Proofs.Ytoplidleecbdeaa
open Go Go.RowKit Go.Proofs.RX Go.Maps Go.ChangeMaps
theorem nm25 : (Try.f25.name == "runtime.NumGoroutine") = false := by kernel_rfl
theorem nm27 : (Try.f27.name == "runtime.NumGoroutine") = false := by kernel_rfl
theorem nm28 : (Try.f28.name == "runtime.NumGoroutine") = false := by kernel_rfl
theorem nm29 : (Try.f29.name == "runtime.NumGoroutine") = false := by kernel_rfl
theorem u59 : Try.prog.underlying 59 = some (.map 38 60) := by kernel_rfl

theorem Tab.split {t m x : Nat} {room : Int} {l1 l2 : List (Nat × E)} {e : E} {w : World} (h : Tab t m room (l1 ++ (x, e) :: l2) w) :
    ∃ A B, MapD Try.prog 38 m (A ++ (whoV e, pv (some x)) :: B) w ∧ (A ++ B).Perm (ents (l1 ++ l2)) := by
  obtain ⟨D, h1, h2⟩ := h.mp
  have hmem : (whoV e, pv (some x)) ∈ D := h2.mem_iff.2 (by simp [ents])
  obtain ⟨A, B, rfl⟩ := List.append_of_mem hmem
  refine ⟨A, B, h1, ?_⟩
  have h3 : (A ++ (whoV e, pv (some x)) :: B).Perm ((whoV e, pv (some x)) :: (A ++ B)) := List.perm_middle
  have h4 : (ents (l1 ++ (x, e) :: l2)).Perm ((whoV e, pv (some x)) :: ents (l1 ++ l2)) := by
    simp only [ents, List.map_append, List.map_cons]
    exact List.perm_middle
  exact ((h3.symm.trans h2).trans h4).cons_inv
set_option maxRecDepth 100000 in
theorem remove_calls {t m x : Nat} {room : Int} {l1 l2 : List (Nat × E)} {e : E} {w : World} (h : Tab t m room (l1 ++ (x, e) :: l2) w) :
    Calls Try.prog 27 #[pv (some t), pv (some x)] w fun e' w' => e' = .returned (.tuple #[]) ∧ Tab t m room (l1 ++ l2) w' ∧ Keep (TabF t m (l1 ++ (x, e) :: l2)) w w' := by
  refine calls_rx Γok [.lit (.pointer (some ⟨t, 0, none⟩)), .lit (.pointer (some ⟨x, 0, none⟩))] [] _ _ Try.func27 rfl (by rw [Try.ntmps27]; exact Nat.le_of_ble_eq_true rfl) (SatH.start _ _ w) ?_
  rw [Try.ntmps27, Try.results27]
  refine run_ok Γok (stops := []) 400 _ _ _ ?_
  simp only [argsF, Nat.zero_add, r_seq, r_reg, r_ops, rawOp, stopAt, memN, Bool.or_false, o_false, dstOk, Nat.reduceLT, gdK, stC, stpK, pureK, rdK, kn, SV.known, evO, getT, ↓reduceIte, putA, St.put, Nat.reduceEqDiff, reduceCtorEq, o_true, rawC, true_and]
  obtain ⟨A, B, hM, hperm⟩ := h.split
  have hF := h.lt
  have hchF : ∀ k, (k = t ∨ k ∈ (l1 ++ (x, e) :: l2).map (·.1)) → TabF t m (l1 ++ (x, e) :: l2) k := fun k hk => by rcases hk with h | h; exact .inl h; exact .inr (.inr h)
  have hsub : ∀ k, k ∈ (l1 ++ l2).map (·.1) → k ∈ (l1 ++ (x, e) :: l2).map (·.1) := by simp; grind
  have hxm : TabF t m (l1 ++ (x, e) :: l2) x := .inr (.inr (by simp))
  have hmm : m ≠ t ∧ m ∉ (l1 ++ (x, e) :: l2).map (·.1) := ⟨h.mt, h.ml⟩
  have dep1 : Dep (fun k => k < w.heap.size) (fun w' => Chain t m room (l1 ++ l2) w' ∧ w'.heap[x]? = some (nodeO e none none) ∧ MapD Try.prog 38 m (A ++ (whoV e, pv (some x)) :: B) w' ∧ Keep (TabF t m (l1 ++ (x, e) :: l2)) w w') :=
    ((Chain.dep t m room (l1 ++ l2)).old (fun k hk => hF k (hchF k (by rcases hk with h | h; exact .inl h; exact .inr (hsub k h))))).and2
      ((Dep.blk (F := fun k => k < w.heap.size) (hF x hxm)).and2 (((MapD.dep _ _ m _).old (fun k hk => hk ▸ hF m (.inr (.inl rfl)))).and2 ((Keep.dep _ w).old (fun k hk => hk.1))))
  refine VdT.callR rfl rfl rfl Try.func28 rfl nm28 (by simp only [evL, evO, getT, Nat.succ_ne_self, ↓reduceIte, knownL, SV.known, and_true]) (by simp only [dstOk, Nat.reduceLT]) (fun _ : Unit => .lit (.tuple #[])) (fun _ k => k < w.heap.size) (fun _ w' => Chain t m room (l1 ++ l2) w' ∧ w'.heap[x]? = some (nodeO e none none) ∧ MapD Try.prog 38 m (A ++ (whoV e, pv (some x)) :: B) w' ∧ Keep (TabF t m (l1 ++ (x, e) :: l2)) w w') (fun w1 hw1 => ?c1) ?_
  case c1 =>
    have hb : Below w.heap.size w w1 := hw1.rs
    have hT1 : Tab t m room (l1 ++ (x, e) :: l2) w1 := (Tab.dep t m room _) w w1 (fun k hk => hb.block k (hF k hk)) hb.os hb.tape hb.output hb.size h
    have hM1 : MapD Try.prog 38 m (A ++ (whoV e, pv (some x)) :: B) w1 := MapD.dep _ _ m _ w w1 (fun k hk => hb.block k (hk ▸ hF m (.inr (.inl rfl)))) hb.os hb.tape hb.output hb.size hM
    refine (unlink_calls hT1.ch).mono ?_
    rintro e' w' ⟨he, h1, h2, hk⟩
    refine ⟨(), _, he, rfl, hk, fun k hk' => hF k (hchF k hk'), ⟨h1, h2, ?_, (Keep.of_below hb).trans (hk.mono hchF)⟩, fun k hk' => ⟨?_, .inl hk'⟩, dep1⟩
    · exact MapD.dep _ _ m _ w1 w' (fun k hk' => hk' ▸ hk.block m hM1.lt (by rintro (h | h); exact hmm.1 h; exact hmm.2 h)) hk.os hk.tape hk.output hk.size hM1
    · exact Nat.lt_of_lt_of_le (Nat.lt_of_lt_of_le hk' hb.size) hk.size
  intro _
  refine run_ok Γok (stops := []) 400 _ _ _ ?_
  simp only [St.put, r_ops_nil, r_regd, calmN, calmOp, rawOp, Bool.not_false, stopAt, memN, Bool.and_true, Bool.not_true, Nat.zero_add, Nat.reduceAdd, List.length_cons, List.length_nil, Nat.reduceBEq, List.drop_succ_cons, List.drop_zero, plainL, Bool.or_false, d_run, d_false, h_cons, dstOk, Nat.reduceLT, gdK, pureC, pureK, rdK, kn, SV.known, evO, getT, reduceCtorEq, ↓reduceIte, putA, f62_1, ne_eq, Nat.succ_ne_self, not_false_eq_true, loadK, g59, Nat.reduceEqDiff, f80_0, Nat.lt_add_one, g38, h_zero, r_ops, o_true, rawC, true_and]
  refine ⟨by first | (unfold LexTailB; kernel_rfl) | (unfold LexHeldB; kernel_rfl), .map (some m), fun w1 ⟨h1, _⟩ => by rw [cell_add h1.tab]; rfl, [.int .i64 e.route, .int .i64 e.kind, .string e.name], rfl, fun w1 ⟨_, h2, _⟩ j v hj => by rw [cell_add2 h2]; (match j with | 0 => exact hj | 1 => exact hj | 2 => exact hj | j + 3 => simp at hj), ?_⟩
  refine VdT.mapDel K38 u59 rfl rfl trivial rfl rfl rfl rfl (F' := fun k => k < w.heap.size) (p' := fun w' => Tab t m room (l1 ++ l2) w' ∧ Keep (TabF t m (l1 ++ (x, e) :: l2)) w w') ?_ (hF m (.inr (.inl rfl))) (fun k hk => hk) ?_ ?_
  · exact ((Tab.dep t m room (l1 ++ l2)).old (fun k hk => hF k (by rcases hk with h | h | h; exact .inl h; exact .inr (.inl h); exact .inr (.inr (hsub k h))))).and2 ((Keep.dep _ w).old (fun k hk => hk.1))
  · intro w1 hw1
    obtain ⟨h1, h2, h3, h4⟩ := hw1.rs
    refine ⟨A, B, pv (some x), h3, h.isK (x, e) (by simp), fun w' hM' hk => ⟨⟨?_, A ++ B, hM', hperm⟩, h4.trans (hk.mono (fun k hk => .inr (.inl hk)))⟩⟩
    exact Chain.dep t m room (l1 ++ l2) w1 w' (fun k hk' => hk.block k (by rcases hk' with rfl | hk'; exact h1.lt; (obtain ⟨y, hy, rfl⟩ := List.mem_map.1 hk'; exact seg_lt h1.seg y hy)) (by rintro rfl; rcases hk' with h | h; exact hmm.1 h; exact hmm.2 (hsub _ h))) hk.os hk.tape hk.output hk.size h1
  refine run_ok Γok (stops := []) 400 _ _ _ ?_
  simp only [St.put, r_ops_nil, r_nil, RX.Ends, retK, resvK, oneTup]
  exact fun w' hw => ⟨rfl, hw.rs.1, hw.rs.2⟩
end Go.Proofs.Ytoplidleecbdeaa
