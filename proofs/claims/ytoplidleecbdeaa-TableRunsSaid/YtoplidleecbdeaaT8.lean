import Derived.Test.YtoplidleecbdeaaT7
set_option linter.unusedVariables false
set_option linter.unusedSimpArgs false
namespace Go.Proofs.Ytoplidleecbdeaa
open Go Go.RowKit Go.Proofs.RX Go.Maps Go.ChangeMaps
theorem nm19 : (Try.f19.name == "runtime.NumGoroutine") = false := by kernel_rfl

/-- A row of one's own, as a value. -/
def slV (n : Nat) : Option (Nat × Nat) → Value
  | none => .slice none 0 0
  | some (g, c) => .slice (some ⟨g, 0, none⟩) n c
theorem own_sl {w : World} {e : TypeId} {size n : Nat} {v : Value} {xs : List Value} (h : w.ownsRow 0 e size v n xs) : ∃ o : { o : Option (Nat × Nat) // o = none → n = 0 }, v = slV n o.1 := by
  rcases h.2 with ⟨rfl, hn⟩ | ⟨g, cap, cur, rfl, _⟩
  · exact ⟨⟨none, fun _ => hn⟩, rfl⟩
  · exact ⟨⟨some (g, cap), by simp⟩, rfl⟩
theorem rowOf_get {L : List E} {j : Nat} {e : E} (h : L[j]? = some e) (i : Nat) (hi : i < 3) : (rowOf L)[j * 3 + i]? = ([.int .i64 e.route, .int .i64 e.kind, .string e.name] : List Value)[i]? := by
  induction L generalizing j with
  | nil => simp at h
  | cons y r ih =>
    have hc : rowOf (y :: r) = [.int .i64 y.route, .int .i64 y.kind, .string y.name] ++ rowOf r := by simp [rowOf]
    cases j with
    | zero =>
      simp at h
      subst h
      rw [hc, List.getElem?_append_left (by simp; omega)]
      simp
    | succ j =>
      have := ih (j := j) (by simpa using h)
      rw [hc, List.getElem?_append_right (by simp; omega), ← this]
      congr 1
      simp
      omega
theorem rowOf_len (L : List E) : (rowOf L).length = L.length * 3 := by
  induction L with
  | nil => rfl
  | cons y r ih =>
    have hc : rowOf (y :: r) = [.int .i64 y.route, .int .i64 y.kind, .string y.name] ++ rowOf r := by simp [rowOf]
    rw [hc]; simp [ih]; omega
/-- The places of a row of names. -/
theorem own_name {w : World} {g c n : Nat} {L : List E} (h : w.ownsRow 0 38 3 (slV n (some (g, c))) n (rowOf L)) {j : Nat} {e : E} (he : L[j]? = some e) (i : Nat) (v : Value) (hv : ([.int .i64 e.route, .int .i64 e.kind, .string e.name] : List Value)[i]? = some v) :
    w.cell? (((⟨g, 0, none⟩ : Addr).add (j * 3)).add i) = some v := by
  have hi : i < 3 := by
    have := (List.getElem?_eq_some_iff.1 hv).1
    simpa using this
  have := h.cells (g := g) rfl (j * 3 + i) v (by rw [rowOf_get he i hi]; exact hv)
  rw [add_none] at this
  rw [add_none, add_none]
  simpa [Nat.add_assoc] using this

/-- What is there after some steps. -/
def cur (l : List (Nat × E)) (route : Int) (j : Nat) : List (Nat × E) := (l.take j).filter (fun x => x.2.route != route) ++ l.drop j
def gone (l : List (Nat × E)) (route : Int) (j : Nat) : Nat := ((l.take j).filter (fun x => x.2.route == route)).length
def DropS (w : World) (t m : Nat) (room route : Int) (l : List (Nat × E)) (L : List E) (v : Value) (j : Nat) : St :=
  { n := 31, tm := [(9, .lit v), (10, .lit (.int .i64 L.length)), (11, .lit (.int .i64 j)), (5, .lit (.int .i64 (gone l route j))), (0, .lit (.pointer (some ⟨t, 0, none⟩))), (1, .lit (.int .i64 route))], hp := [], fp := fun k => k < w.heap.size ∨ v.ownBlock = some k, res := fun w' => Tab t m room (cur l route j) w' ∧ Keep (TabF t m l) w w' ∧ w'.ownsRow 0 38 3 v L.length (rowOf L) }
def DropI (w : World) (t m : Nat) (room route : Int) (l : List (Nat × E)) (L : List E) (v : Value) (j : Nat) (s : St) : Prop := j ≤ l.length ∧ s = DropS w t m room route l L v j
set_option maxRecDepth 100000 in
theorem drop_calls {t m : Nat} {room : Int} {l : List (Nat × E)} {L : List E} {w : World} (route : Int) (h : Tab t m room l w) (hL : l.map (·.2) = L) (hlen : l.length ≤ 1024) :
    Calls Try.prog 18 #[pv (some t), .int .i64 route] w fun e' w' => e' = .returned (.int .i64 (gone l route l.length)) ∧ Tab t m room (l.filter (fun x => x.2.route != route)) w' ∧ Keep (TabF t m l) w w' := by
  refine calls_rx Γok [.lit (.pointer (some ⟨t, 0, none⟩)), .lit (.int .i64 route)] [] _ _ Try.func18 rfl (by rw [Try.ntmps18]; exact Nat.le_of_ble_eq_true rfl) (SatH.start _ _ w) ?_
  rw [Try.ntmps18, Try.results18]
  refine run_ok Γok (stops := []) 400 _ _ _ ?_
  simp only [argsF, Nat.zero_add, r_seq, r_reg, r_ops, rawOp, stopAt, memN, Bool.or_false, o_false, dstOk, Nat.reduceLT, gdK, stC, stpK, pureK, rdK, kn, SV.known, evO, putA, St.put, r_ops_nil, getT, reduceCtorEq, ↓reduceIte, o_true, rawC, true_and]
  have hF := h.lt
  have hLl : L.length = l.length := by rw [← hL]; simp
  have dep0 : ∀ (l' : List (Nat × E)) (v : Value), (∀ k, TabF t m l' k → k < w.heap.size) → Dep (fun k => k < w.heap.size ∨ v.ownBlock = some k) (fun w' => Tab t m room l' w' ∧ Keep (TabF t m l) w w' ∧ w'.ownsRow 0 38 3 v L.length (rowOf L)) := fun l' v hl' =>
    ((Tab.dep t m room l').mono (fun k hk => .inl (hl' k hk))).and2 (((Keep.dep _ w).mono (fun k hk => .inl hk.1)).and2 ((Dep.own 38 3 L.length v _).mono (fun k hk => .inr hk)))
  refine VdT.callR rfl rfl rfl Try.func19 rfl nm19 (by simp only [evL, evO, getT, ↓reduceIte, knownL, SV.known, and_true]) (by simp only [dstOk, Nat.reduceLT]) (fun o : { o : Option (Nat × Nat) // (o = none → L.length = 0) ∧ ∀ k, (slV L.length o).ownBlock = some k → w.heap.size ≤ k } => .lit (slV L.length o.1)) (fun o k => k < w.heap.size ∨ (slV L.length o.1).ownBlock = some k) (fun o w' => Tab t m room l w' ∧ Keep (TabF t m l) w w' ∧ w'.ownsRow 0 38 3 (slV L.length o.1) L.length (rowOf L)) (fun w1 hw1 => ?c1) ?_
  case c1 =>
    have hb : Below w.heap.size w w1 := hw1.rs
    refine (who_calls (h.below hb) hL hlen).mono ?_
    rintro e' w' ⟨v, he, hb', hown, hfr⟩
    obtain ⟨⟨o, ho⟩, rfl⟩ := own_sl hown
    have hk : Keep (TabF t m l) w1 w' := Keep.of_below hb'
    refine ⟨⟨o, ho, fun k hk => Nat.le_trans hb.size (hfr k hk)⟩, fun _ => False, he, rfl, Keep.of_below hb', fun k hk => hk.elim, ⟨(h.below hb).below hb', (Keep.of_below hb).trans hk, hown⟩, fun k hk' => ?_, dep0 l _ hF⟩
    rcases hk' with h1 | h1
    · exact ⟨Nat.lt_of_lt_of_le h1 (Nat.le_trans hb.size hb'.size), .inl h1⟩
    · exact ⟨(hown.lt k h1).2, .inr (hfr k h1)⟩
  rintro ⟨o, ho, hfr⟩
  have hcur0 : cur l route 0 = l := by simp [cur]
  have hgone0 : gone l route 0 = 0 := by simp [gone]
  have hcurN : cur l route l.length = l.filter (fun x => x.2.route != route) := by simp [cur]
  have hsubF : ∀ j k, TabF t m (cur l route j) k → TabF t m l k := fun j k hk => by
    rcases hk with h | h | h
    · exact .inl h
    · exact .inr (.inl h)
    · refine .inr (.inr ?_)
      obtain ⟨y, hy, rfl⟩ := List.mem_map.1 h
      refine List.mem_map.2 ⟨y, ?_, rfl⟩
      rcases List.mem_append.1 hy with hy | hy
      · exact List.mem_of_mem_take (List.mem_filter.1 hy).1
      · exact List.mem_of_mem_drop hy
  rcases o with _ | ⟨g, c⟩
  · have hl0 : L.length = 0 := ho rfl
    have hl1 : l = [] := List.eq_nil_of_length_eq_zero (by omega)
    simp only [slV]
    refine run_ok Γok (stops := []) 400 _ _ _ ?_
    simp only [St.put, r_ops, rawOp, stopAt, memN, Bool.or_false, o_false, dstOk, Nat.reduceLT, gdK, stC, stpK, pureK, rdK, callK, blenK, lenK, g54, evO, getT, ↓reduceIte, putA, kn, SV.known, r_ops_nil, r_block, r_loop, true_and]
    refine VdT.loop (α := Unit) (fun _ s => s = _) (fun _ => 0) () rfl ?_
    rintro _ s' rfl
    refine run_ok Γok (stops := []) 400 _ _ _ ?_
    simp only [Nat.reduceLT, false_and, r_seq, r_reg, r_ops, rawOp, stopAt, memN, Bool.or_false, o_false, dstOk, gdK, stC, stpK, pureK, rdK, binK, evO, getT, ↓reduceIte, Nat.succ_ne_self, intB, intK, putA, St.put, r_ops_nil, r_cond, cndK, setB, r_skip, r_block, iaK, g54, g38, Nat.reduceEqDiff, and_false, r_exit, r_code_exit, r_nil, true_and]
    refine ⟨fun h => absurd (of_decide_eq_true h) (by omega), fun _ => ?_⟩
    refine run_ok Γok (stops := []) 400 _ _ _ ?_
    simp only [r_blk_hit, r_seq, r_reg, r_ops, rawOp, stopAt, memN, Bool.or_false, o_false, dstOk, Nat.lt_add_one, gdK, stC, stpK, pureK, rdK, kn, SV.known, evO, getT, Nat.reduceEqDiff, ↓reduceIte, putA, St.put, Nat.reduceLT, r_ops_nil, r_ret, r_nil, RX.Ends, retK, resvK, oneTup, true_and]
    intro w' hw
    rw [hl1] at hw ⊢
    refine ⟨by simp [gone, SV.den], hw.rs.1, hw.rs.2.1⟩
  · simp only [slV]
    refine run_ok Γok (stops := []) 400 _ _ _ ?_
    simp only [St.put, r_ops, rawOp, stopAt, memN, Bool.or_false, o_false, dstOk, Nat.reduceLT, gdK, stC, stpK, pureK, rdK, callK, blenK, lenK, g54, evO, getT, ↓reduceIte, putA, kn, SV.known, r_ops_nil, r_block, r_loop, true_and]
    refine VdT.cut { n := 31, tm := [(9, .lit (.slice (some ⟨g, 0, none⟩) L.length c)), (10, .lit (.int .i64 L.length)), (11, .lit (.int .i64 ((0 : Nat) : Int))), (5, .lit (.int .i64 (gone l route 0))), (0, .lit (.pointer (some ⟨t, 0, none⟩))), (1, .lit (.int .i64 route))], hp := [], fp := fun k => k < w.heap.size ∨ (Value.slice (some ⟨g, 0, none⟩) L.length c).ownBlock = some k, res := fun w' => Tab t m room (cur l route 0) w' ∧ Keep (TabF t m l) w w' ∧ w'.ownsRow 0 38 3 (.slice (some ⟨g, 0, none⟩) L.length c) L.length (rowOf L) } rfl ⟨rfl, rfl, rfl, by rw [hgone0]; rfl, rfl, rfl, trivial⟩ rfl (fun k hk => hk) (dep0 _ _ (fun k hk => hF k (hsubF 0 k hk))) (fun w1 hw1 => by rw [hcur0]; exact hw1.rs) ?_
    refine VdT.loop (α := Nat) (DropI w t m room route l L (.slice (some ⟨g, 0, none⟩) L.length c)) (fun j => l.length - j) 0 ⟨Nat.zero_le _, rfl⟩ ?_
    rintro j s' ⟨hj, rfl⟩
    unfold DropS
    by_cases hjl : j < l.length
    · obtain ⟨⟨x, e⟩, hxe⟩ : ∃ y, l[j]? = some y := ⟨l[j], by simp [hjl]⟩
      have hLe : L[j]? = some e := by rw [← hL, List.getElem?_map, hxe]; rfl
      have hdr : l.drop j = (x, e) :: l.drop (j + 1) := by
        rw [List.drop_eq_getElem_cons hjl]
        congr 1
        have := List.getElem?_eq_getElem hjl
        rw [hxe] at this
        exact (Option.some.inj this).symm
      have htk : l.take (j + 1) = l.take j ++ [(x, e)] := by rw [List.take_add_one, hxe]; rfl
      have hcj : cur l route j = (l.take j).filter (fun x => x.2.route != route) ++ (x, e) :: l.drop (j + 1) := by rw [cur, hdr]
      have hgle : (gone l route j : Int) ≤ j := by
        have := List.length_filter_le (fun x : Nat × E => x.2.route == route) (l.take j)
        simp [gone] at this ⊢
        omega
      refine run_ok Γok (stops := []) 400 _ _ _ ?_
      simp only [r_seq, r_reg, r_ops, rawOp, stopAt, memN, Bool.or_false, o_false, dstOk, Nat.reduceLT, gdK, stC, stpK, pureK, rdK, binK, evO, getT, Nat.reduceEqDiff, ↓reduceIte, intB, intK, putA, St.put, r_ops_nil, r_cond, cndK, setB, r_skip, r_block, iaK, g54, g38, Nat.succ_ne_self, loadK, allocK, List.length_nil, litL, List.nil_append, storeK, getH, SV.flat, SV.cells, Nat.zero_add, List.length_cons, Nat.reduceAdd, Nat.le_refl, putS, setH, f38_0, ne_eq, not_false_eq_true, Nat.add_zero, g3, kn, SV.known, reduceCtorEq, r_regd, calmN, calmOp, Bool.not_false, Bool.and_true, Bool.not_true, Nat.reduceBEq, List.drop_succ_cons, List.drop_zero, plainL, d_run, d_false, h_cons, pureC, f62_1, g59, fb2, h_zero, o_true, rawC, true_and, r_blk_normal, r_nil, strB, strK, nilS, r_exit, r_code_exit]
      refine ⟨fun _ => ⟨⟨by omega, by omega⟩, [.int .i64 e.route, .int .i64 e.kind, .string e.name], rfl, fun w1 h1 i v hv => by rw [Int.toNat_natCast]; exact own_name h1.2.2 hLe i v hv, fun b => ?_⟩, fun hf => absurd hf (by simp; omega)⟩
      simp only [litL, oneL, SV.one, Value.oneCell', and_true, List.length_cons, List.length_nil, Nat.zero_add, Nat.reduceAdd, putL, getL, Nat.le_refl, takeL, true_and]
      constructor
      · intro hr
        have hr' : e.route = route := by simpa using hr
        have hcj1 : cur l route (j + 1) = (l.take j).filter (fun x => x.2.route != route) ++ l.drop (j + 1) := by simp [cur, htk, hr']
        have hgj1 : (gone l route (j + 1) : Int) = gone l route j + 1 := by simp [gone, htk, hr']
        refine ⟨by first | (unfold LexTailB; kernel_rfl) | (unfold LexHeldB; kernel_rfl), .map (some m), fun w1 h1 => by rw [cell_add h1.1.ch.tab]; rfl, .lit (.pointer (some ⟨x, 0, none⟩)), rfl, fun w1 h1 => ?_, ?_⟩
        · obtain ⟨D, hD, hm⟩ := h1.1.D
          exact run_lookup_hit K38 u59 hD (h1.1.isK (x, e) (by rw [hcj]; simp)) ((hm (whoV e, pv (some x))).2 (by rw [hcj]; simp [ents])) false
        refine VdT.callR rfl rfl rfl Try.func27 rfl nm27 (by simp only [evL, evO, getT, Nat.reduceEqDiff, ↓reduceIte, Nat.succ_ne_self, knownL, SV.known, and_true]) (by simp only [dstOk, Nat.reduceLT]) (fun _ : Unit => .lit (.tuple #[])) (fun _ k => k < w.heap.size ∨ (Value.slice (some ⟨g, 0, none⟩) L.length c).ownBlock = some k) (fun _ w' => Tab t m room (cur l route (j + 1)) w' ∧ Keep (TabF t m l) w w' ∧ w'.ownsRow 0 38 3 (.slice (some ⟨g, 0, none⟩) L.length c) L.length (rowOf L)) (fun w1 hw1 => ?c2) ?_
        case c2 =>
          obtain ⟨k1, k2, k3⟩ := hw1.rs
          have k1' : Tab t m room ((l.take j).filter (fun x => x.2.route != route) ++ (x, e) :: l.drop (j + 1)) w1 := by rw [← hcj]; exact k1
          refine (remove_calls k1').mono ?_
          rintro e' w' ⟨he, q1, q2⟩
          rw [← hcj1] at q1
          rw [← hcj] at q2
          have q3 : Keep (TabF t m l) w1 w' := q2.mono (fun k hk => hsubF j k hk)
          refine ⟨(), _, he, rfl, q2, fun k hk => .inl (hF k (hsubF j k hk)), ⟨q1, k2.trans q3, ?_⟩, fun k hk => ⟨?_, .inl hk⟩, dep0 _ _ (fun k hk => hF k (hsubF _ k hk))⟩
          · refine Dep.own 38 3 L.length _ _ w1 w' (fun k hk => q3.block k (k3.lt k hk).2 (fun hk' => ?_)) q3.os q3.tape q3.output q3.size k3
            have a1 := hF k hk'
            have a2 := hfr k hk
            omega
          · rcases hk with hk | hk
            · exact Nat.lt_of_lt_of_le hk (Nat.le_trans k2.size q3.size)
            · exact Nat.lt_of_lt_of_le (k3.lt k hk).2 q3.size
        intro _
        refine run_ok Γok (stops := []) 400 _ _ _ ?_
        simp only [St.put, r_ops_nil, r_reg, r_ops, rawOp, stopAt, memN, Bool.or_false, o_false, dstOk, Nat.reduceLT, gdK, stC, stpK, pureK, rdK, kn, SV.known, evO, getT, Nat.reduceEqDiff, ↓reduceIte, putA, binK, intB, intK, r_blk_normal, Nat.succ_ne_self, r_nil, true_and]
        refine ⟨j + 1, DropS w t m room route l L (.slice (some ⟨g, 0, none⟩) L.length c) (j + 1), by omega, fun a w1 hs => hs.cut rfl ⟨rfl, rfl, ?_, ?_, rfl, rfl, trivial⟩ rfl (fun k hk => hk) (dep0 (cur l route (j + 1)) _ (fun k hk => hF k (hsubF (j + 1) k hk))) ?_, ⟨by omega, rfl⟩⟩
        · simp only [getT, fb2, intB, strB, iaK, r_nil, r_skip, r_seq, r_block, r_ret, r_exit, r_cond, r_reg, r_regd, d_stop, d_run, r_rg, r_chk, d_true, d_false, d_held, plainL, heldK, heldH, heldJ, heldT, tailK, keptS, blurH, tgtS, keepH, soEq, r_loop, r_code_ret, r_code_exit, r_ops_nil, r_ops, o_true, o_false, r_ops_ret, r_ops_exit, r_blk_normal, r_blk_ret, r_blk_hit, r_blk_miss, h_zero, h_cons, rawOp, stopAt, memN, calmOp, calmN, dstOk, gdK, gdvK, wantK, dstAt, stC, skC, pureC, rawC, stpK, pureK, rdK, kn, evO, getT, St.put, SV.known, pickK, selB, binK, intK, strK, eqK, notS, nilS, isConstO, loadK, lenK, blenK, callK, idxK, cnvK, mkiK, unK, bndK, cutK, storeK, allocK, boxK, putS, putA, buildOpK, buildK, aggC, partsL, bslK, bslC, catK, catC, nthP, getL, getH, setH, takeL, putL, SV.flat, SV.cells, SV.one, oneL, litL, cndK, setB, argsF, RX.Ends, retK, resvK, oneTup, evL, knownL, Value.oneCell', List.toList_toArray, List.length_cons, List.length_nil, List.append_eq, List.nil_append, List.cons_append, List.drop_succ_cons, List.drop_zero, List.map_cons, List.map_nil, List.mem_cons, List.not_mem_nil, or_false, forall_eq_or_imp, forall_eq, Nat.reduceAdd, Nat.reduceLT, Nat.reduceLeDiff, Nat.reduceEqDiff, Nat.reduceBEq, Nat.reduceMul, Nat.zero_add, Nat.add_zero, ↓reduceIte, Bool.or_false, Bool.or_true, Bool.false_or, Bool.true_or, Bool.and_true, Bool.true_and, Bool.and_false, Bool.false_and, Bool.not_true, Bool.not_false, reduceCtorEq, true_and, and_true, false_and, and_false, forall_false, forall_const, implies_true, imp_self, ne_eq, not_true_eq_false, not_false_eq_true, Nat.succ_ne_self, Nat.lt_add_one, Nat.le_refl, Nat.zero_le, Nat.zero_lt_succ, g3, g4, g9, g25, g23, g60, g62, g73, g80, g38, g40, g58, g59, g54, s73, s80, s38, s62, f40_0, f40_1, f40_2, f40_3, f73_0, f73_1, f62_0, f62_1, f62_2, f62_3, f80_0, f80_1, f80_2, f80_3, f38_0, f38_1, f38_2]
          rw [wrap_in (by omega) (by omega)]; rfl
        · simp only [getT, fb2, intB, strB, iaK, r_nil, r_skip, r_seq, r_block, r_ret, r_exit, r_cond, r_reg, r_regd, d_stop, d_run, r_rg, r_chk, d_true, d_false, d_held, plainL, heldK, heldH, heldJ, heldT, tailK, keptS, blurH, tgtS, keepH, soEq, r_loop, r_code_ret, r_code_exit, r_ops_nil, r_ops, o_true, o_false, r_ops_ret, r_ops_exit, r_blk_normal, r_blk_ret, r_blk_hit, r_blk_miss, h_zero, h_cons, rawOp, stopAt, memN, calmOp, calmN, dstOk, gdK, gdvK, wantK, dstAt, stC, skC, pureC, rawC, stpK, pureK, rdK, kn, evO, getT, St.put, SV.known, pickK, selB, binK, intK, strK, eqK, notS, nilS, isConstO, loadK, lenK, blenK, callK, idxK, cnvK, mkiK, unK, bndK, cutK, storeK, allocK, boxK, putS, putA, buildOpK, buildK, aggC, partsL, bslK, bslC, catK, catC, nthP, getL, getH, setH, takeL, putL, SV.flat, SV.cells, SV.one, oneL, litL, cndK, setB, argsF, RX.Ends, retK, resvK, oneTup, evL, knownL, Value.oneCell', List.toList_toArray, List.length_cons, List.length_nil, List.append_eq, List.nil_append, List.cons_append, List.drop_succ_cons, List.drop_zero, List.map_cons, List.map_nil, List.mem_cons, List.not_mem_nil, or_false, forall_eq_or_imp, forall_eq, Nat.reduceAdd, Nat.reduceLT, Nat.reduceLeDiff, Nat.reduceEqDiff, Nat.reduceBEq, Nat.reduceMul, Nat.zero_add, Nat.add_zero, ↓reduceIte, Bool.or_false, Bool.or_true, Bool.false_or, Bool.true_or, Bool.and_true, Bool.true_and, Bool.and_false, Bool.false_and, Bool.not_true, Bool.not_false, reduceCtorEq, true_and, and_true, false_and, and_false, forall_false, forall_const, implies_true, imp_self, ne_eq, not_true_eq_false, not_false_eq_true, Nat.succ_ne_self, Nat.lt_add_one, Nat.le_refl, Nat.zero_le, Nat.zero_lt_succ, g3, g4, g9, g25, g23, g60, g62, g73, g80, g38, g40, g58, g59, g54, s73, s80, s38, s62, f40_0, f40_1, f40_2, f40_3, f73_0, f73_1, f62_0, f62_1, f62_2, f62_3, f80_0, f80_1, f80_2, f80_3, f38_0, f38_1, f38_2]
          rw [wrap_in (by omega) (by omega), hgj1]
        · exact hs.H.rs
      · intro hr
        have hr' : e.route ≠ route := by simpa using hr
        have hcj1 : cur l route (j + 1) = cur l route j := by
          rw [hcj]
          simp [cur, htk, hr']
        have hgj1 : gone l route (j + 1) = gone l route j := by simp [gone, htk, hr']
        refine ⟨j + 1, DropS w t m room route l L (.slice (some ⟨g, 0, none⟩) L.length c) (j + 1), by omega, fun a w1 hs => hs.cut rfl ⟨rfl, rfl, ?_, ?_, rfl, rfl, trivial⟩ rfl (fun k hk => hk) (dep0 (cur l route (j + 1)) _ (fun k hk => hF k (hsubF (j + 1) k hk))) ?_, ⟨by omega, rfl⟩⟩
        · simp only [getT, fb2, intB, strB, iaK, r_nil, r_skip, r_seq, r_block, r_ret, r_exit, r_cond, r_reg, r_regd, d_stop, d_run, r_rg, r_chk, d_true, d_false, d_held, plainL, heldK, heldH, heldJ, heldT, tailK, keptS, blurH, tgtS, keepH, soEq, r_loop, r_code_ret, r_code_exit, r_ops_nil, r_ops, o_true, o_false, r_ops_ret, r_ops_exit, r_blk_normal, r_blk_ret, r_blk_hit, r_blk_miss, h_zero, h_cons, rawOp, stopAt, memN, calmOp, calmN, dstOk, gdK, gdvK, wantK, dstAt, stC, skC, pureC, rawC, stpK, pureK, rdK, kn, evO, getT, St.put, SV.known, pickK, selB, binK, intK, strK, eqK, notS, nilS, isConstO, loadK, lenK, blenK, callK, idxK, cnvK, mkiK, unK, bndK, cutK, storeK, allocK, boxK, putS, putA, buildOpK, buildK, aggC, partsL, bslK, bslC, catK, catC, nthP, getL, getH, setH, takeL, putL, SV.flat, SV.cells, SV.one, oneL, litL, cndK, setB, argsF, RX.Ends, retK, resvK, oneTup, evL, knownL, Value.oneCell', List.toList_toArray, List.length_cons, List.length_nil, List.append_eq, List.nil_append, List.cons_append, List.drop_succ_cons, List.drop_zero, List.map_cons, List.map_nil, List.mem_cons, List.not_mem_nil, or_false, forall_eq_or_imp, forall_eq, Nat.reduceAdd, Nat.reduceLT, Nat.reduceLeDiff, Nat.reduceEqDiff, Nat.reduceBEq, Nat.reduceMul, Nat.zero_add, Nat.add_zero, ↓reduceIte, Bool.or_false, Bool.or_true, Bool.false_or, Bool.true_or, Bool.and_true, Bool.true_and, Bool.and_false, Bool.false_and, Bool.not_true, Bool.not_false, reduceCtorEq, true_and, and_true, false_and, and_false, forall_false, forall_const, implies_true, imp_self, ne_eq, not_true_eq_false, not_false_eq_true, Nat.succ_ne_self, Nat.lt_add_one, Nat.le_refl, Nat.zero_le, Nat.zero_lt_succ, g3, g4, g9, g25, g23, g60, g62, g73, g80, g38, g40, g58, g59, g54, s73, s80, s38, s62, f40_0, f40_1, f40_2, f40_3, f73_0, f73_1, f62_0, f62_1, f62_2, f62_3, f80_0, f80_1, f80_2, f80_3, f38_0, f38_1, f38_2]
          rw [wrap_in (by omega) (by omega)]; rfl
        · simp only [getT, fb2, intB, strB, iaK, r_nil, r_skip, r_seq, r_block, r_ret, r_exit, r_cond, r_reg, r_regd, d_stop, d_run, r_rg, r_chk, d_true, d_false, d_held, plainL, heldK, heldH, heldJ, heldT, tailK, keptS, blurH, tgtS, keepH, soEq, r_loop, r_code_ret, r_code_exit, r_ops_nil, r_ops, o_true, o_false, r_ops_ret, r_ops_exit, r_blk_normal, r_blk_ret, r_blk_hit, r_blk_miss, h_zero, h_cons, rawOp, stopAt, memN, calmOp, calmN, dstOk, gdK, gdvK, wantK, dstAt, stC, skC, pureC, rawC, stpK, pureK, rdK, kn, evO, getT, St.put, SV.known, pickK, selB, binK, intK, strK, eqK, notS, nilS, isConstO, loadK, lenK, blenK, callK, idxK, cnvK, mkiK, unK, bndK, cutK, storeK, allocK, boxK, putS, putA, buildOpK, buildK, aggC, partsL, bslK, bslC, catK, catC, nthP, getL, getH, setH, takeL, putL, SV.flat, SV.cells, SV.one, oneL, litL, cndK, setB, argsF, RX.Ends, retK, resvK, oneTup, evL, knownL, Value.oneCell', List.toList_toArray, List.length_cons, List.length_nil, List.append_eq, List.nil_append, List.cons_append, List.drop_succ_cons, List.drop_zero, List.map_cons, List.map_nil, List.mem_cons, List.not_mem_nil, or_false, forall_eq_or_imp, forall_eq, Nat.reduceAdd, Nat.reduceLT, Nat.reduceLeDiff, Nat.reduceEqDiff, Nat.reduceBEq, Nat.reduceMul, Nat.zero_add, Nat.add_zero, ↓reduceIte, Bool.or_false, Bool.or_true, Bool.false_or, Bool.true_or, Bool.and_true, Bool.true_and, Bool.and_false, Bool.false_and, Bool.not_true, Bool.not_false, reduceCtorEq, true_and, and_true, false_and, and_false, forall_false, forall_const, implies_true, imp_self, ne_eq, not_true_eq_false, not_false_eq_true, Nat.succ_ne_self, Nat.lt_add_one, Nat.le_refl, Nat.zero_le, Nat.zero_lt_succ, g3, g4, g9, g25, g23, g60, g62, g73, g80, g38, g40, g58, g59, g54, s73, s80, s38, s62, f40_0, f40_1, f40_2, f40_3, f73_0, f73_1, f62_0, f62_1, f62_2, f62_3, f80_0, f80_1, f80_2, f80_3, f38_0, f38_1, f38_2]
          rw [hgj1]
        · show Tab t m room (cur l route (j + 1)) w1 ∧ _
          rw [hcj1]; exact hs.H.rs
    · have hje : j = l.length := by omega
      refine run_ok Γok (stops := []) 400 _ _ _ ?_
      simp only [r_seq, r_reg, r_ops, rawOp, stopAt, memN, Bool.or_false, o_false, dstOk, Nat.reduceLT, gdK, stC, stpK, pureK, rdK, binK, evO, getT, Nat.reduceEqDiff, ↓reduceIte, intB, intK, putA, St.put, r_ops_nil, r_cond, cndK, setB, r_skip, r_block, iaK, g54, g38, Nat.succ_ne_self, loadK, allocK, List.length_nil, litL, List.nil_append, storeK, getH, SV.flat, SV.cells, Nat.zero_add, List.length_cons, Nat.reduceAdd, Nat.le_refl, putS, setH, f38_0, ne_eq, not_false_eq_true, Nat.add_zero, g3, kn, SV.known, reduceCtorEq, r_regd, calmN, calmOp, Bool.not_false, Bool.and_true, Bool.not_true, Nat.reduceBEq, List.drop_succ_cons, List.drop_zero, plainL, d_run, d_false, h_cons, pureC, f62_1, g59, fb2, h_zero, o_true, rawC, true_and, r_blk_normal, r_nil, strB, strK, nilS, r_exit, r_code_exit]
      refine ⟨fun hf => absurd (of_decide_eq_true hf) (by omega), fun _ => ?_⟩
      refine run_ok Γok (stops := []) 400 _ _ _ ?_
      simp only [r_blk_hit, r_seq, r_reg, r_ops, rawOp, stopAt, memN, Bool.or_false, o_false, dstOk, Nat.lt_add_one, gdK, stC, stpK, pureK, rdK, kn, SV.known, evO, getT, Nat.reduceEqDiff, ↓reduceIte, putA, St.put, Nat.reduceLT, r_ops_nil, r_ret, r_nil, RX.Ends, retK, resvK, oneTup, true_and]
      intro w' hw
      have := hw.rs
      rw [hje, hcurN] at this
      refine ⟨by rw [hje]; rfl, this.1, this.2.1⟩
end Go.Proofs.Ytoplidleecbdeaa
