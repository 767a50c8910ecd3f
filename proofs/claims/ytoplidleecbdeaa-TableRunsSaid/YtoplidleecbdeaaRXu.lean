/- Rows with their contents; rows that grow. -/
import Derived.Test.YtoplidleecbdeaaRXt
set_option linter.unusedVariables false
set_option linter.unusedSimpArgs false
namespace Go.Proofs.RX
open Go Go.RowKit

/-- A row's value: none: nil; else its block, its capacity. -/
def rowV (n : Nat) (o : Option (Nat × Nat)) : Value := .slice ((o.map fun p : Nat × Nat => (p.1, 0)).map fun p : Nat × Nat => ⟨p.1, p.2, none⟩) n ((o.map (·.2)).getD 0)
def rowSV (o : Option (Nat × Nat)) (n : Nat) (f : Nat → List SV) : SV := .vec (o.map fun p => (p.1, 0)) n ((o.map (·.2)).getD 0) f
def rowB (o : Option (Nat × Nat)) : Option Nat := o.map (·.1)
theorem rowSV_den (o : Option (Nat × Nat)) (n : Nat) (f : Nat → List SV) : (rowSV o n f).den = rowV n o := by
  rfl
theorem rowV_eq (o : Option (Nat × Nat)) (n : Nat) : Value.slice (Option.map (fun p : Nat × Nat => (⟨p.1, p.2, none⟩ : Addr)) (Option.map (fun p : Nat × Nat => (p.1, 0)) o)) n ((Option.map (fun p : Nat × Nat => p.2) o).getD 0) = rowV n o := Eq.trans rfl rfl
theorem wrap_i64 {x : Int} (h1 : -9223372036854775808 ≤ x) (h2 : x ≤ 9223372036854775807) : IntKind.i64.wrap x = x := by
  rw [IntKind.wrap_i64]
  omega
theorem rowB_own (n : Nat) (o : Option (Nat × Nat)) : (rowV n o).ownBlock = rowB o := by cases o <;> rfl
/-- A row that is nobody else's. -/
structure Row (e : TypeId) (size : Nat) (o : Option (Nat × Nat)) (n : Nat) (xs : List Value) (w : World) : Prop where
  nil : o = none → n = 0
  own : w.ownsRow 0 e size (rowV n o) n xs
theorem Row.dep (e : TypeId) (size : Nat) (o : Option (Nat × Nat)) (n : Nat) (xs : List Value) : Dep (fun k => rowB o = some k) (Row e size o n xs) :=
  fun w w' hk h1 h2 h3 h4 h => ⟨h.nil, Dep.own e size n (rowV n o) xs w w' (fun k hk' => hk k (by rw [rowB_own] at hk'; exact hk')) h1 h2 h3 h4 h.own⟩
theorem Row.lt {e : TypeId} {size : Nat} {o : Option (Nat × Nat)} {n : Nat} {xs : List Value} {w : World} (h : Row e size o n xs w) (k : Nat) (hk : rowB o = some k) : k < w.heap.size := own_lt0 h.own k (by rw [rowB_own]; exact hk)
theorem Row.below {e : TypeId} {size : Nat} {o : Option (Nat × Nat)} {n : Nat} {xs : List Value} {w w1 : World} (h : Row e size o n xs w) (hb : Below w.heap.size w w1) : Row e size o n xs w1 :=
  Row.dep e size o n xs w w1 (fun k hk => hb.block k (h.lt k hk)) hb.os hb.tape hb.output hb.size h
theorem Row.empty (e : TypeId) (size : Nat) (w : World) : Row e size none 0 [] w := ⟨fun _ => rfl, ⟨by simp, .inl ⟨rfl, rfl⟩⟩⟩
theorem own_row {w : World} {e : TypeId} {size n : Nat} {v : Value} {xs : List Value} (h : w.ownsRow 0 e size v n xs) : ∃ o, v = rowV n o ∧ Row e size o n xs w := by
  have h0 := h
  obtain ⟨h1, h2⟩ := h
  rcases h2 with ⟨rfl, rfl⟩ | ⟨g, cap, cur, rfl, hb, hh, r⟩
  · exact ⟨none, rfl, fun _ => rfl, h0⟩
  · exact ⟨some (g, cap), rfl, (by simp), h0⟩

/-- The cells of a list of things. -/
def rowL {T : Type} (enc : T → List SV) (L : List T) : List Value := L.flatMap fun x => denL (enc x)
theorem rowL_nil {T : Type} (enc : T → List SV) : rowL enc [] = [] := rfl
theorem rowL_cons {T : Type} (enc : T → List SV) (x : T) (L : List T) : rowL enc (x :: L) = denL (enc x) ++ rowL enc L := by simp [rowL]
theorem rowL_snoc {T : Type} (enc : T → List SV) (L : List T) (x : T) : rowL enc (L ++ [x]) = rowL enc L ++ denL (enc x) := by simp [rowL]
theorem rowL_get {T : Type} {enc : T → List SV} {size : Nat} (hs : ∀ x, (enc x).length = size) {L : List T} {j : Nat} {x : T} (h : L[j]? = some x) (i : Nat) (hi : i < size) : (rowL enc L)[j * size + i]? = (denL (enc x))[i]? := by
  induction L generalizing j with
  | nil => simp at h
  | cons y r ih =>
    cases j with
    | zero =>
      simp at h
      subst h
      rw [rowL_cons, List.getElem?_append_left (by rw [denL_length, hs]; omega)]
      simp
    | succ j =>
      have := ih (j := j) (by simpa using h)
      rw [rowL_cons, List.getElem?_append_right (by rw [denL_length, hs, Nat.succ_mul]; omega), ← this]
      congr 1
      rw [denL_length, hs, Nat.succ_mul]
      omega
theorem Row.at {T : Type} {enc : T → List SV} {e : TypeId} {size : Nat} (hs : ∀ x, (enc x).length = size) {o : Option (Nat × Nat)} {L : List T} {w : World} (h : Row e size o L.length (rowL enc L) w) (d : T) {j : Nat} (hj : j < L.length) :
    Option.map (fun p : Nat × Nat => (p.1, 0)) o ≠ none ∧ cellsAt w ((Option.map (fun p : Nat × Nat => (p.1, 0)) o).getD (0, 0)).1 (((Option.map (fun p : Nat × Nat => (p.1, 0)) o).getD (0, 0)).2 + j * size) (enc (L.getD j d)) := by
  rcases o with _ | ⟨g, c⟩
  · exact absurd (h.nil rfl) (by omega)
  refine ⟨by simp, fun i v hv => ?_⟩
  have hx : L[j]? = some (L.getD j d) := by simp [hj]
  have hi : i < size := by
    rw [getL_get] at hv
    have := (List.getElem?_eq_some_iff.1 hv).1
    rw [hs] at this
    exact this
  have h1 := h.own.cells (g := g) rfl (j * size + i) v.den (by
    rw [rowL_get hs hx i hi, denL_get, ← getL_get, hv]; rfl)
  simpa [add_none, Nat.add_assoc] using h1

section
variable {P : Program} {k : List It} {s : St} {K : Exit → St → Prop} {all r : List Oper} {o : Oper}
/-- 'append(x, y...)', y a tracked row. -/
theorem VdT.appendV {x y : Operand} {t e : TypeId} {q : Option (Nat × Nat)} {f : Nat → List SV} {i b m n size bytes : Nat} {cs : List SV} {xs : List Value} {F : Nat → Prop} {p : World → Prop} (f' : Nat → List SV)
    (hg : o.guard = none) (hop : o.op = .call { callee := .builtin .append, args := #[x, y], argTypes := #[t, t] })
    (ht : P.underlying t = some (.slice e)) (hi : (P.info? e).map (fun i => (i.size, i.bytes, i.zero.map (fun z => z.cells.size))) = some (size, bytes, some size)) (hsz : 0 < size)
    (hx : evO s x = rowSV q n f) (hy : evO s y = .sl i b 0 m m) (hb : getH s.hp i = some (b, .cells cs e)) (hcs : cs.length = m * size) (h1 : oneL cs) (hd : dstOk s o.dst)
    (hfp : s.fp = fun k => F k ∨ rowB q = some k) (hres : s.res = fun w => p w ∧ Row e size q n xs w) (hdep : Dep F p) (hF : ∀ k, F k → rowB q ≠ some k)
    (hbytes : (n + m) * bytes ≤ 140737488355328) (hmax : n + m ≤ 9223372036854775807)
    (h : ∀ q', (∀ k, F k → rowB q' ≠ some k) → VdT P (.ops all r :: k) .normal (({ s with fp := fun k => F k ∨ rowB q' = some k, res := fun w => p w ∧ Row e size q' (n + m) (xs ++ denL cs) w } : St).put o.dst (rowSV q' (n + m) f')) K) :
    VdT P (.ops all (o :: r) :: k) .normal s K :=
  VdT.op (fun a w hs => by simp [Region.wanted, hg]) fun a w hs => by
    obtain ⟨ii, hii, hp⟩ := Option.map_eq_some_iff.1 hi
    simp only [Prod.mk.injEq] at hp
    obtain ⟨h2, h3, h4⟩ := hp
    obtain ⟨zv, hz, hzs⟩ := Option.map_eq_some_iff.1 h4
    have hrs := hs.H.rs
    rw [hres] at hrs
    obtain ⟨hpw, hown⟩ := hrs
    have ex := ev_ok hs x (by rw [hx]; rfl)
    have ey := ev_ok hs y (by rw [hy]; rfl)
    rw [hx, rowSV_den] at ex
    rw [hy] at ey
    simp only [SV.den] at ey
    have hblk := hs.H.blk hb
    obtain ⟨v', w', hr, hown', hgr, hnil, hat⟩ := run_append_own_at (P := P) w 0 t o.type e ii zv size bytes ht hii hz h2 h3 hzs hsz (rowV n q) n xs hown.own ⟨b, 0, none⟩ m m (denL cs) (by rw [denL_length, hcs])
      (fun j u hj => by
        rw [add_none]
        simp only [Nat.zero_add]
        rw [cell_of_row w b j _ e (0, 0) hblk]
        simpa using hj) (oneL_den h1) (by unfold maxLen; omega) hbytes (Nat.zero_le _)
    obtain ⟨q', hq', hrow'⟩ := own_row hown'
    have hnew : ∀ k, rowB q' = some k → rowB q = some k ∨ w.heap.size = k := by
      intro k hk
      rw [← rowB_own (n + m), ← hq'] at hk
      rw [← rowB_own n q]
      rcases hat with h | h
      · exact .inl (h ▸ hk)
      · rw [h] at hk; exact .inr (by simpa using hk)
    have hF' : ∀ k, F k → rowB q' ≠ some k := by
      intro k hk he
      rcases hnew k he with h | h
      · exact hF k hk h
      · have := hs.H.fpl k (by rw [hfp]; exact .inl hk)
        omega
    have hfar0 : ∀ j b' cs' t', getH s.hp j = some (b', .cells cs' t') → ¬ F b' ∧ rowB q ≠ some b' := by
      intro j b' cs' t' hj
      have := hs.H.far j b' cs' t' hj
      rw [hfp] at this
      exact ⟨fun h => this (.inl h), fun h => this (.inr h)⟩
    refine ⟨v', w', _, .inl ?_, ?_, h q' hF'⟩
    · simp only [execOp, hop, resolve, invoke, builtin, Sem.run_bind, Sem.run_pure, Result.andThen_ok, List.map_toArray, List.map_cons, List.map_nil, ex, ey, hr]
    · refine (hs.of_parts (s' := { s with fp := fun k => F k ∨ rowB q' = some k, res := fun w => p w ∧ Row e size q' (n + m) (xs ++ denL cs) w }) rfl rfl ?_).put hd _ _ (fun _ => by rw [hq', rowSV_den])
      refine ⟨hs.H.nd, ?_, fun q hq => Nat.lt_of_lt_of_le (hs.H.lt q hq) hgr.size, ?_, ?_, hdep.and (Row.dep e size q' (n + m) (xs ++ denL cs)), ?_, hrow'⟩
      · intro j b' so hj
        cases so with
        | unk => trivial
        | cells cs' t' =>
          rw [hgr.block b' (hs.H.lt _ (getH_mem hj)) (fun he => (hfar0 j b' cs' t' hj).2 (by rw [← rowB_own n]; exact he.symm))]
          exact hs.H.obj j b' _ hj
      · intro j b' cs' t' hj hc
        rcases hc with hc | hc
        · exact (hfar0 j b' cs' t' hj).1 hc
        · rcases hnew b' hc with hc | hc
          · exact (hfar0 j b' cs' t' hj).2 hc
          · have := hs.H.lt _ (getH_mem hj); simp at this; omega
      · intro q hq
        rcases hq with hq | hq
        · exact Nat.lt_of_lt_of_le (hs.H.fpl q (by rw [hfp]; exact .inl hq)) hgr.size
        · exact hrow'.lt q hq
      · exact hdep w w' (fun q hq => hgr.block q (hs.H.fpl q (by rw [hfp]; exact .inl hq)) (fun he => hF q hq (by rw [← rowB_own n]; exact he.symm))) hgr.os hgr.tape hgr.output hgr.size hpw
end
end Go.Proofs.RX
