/- Raw values; rows that grow; what is known apart. -/
import Derived.Test.YtoplidleecbdeaaRXk
import Derived.Maps.AppendAt
set_option linter.unusedVariables false
set_option linter.unusedSimpArgs false
namespace Go.Proofs.RX
open Go Go.RowKit

theorem Dep.below (B : Nat) (w0 : World) (hB : B ≤ w0.heap.size) : Dep (· < B) (Below B w0) := fun w1 w2 hk h1 h2 h3 h4 hb =>
  ⟨h1.trans hb.os, h2.trans hb.tape, h3.trans hb.output, Nat.le_trans hb.size h4, fun k hlt => (hk k hlt).trans (hb.block k hlt)⟩
theorem Dep.own (e : TypeId) (size n : Nat) (v : Value) (xs : List Value) : Dep (fun k => v.ownBlock = some k) (fun w => w.ownsRow 0 e size v n xs) := by
  intro w w' hk _ _ _ hz h
  exact h.kept (row := none) (w' := w') |> fun f => by
    obtain ⟨h1, h2⟩ := h
    refine ⟨h1, ?_⟩
    rcases h2 with h2 | ⟨g, cap, cur, rfl, hb, hh, r⟩
    · exact .inl h2
    · exact .inr ⟨g, cap, cur, rfl, hb, (hk g rfl).trans hh, r⟩
theorem Dep.and {F G : Nat → Prop} {p q : World → Prop} (hp : Dep F p) (hq : Dep G q) : Dep (fun k => F k ∨ G k) (fun w => p w ∧ q w) :=
  fun w w' hk h1 h2 h3 h4 ⟨a, b⟩ => ⟨hp w w' (fun k h => hk k (.inl h)) h1 h2 h3 h4 a, hq w w' (fun k h => hk k (.inr h)) h1 h2 h3 h4 b⟩
theorem Dep.true (F : Nat → Prop) : Dep F (fun _ => True) := fun _ _ _ _ _ _ _ _ => trivial
theorem own_lt0 {w : World} {e : TypeId} {size n : Nat} {v : Value} {xs : List Value} (h : w.ownsRow 0 e size v n xs) (k : Nat) (hk : v.ownBlock = some k) : k < w.heap.size := by
  rcases h.2 with ⟨rfl, _⟩ | ⟨g, cap, cur, rfl, hb, hh, _⟩
  · simp [Value.ownBlock] at hk
  · have : g = k := by simpa [Value.ownBlock] using hk
    subst this
    exact (Array.getElem?_eq_some_iff.1 hh).1

/-- The old blocks but some stand. -/
structure Keep (M : Nat → Prop) (w w' : World) : Prop where
  os : w'.os = w.os
  tape : w'.tape = w.tape
  output : w'.output = w.output
  size : w.heap.size ≤ w'.heap.size
  block : ∀ k, k < w.heap.size → ¬ M k → w'.heap[k]? = w.heap[k]?
theorem Keep.refl (M : Nat → Prop) (w : World) : Keep M w w := ⟨rfl, rfl, rfl, Nat.le_refl _, fun _ _ _ => rfl⟩
theorem Keep.dep (M : Nat → Prop) (w : World) : Dep (fun k => k < w.heap.size ∧ ¬ M k) (Keep M w) := fun w1 w2 hk h1 h2 h3 h4 hb =>
  ⟨h1.trans hb.os, h2.trans hb.tape, h3.trans hb.output, Nat.le_trans hb.size h4, fun k hlt hm => (hk k ⟨hlt, hm⟩).trans (hb.block k hlt hm)⟩
theorem Keep.mono {M M' : Nat → Prop} {w w' : World} (h : Keep M w w') (hm : ∀ k, M k → M' k) : Keep M' w w' := ⟨h.os, h.tape, h.output, h.size, fun k hk hn => h.block k hk (fun hc => hn (hm k hc))⟩
theorem Keep.trans {M : Nat → Prop} {w w1 w2 : World} (h : Keep M w w1) (k : Keep M w1 w2) : Keep M w w2 :=
  ⟨k.os.trans h.os, k.tape.trans h.tape, k.output.trans h.output, Nat.le_trans h.size k.size, fun i hi hm => (k.block i (Nat.lt_of_lt_of_le hi h.size) hm).trans (h.block i hi hm)⟩
theorem Keep.of_below {M : Nat → Prop} {w w' : World} (h : Below w.heap.size w w') : Keep M w w' := ⟨h.os, h.tape, h.output, h.size, fun k hk _ => h.block k hk⟩
/-- From the start, some blocks being told whole. -/
theorem SatH.start' (n : Nat) (tm : List (Nat × SV)) (hp : List (Nat × SO)) (w : World) (nd : (hp.map (·.1)).Nodup) (obj : ∀ i b o, getH hp i = some (b, o) → o.ok w.heap[b]? ∧ b < w.heap.size) :
    SatH ⟨n, tm, hp, fun k => k < w.heap.size ∧ ¬ k ∈ hp.map (·.1), Keep (fun k => k ∈ hp.map (·.1)) w⟩ w where
  nd := nd
  obj := fun i b o h => (obj i b o h).1
  lt := by
    intro p hp'
    obtain ⟨i, hi⟩ := List.getElem?_of_mem hp'
    exact (obj i p.1 p.2 (by rw [getH_get]; exact hi)).2
  far := by
    intro i b cs t hi h
    exact h.2 (List.mem_map.2 ⟨_, getH_mem hi, rfl⟩)
  fpl := fun k h => h.1
  dep := Keep.dep _ _
  rs := Keep.refl _ _

def okH (w : World) : List (Nat × SO) → Prop
  | [] => True
  | (b, so) :: r => (∃ ob, w.heap[b]? = some ob ∧ so.ok (some ob)) ∧ okH w r
theorem okH_get {w : World} : ∀ {hp : List (Nat × SO)}, okH w hp → ∀ i b o, getH hp i = some (b, o) → o.ok w.heap[b]? ∧ b < w.heap.size
  | [], _, i, b, o, h => by simp [getH] at h
  | (b', so) :: r, ⟨⟨ob, h1, h2⟩, h3⟩, i, b, o, h => by
    cases i with
    | zero =>
      simp only [getH, Option.some.injEq, Prod.mk.injEq] at h
      obtain ⟨rfl, rfl⟩ := h
      exact ⟨by rw [h1]; exact h2, (Array.getElem?_eq_some_iff.1 h1).1⟩
    | succ i => exact okH_get h3 i b o h
theorem SatH.startH (n : Nat) (tm : List (Nat × SV)) (hp : List (Nat × SO)) (w : World) (nd : (hp.map (·.1)).Nodup) (obj : okH w hp) :
    SatH ⟨n, tm, hp, fun k => k < w.heap.size ∧ ¬ k ∈ hp.map (·.1), Keep (fun k => k ∈ hp.map (·.1)) w⟩ w := SatH.start' n tm hp w nd (okH_get obj)

section
variable {P : Program} {Γ : Ty} {k : List It} {s : St} {K : Exit → St → Prop} {all r : List Oper} {o : Oper}
theorem VdT.val {sv : SV} (hg : o.guard = none) (hd : dstOk s o.dst) (hk : sv.known = true) (hy : Yld P s o.op sv) (h : VdT P (.ops all r :: k) .normal (s.put o.dst sv) K) : VdT P (.ops all (o :: r) :: k) .normal s K :=
  VdT.op (fun a w hs => by simp [Region.wanted, hg]) fun a w hs => ⟨_, _, _, .inl (hy o a w rfl hs), hs.put hd _ _ (fun _ => rfl), h⟩
/-- An operation that turns what is known apart, and yields a value. -/
theorem VdT.eff {sv : SV} {s' : St} (hg : o.guard = none) (hd : dstOk s o.dst) (hn : s'.n = s.n) (ht : s'.tm = s.tm)
    (hy : ∀ a w, Sat s a w → ∃ w', ((execOp a.eval o).run P w = .ok (.value sv.den) w' ∨ ((execOp a.eval o).run P w = .ok .skip w' ∧ sv = .lit undef)) ∧ SatH s' w')
    (h : VdT P (.ops all r :: k) .normal (s'.put o.dst sv) K) : VdT P (.ops all (o :: r) :: k) .normal s K :=
  VdT.op (fun a w hs => by simp [Region.wanted, hg]) fun a w hs => by
    obtain ⟨w', hr, hH⟩ := hy a w hs
    refine ⟨sv.den, w', _, ?_, (hs.of_parts hn ht hH).put (dstOk_of hd hn) sv _ (fun _ => rfl), h⟩
    rcases hr with hr | ⟨hr, rfl⟩
    · exact .inl hr
    · exact .inr ⟨hr, rfl⟩

theorem VdT.append {c : Call} {x y : Operand} {t e : TypeId} {z : Value} {v : Value} {i b m n size bytes : Nat} {cs : List SV} {xs : List Value} {F : Nat → Prop} {p : World → Prop}
    (hg : o.guard = none) (hop : o.op = .call { callee := .builtin .append, args := #[x, y], argTypes := #[t, t] })
    (ht : P.underlying t = some (.slice e)) (hi : (P.info? e).map (fun i => (i.size, i.bytes, i.zero.map (fun z => z.cells.size))) = some (size, bytes, some size)) (hsz : 0 < size)
    (hx : evO s x = .lit v) (hy : evO s y = .sl i b 0 m m) (hb : getH s.hp i = some (b, .cells cs e)) (hcs : cs.length = m * size) (h1 : oneL cs) (hd : dstOk s o.dst)
    (hfp : s.fp = fun k => F k ∨ v.ownBlock = some k) (hres : s.res = fun w => p w ∧ w.ownsRow 0 e size v n xs) (hdep : Dep F p) (hF : ∀ k, F k → v.ownBlock ≠ some k)
    (hbytes : (n + m) * bytes ≤ 140737488355328) (hmax : n + m ≤ 9223372036854775807)
    (h : ∀ v', (v' = .slice none 0 0 ↔ v = .slice none 0 0 ∧ m = 0) → (∀ k, F k → v'.ownBlock ≠ some k) → VdT P (.ops all r :: k) .normal (({ s with fp := fun k => F k ∨ v'.ownBlock = some k, res := fun w => p w ∧ w.ownsRow 0 e size v' (n + m) (xs ++ denL cs) } : St).put o.dst (.lit v')) K) :
    VdT P (.ops all (o :: r) :: k) .normal s K :=
  VdT.op (fun a w hs => by simp [Region.wanted, hg]) fun a w hs => by
    obtain ⟨ii, hii, hp⟩ := Option.map_eq_some_iff.1 hi
    simp only [Prod.mk.injEq] at hp
    obtain ⟨h2, h3, h4⟩ := hp
    obtain ⟨zv, hz, hzs⟩ := Option.map_eq_some_iff.1 h4
    have hrs := hs.H.rs
    rw [hres] at hrs
    obtain ⟨hpw, hown⟩ := hrs
    have ex := ev_ok hs x (by rw [hx]; rfl)
    have ey := ev_ok hs y (by rw [hy]; rfl)
    rw [hx] at ex
    rw [hy] at ey
    simp only [SV.den] at ex ey
    have hblk := hs.H.blk hb
    obtain ⟨v', w', hr, hown', hgr, hnil, hat⟩ := run_append_own_at (P := P) w 0 t o.type e ii zv size bytes ht hii hz h2 h3 hzs hsz v n xs hown ⟨b, 0, none⟩ m m (denL cs) (by rw [denL_length, hcs])
      (fun j u hj => by
        rw [add_none]
        simp only [Nat.zero_add]
        rw [cell_of_row w b j _ e (0, 0) hblk]
        simpa using hj) (oneL_den h1) (by unfold maxLen; omega) hbytes (Nat.zero_le _)
    have hnew : ∀ k, v'.ownBlock = some k → v.ownBlock = some k ∨ w.heap.size = k := by
      intro k hk
      rcases hat with h | h
      · exact .inl (h ▸ hk)
      · rw [h] at hk; exact .inr (by simpa using hk)
    have hF' : ∀ k, F k → v'.ownBlock ≠ some k := by
      intro k hk he
      rcases hnew k he with h | h
      · exact hF k hk h
      · have := hs.H.fpl k (by rw [hfp]; exact .inl hk)
        omega
    have hfar0 : ∀ j b' cs' t', getH s.hp j = some (b', .cells cs' t') → ¬ F b' ∧ v.ownBlock ≠ some b' := by
      intro j b' cs' t' hj
      have := hs.H.far j b' cs' t' hj
      rw [hfp] at this
      exact ⟨fun h => this (.inl h), fun h => this (.inr h)⟩
    refine ⟨v', w', _, .inl ?_, ?_, h v' hnil hF'⟩
    · simp only [execOp, hop, resolve, invoke, builtin, Sem.run_bind, Sem.run_pure, Result.andThen_ok, List.map_toArray, List.map_cons, List.map_nil, ex, ey, hr]
    · refine (hs.of_parts (s' := { s with fp := fun k => F k ∨ v'.ownBlock = some k, res := fun w => p w ∧ w.ownsRow 0 e size v' (n + m) (xs ++ denL cs) }) rfl rfl ?_).put hd _ _ (fun _ => rfl)
      refine ⟨hs.H.nd, ?_, fun q hq => Nat.lt_of_lt_of_le (hs.H.lt q hq) hgr.size, ?_, ?_, hdep.and (Dep.own e size (n + m) v' (xs ++ denL cs)), ?_, hown'⟩
      · intro j b' so hj
        cases so with
        | unk => trivial
        | cells cs' t' =>
          rw [hgr.block b' (hs.H.lt _ (getH_mem hj)) (fun he => (hfar0 j b' cs' t' hj).2 he.symm)]
          exact hs.H.obj j b' _ hj
      · intro j b' cs' t' hj hc
        rcases hc with hc | hc
        · exact (hfar0 j b' cs' t' hj).1 hc
        · rcases hnew b' hc with hc | hc
          · exact (hfar0 j b' cs' t' hj).2 hc
          · have := hs.H.lt _ (getH_mem hj); simp at this; omega
      · intro q hq
        rcases hq with hq | hq
        · exact Nat.lt_of_lt_of_le (hs.H.fpl q (by rw [hfp]; exact .inl hq)) hgr.size
        · exact own_lt0 hown' q hq
      · exact hdep w w' (fun q hq => hgr.block q (hs.H.fpl q (by rw [hfp]; exact .inl hq)) (fun he => hF q hq he.symm)) hgr.os hgr.tape hgr.output hgr.size hpw
end
end Go.Proofs.RX
