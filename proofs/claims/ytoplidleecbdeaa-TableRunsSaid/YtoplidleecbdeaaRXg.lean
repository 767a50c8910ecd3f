/- The run over what is left to do; it is sound. -/
import Derived.Test.YtoplidleecbdeaaRXf
set_option linter.unusedVariables false
set_option linter.unusedSimpArgs false
namespace Go.Proofs.RX
open Go Go.RowKit

section
variable {P : Program} {s : St}
theorem bslK_ok {Γ : Ty} (hΓ : Γ.ok P) {t : TypeId} {n : Nat} {parts : Array (Nat × Operand)} {kk : St → SV → Prop} (h : bslK Γ s t n parts.toList kk) :
    ∃ (e : Nat) (cs : List SV), (∀ b, kk { s with hp := s.hp ++ [(b, .cells cs e)] } (.sl s.hp.length b 0 n n)) ∧
      ∀ (o : Oper) (a : Act) (w : World), o.op = .buildSlice t n parts → Sat s a w → (execOp a.eval o).run P w = .ok (.value (.slice (some ⟨w.heap.size, 0, none⟩) n n)) (w.alloc (.cells (denL cs).toArray e)) := by
  unfold bslK at h
  split at h
  · exact h.elim
  · rename_i ti hti
    split at h
    · rename_i e hkd
      split at h
      · exact h.elim
      · rename_i te hte
        obtain ⟨hlen, hn, hsz, hmax, h⟩ := h
        have hok := findT_ok hΓ.ts hti
        have hoke := findT_ok hΓ.ts hte
        obtain ⟨cs, hk, hcl, hkn, hfill⟩ := catK_ok h
        refine ⟨e, cs, hk, fun o a w ho hs => ?_⟩
        obtain ⟨d, hd, hk'⟩ := und_of hok.1
        rw [hkd] at hk'
        cases d <;> simp only [kdOf] at hk' <;> cases hk'
        obtain ⟨zv, hz, hzc⟩ := run_zeroValue (P := P) w hoke
        have hs2 := run_sizeOf (P := P) w hoke
        have hpl : (partsL s parts.toList).length = n := by
          have : ∀ l : List (Nat × Operand), (partsL s l).length = l.length := by
            intro l
            induction l with
            | nil => rfl
            | cons x r ih => simp [partsL, ih]
          rw [this, hlen]
        have hpe := partsL_eval hs parts.toList hkn
        have hf := hfill ((Array.range (n * te.size)).map (zv.cells[· % zv.cells.size]!)) (by simp [hpl])
        simp only [hpl, Nat.zero_add, Nat.zero_mul, List.take_zero, List.nil_append] at hf
        rw [List.drop_eq_nil_of_le (by simp), List.append_nil] at hf
        have hne : ¬ n * te.size = 0 := by
          have := Nat.mul_pos hn hsz
          omega
        simp only [execOp, ho, Instr.buildSlice]
        simp only [Sem.run_bind, run_underlying hd, Result.andThen_ok, hs2]
        rw [if_neg (by simpa using hmax)]
        simp only [Sem.run_bind, Sem.run_pure, Result.andThen_ok]
        rw [if_neg hne]
        simp only [Sem.run_bind, Sem.run_pure, Result.andThen_ok, hz]
        simp only [Array.toList_map] at hpe ⊢
        erw [hpe, hf]
        simp [newRow]
        try rfl
    · exact h.elim
end

/-! ### One operation -/
/-- A value, the world as it was. -/
def pureK (Γ : Ty) (s : St) (op : Op) (kk : SV → Prop) : Prop :=
  match op with
  | .build t parts => buildOpK Γ s t parts.toList kk
  | .makeFunc fn first cap => match fn with
    | .func f => first.toList.length = 0 ∧ (∀ p ∈ cap.toList, (evO s p).known = true) ∧ kk (.fn f (cap.toList.map (evO s)))
    | _ => False
  | op => rdK Γ s op kk
def putS (dst : Option Tmp) (kk : St → Prop) (s : St) : Prop := kk (s.put dst (.lit undef))
def putA (dst : Option Tmp) (kk : St → Prop) (s : St) (v : SV) : Prop := kk (s.put dst v)
/-- An operation that is no call: what is left is asked of the state behind it. -/
def stpK (Γ : Ty) (s : St) (op : Op) (dst : Option Tmp) (kk : St → Prop) : Prop :=
  match op with
  | .store t x y => storeK Γ s t x y (putS dst kk)
  | .alloc t => allocK Γ s t (putA dst kk)
  | .box t x => boxK s t x (putA dst kk)
  | .buildSlice t n parts => bslK Γ s t n parts.toList (putA dst kk)
  | op => pureK Γ s op (putA dst kk s)

theorem pureK_ok {P : Program} {Γ : Ty} (hΓ : Γ.ok P) {s : St} {op : Op} {kk : SV → Prop} (h : pureK Γ s op kk) : ∃ sv, kk sv ∧ sv.known = true ∧ Yld P s op sv := by
  unfold pureK at h
  split at h
  · exact buildOpK_ok hΓ h
  · rename_i fn first cap
    split at h
    · rename_i f
      obtain ⟨h1, h2, h3⟩ := h
      refine ⟨_, h3, rfl, fun o a w hop hs => ?_⟩
      have hfe : first = #[] := by
        have : first.toList = [] := List.eq_nil_of_length_eq_zero h1
        simpa using this
      have hce : cap.map a.eval = (denL (cap.toList.map (evO s))).toArray := by
        apply Array.toList_inj.1
        simp only [Array.toList_map]
        rw [denL_map, List.map_map]
        exact List.map_congr_left (fun x hx => ev_ok hs x (h2 x hx))
      simp [execOp, hop, Instr.makeFunc, SV.den, hfe, hce]
    · exact h.elim
  · exact rdK_ok hΓ h

theorem put_n (s : St) (d : Option Tmp) (v : SV) : (s.put d v).n = s.n := by cases d <;> rfl
theorem Sat.of_parts {s s' : St} {a : Act} {w w' : World} (hs : Sat s a w) (hn : s'.n = s.n) (ht : s'.tm = s.tm) (hH : SatH s' w') : Sat s' a w' := ⟨by rw [hn]; exact hs.sz, by rw [ht]; exact hs.fr, hs.df, hH⟩
theorem Sat.newH {s : St} {a : Act} {w w' : World} {h' : List (Nat × SO)} (hs : Sat s a w) (hH : SatH { s with hp := h' } w') : Sat { s with hp := h' } a w' := ⟨hs.sz, hs.fr, hs.df, hH⟩
theorem dstOk_of {s s' : St} {d : Option Tmp} (h : dstOk s d) (hn : s'.n = s.n) : dstOk s' d := by cases d <;> simp_all [dstOk]

theorem stpK_ok {P : Program} {Γ : Ty} (hΓ : Γ.ok P) {s : St} {o : Oper} {kk : St → Prop} (hd : dstOk s o.dst) (h : stpK Γ s o.op o.dst kk) :
    ∀ a w, Sat s a w → ∃ u w' s', ((execOp a.eval o).run P w = .ok (.value u) w' ∨ ((execOp a.eval o).run P w = .ok .skip w' ∧ u = undef)) ∧ Sat s' (a.put o.dst u) w' ∧ kk s' := by
  intro a w hs
  unfold stpK at h
  split at h
  · rename_i t x y hop
    obtain ⟨s', hk, hn, ht, hr⟩ := storeK_ok hΓ h
    obtain ⟨w', hr, hH⟩ := hr o a w hop hs
    exact ⟨undef, w', _, .inr ⟨hr, rfl⟩, (hs.of_parts hn ht hH).put (dstOk_of hd hn) _ _ (fun _ => rfl), hk⟩
  · rename_i t hop
    unfold allocK at h
    split at h
    · exact h.elim
    · rename_i ti hti
      have hok := findT_ok hΓ.ts hti
      obtain ⟨zv, hz, hzc⟩ := run_zeroValue (P := P) w hok
      have hH := hs.H.new (.cells zv.cells t) (.cells (litL ti.zero) t) (by rw [hzc]; show _ = some _; rw [denL_litL])
      refine ⟨_, _, _, .inl ?_, (hs.newH hH).put (dstOk_of hd rfl) (.ptr s.hp.length w.heap.size 0) _ (fun _ => rfl), h w.heap.size⟩
      simp [execOp, hop, Instr.alloc, hz, newVar, newRow, SV.den]
      try rfl
  · rename_i t x hop
    obtain ⟨hf, h⟩ := h
    obtain ⟨h1, hcl⟩ := SV.flat_cells hf
    have e2 := ev_ok hs x (flat_known hf)
    have hH := hs.H.new (.cells (evO s x).den.cells t) (.cells (evO s x).cells t) (by rw [hcl]; rfl)
    refine ⟨_, _, _, .inl ?_, (hs.newH hH).put (dstOk_of hd rfl) (.ptr s.hp.length w.heap.size 0) _ (fun _ => rfl), h w.heap.size⟩
    simp [execOp, hop, Instr.box, newVar, newRow, SV.den, e2]
    try rfl
  · rename_i t n parts hop
    obtain ⟨e, cs, hk, hr⟩ := bslK_ok hΓ h
    have hH := hs.H.new (.cells (denL cs).toArray e) (.cells cs e) rfl
    exact ⟨_, _, _, .inl (hr o a w hop hs), (hs.newH hH).put (dstOk_of hd rfl) (.sl s.hp.length w.heap.size 0 n n) _ (fun _ => rfl), hk w.heap.size⟩
  · rename_i hop
    obtain ⟨sv, hk, hkn, hy⟩ := pureK_ok hΓ h
    exact ⟨_, _, _, .inl (hy o a w rfl hs), hs.put hd _ _ (fun _ => rfl), hk⟩

/-! ### Guards -/
def dstAt : List Oper → Nat → Option Tmp
  | [], _ => none
  | o :: _, 0 => o.dst
  | _ :: r, n + 1 => dstAt r n
def wantK (b want : Bool) (kw ks : St → Prop) (s : St) : Prop :=
  match b with
  | true => match want with
    | true => kw s
    | false => ks s
  | false => match want with
    | true => ks s
    | false => kw s
def gdvK (s : St) (d : Tmp) (want : Bool) (v : SV) (kw ks : St → Prop) : Prop :=
  match v with
  | .lit (.bool b) => wantK b want kw ks s
  | .bs b => (b = true → wantK true want kw ks (s.put (some d) (.lit (.bool true)))) ∧ (b = false → wantK false want kw ks (s.put (some d) (.lit (.bool false))))
  | .lit (.tuple _) => ks s
  | _ => False
def gdK (all : List Oper) (s : St) (g : Option (Nat × Bool)) (kw ks : St → Prop) : Prop :=
  match g with
  | none => kw s
  | some (j, want) => match dstAt all j with
    | some d => d < s.n ∧ gdvK s d want (getT s.tm d) kw ks
    | none => False
theorem dstAt_get (l : List Oper) (j : Nat) : dstAt l j = (l[j]?).bind (·.dst) := by
  induction l generalizing j with
  | nil => simp [dstAt]
  | cons x r ih => cases j <;> simp [dstAt, ih]
theorem wantK_ok {b want : Bool} {kw ks : St → Prop} {s : St} (h : wantK b want kw ks s) : ((some b == some want) = true ∧ kw s) ∨ ((some b == some want) = false ∧ ks s) := by
  cases b <;> cases want <;> simp_all [wantK]
theorem yielded_of {s : St} {a : Act} {w : World} (hs : Sat s a w) {all : List Oper} {j : Nat} {d : Tmp} {b : Bool} (hj : dstAt all j = some d) (hd : d < s.n) (hk : (getT s.tm d).known = true) (hv : (getT s.tm d).den = .bool b) : yielded all.toArray a.tmps j = some b := by
  unfold yielded
  rw [dstAt_get] at hj
  have h1 := hs.fr d hk
  rw [hv] at h1
  have hd' : d < a.tmps.size := by rw [hs.sz]; exact hd
  have : a.tmps[d]? = some (.bool b) := by
    rw [Array.getElem?_eq_getElem hd']
    simp [hd'] at h1
    rw [h1]
  simp only [List.getElem?_toArray, hj, Option.bind_some, this]
theorem gdK_ok {all : List Oper} {s : St} {o : Oper} {kw ks : St → Prop} (h : gdK all s o.guard kw ks) :
    ∃ s', s'.n = s.n ∧ (∀ a w, Sat s a w → Sat s' a w) ∧ (((∀ a w, Sat s a w → Region.wanted o (yielded all.toArray a.tmps) = true) ∧ kw s') ∨ ((∀ a w, Sat s a w → Region.wanted o (yielded all.toArray a.tmps) = false) ∧ ks s')) := by
  unfold gdK at h
  split at h
  · rename_i hg
    exact ⟨s, rfl, fun _ _ h => h, .inl ⟨fun a w hs => by simp [Region.wanted, hg], h⟩⟩
  · rename_i j want hg
    split at h
    · rename_i d hd
      obtain ⟨hn, h⟩ := h
      have key : ∀ b : Bool, (getT s.tm d).known = true → (getT s.tm d).den = .bool b → ∀ a w, Sat s a w → Region.wanted o (yielded all.toArray a.tmps) = (some b == some want) := by
        intro b hk hv a w hs
        simp only [Region.wanted, hg, yielded_of hs hd hn hk hv]
      have hput : ∀ b : Bool, (getT s.tm d).known = true → (getT s.tm d).den = .bool b → ∀ a w, Sat s a w → Sat (s.put (some d) (.lit (.bool b))) a w := by
        intro b hk hv a w hs
        refine ⟨hs.sz, fun t ht => ?_, hs.df, (St.put_H s (some d) _ w).2 hs.H⟩
        simp only [St.put, getT] at ht ⊢
        by_cases e : d = t
        · subst e
          simp only [if_true]
          rw [hs.fr d hk, hv]
          rfl
        · simp only [if_neg e] at ht ⊢
          exact hs.fr t ht
      unfold gdvK at h
      split at h
      · rename_i b hv
        have kk := key b (by rw [hv]; rfl) (by rw [hv]; rfl)
        rcases wantK_ok h with ⟨h1, h2⟩ | ⟨h1, h2⟩
        · exact ⟨s, rfl, fun _ _ h => h, .inl ⟨fun a w hs => (kk a w hs).trans h1, h2⟩⟩
        · exact ⟨s, rfl, fun _ _ h => h, .inr ⟨fun a w hs => (kk a w hs).trans h1, h2⟩⟩
      · rename_i b hv
        have k1 : (getT s.tm d).known = true := by rw [hv]; rfl
        cases b with
        | true =>
          have k2 : (getT s.tm d).den = .bool true := by rw [hv]; rfl
          have kk := key true k1 k2
          rcases wantK_ok (h.1 rfl) with ⟨h1, h2⟩ | ⟨h1, h2⟩
          · exact ⟨s.put (some d) (.lit (.bool true)), rfl, hput true k1 k2, .inl ⟨fun a w hs => (kk a w hs).trans h1, h2⟩⟩
          · exact ⟨s.put (some d) (.lit (.bool true)), rfl, hput true k1 k2, .inr ⟨fun a w hs => (kk a w hs).trans h1, h2⟩⟩
        | false =>
          have k2 : (getT s.tm d).den = .bool false := by rw [hv]; rfl
          have kk := key false k1 k2
          rcases wantK_ok (h.2 rfl) with ⟨h1, h2⟩ | ⟨h1, h2⟩
          · exact ⟨s.put (some d) (.lit (.bool false)), rfl, hput false k1 k2, .inl ⟨fun a w hs => (kk a w hs).trans h1, h2⟩⟩
          · exact ⟨s.put (some d) (.lit (.bool false)), rfl, hput false k1 k2, .inr ⟨fun a w hs => (kk a w hs).trans h1, h2⟩⟩
      · rename_i cells hv
        refine ⟨s, rfl, fun _ _ h => h, .inr ⟨fun a w hs => ?_, h⟩⟩
        have h1 := hs.fr d (by rw [hv]; rfl)
        rw [hv] at h1
        simp only [SV.den] at h1
        have hd' : d < a.tmps.size := by rw [hs.sz]; exact hn
        have hy : yielded all.toArray a.tmps j = none := by
          unfold yielded
          rw [dstAt_get] at hd
          have : a.tmps[d]? = some (.tuple cells) := by
            rw [Array.getElem?_eq_getElem hd']
            simp [hd'] at h1
            rw [h1]
          simp only [List.getElem?_toArray, hd, Option.bind_some, this]
        simp only [Region.wanted, hg, hy]
        rfl
      · exact h.elim
    · exact h.elim
end Go.Proofs.RX
