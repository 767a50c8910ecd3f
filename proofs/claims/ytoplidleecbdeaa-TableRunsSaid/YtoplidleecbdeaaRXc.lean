/- What an operation that only reads yields. -/
import Derived.Test.YtoplidleecbdeaaRXb
set_option linter.unusedVariables false
set_option linter.unusedSimpArgs false
namespace Go.Proofs.RX
open Go Go.RowKit

def Yld (P : Program) (s : St) (op : Op) (sv : SV) : Prop := ∀ (o : Oper) (a : Act) (w : World), o.op = op → Sat s a w → (execOp a.eval o).run P w = .ok (.value sv.den) w

theorem takeL_get : ∀ (l : List SV) (o m j : Nat), j < m → (takeL l o m)[j]? = l[o + j]?
  | [], o, m, j, h => by cases m <;> simp [takeL]
  | x :: r, 0, 0, j, h => by omega
  | x :: r, 0, m + 1, 0, h => by simp [takeL]
  | x :: r, 0, m + 1, j + 1, h => by
    have := takeL_get r 0 m j (by omega)
    simpa [takeL] using this
  | x :: r, o + 1, 0, j, h => by omega
  | x :: r, o + 1, m + 1, j, h => by
    have := takeL_get r o (m + 1) j h
    rw [takeL, this]
    rw [show o + 1 + j = (o + j) + 1 by omega]
    simp
theorem takeL_length : ∀ (l : List SV) (o m : Nat), o + m ≤ l.length → (takeL l o m).length = m
  | [], o, m, h => by cases m <;> simp_all [takeL]
  | x :: r, 0, 0, h => by simp [takeL]
  | x :: r, 0, m + 1, h => by
    have := takeL_length r 0 m (by simp at h; omega)
    simp [takeL, this]
  | x :: r, o + 1, 0, h => by simp [takeL]
  | x :: r, o + 1, m + 1, h => by
    have := takeL_length r o (m + 1) (by simp at h; omega)
    rw [takeL, this]
theorem getL_get (l : List SV) (j : Nat) : getL l j = l[j]? := by
  induction l generalizing j with
  | nil => simp [getL]
  | cons x r ih => cases j <;> simp [getL, ih]

theorem SatH.blk {s : St} {w : World} (h : SatH s w) {i b : Nat} {cs : List SV} {t : TypeId} (hi : getH s.hp i = some (b, .cells cs t)) : w.heap[b]? = some (.cells (denL cs).toArray t (0, 0)) := h.obj i b _ hi
theorem SatH.cell {s : St} {w : World} (h : SatH s w) {i b : Nat} {cs : List SV} {t : TypeId} (hi : getH s.hp i = some (b, .cells cs t)) {j : Nat} {v : SV} (hj : getL cs j = some v) : w.cell? ⟨b, j, none⟩ = some v.den := by
  rw [cell_of_row w b j _ t (0, 0) (h.blk hi)]
  simp [denL_get, ← getL_get, hj]

section
variable {P : Program} {s : St}

theorem info_of {t n : Nat} {z : List Value} (h : (P.info? t).map (fun i => (i.size, i.zero.map (fun z => z.cells.toList))) = some (n, some z)) : ∃ i zv, P.info? t = some i ∧ i.size = n ∧ i.zero = some zv ∧ zv.cells = z.toArray := by
  obtain ⟨i, hi, h⟩ := Option.map_eq_some_iff.1 h
  simp only [Prod.mk.injEq] at h
  obtain ⟨h1, h2⟩ := h
  obtain ⟨zv, hz, h2⟩ := Option.map_eq_some_iff.1 h2
  exact ⟨i, zv, hi, h1, hz, by rw [← h2]⟩
theorem und_of {t : Nat} {k : Kd} (h : (P.underlying t).map kdOf = some k) : ∃ d, P.underlying t = some d ∧ kdOf d = k := Option.map_eq_some_iff.1 h

theorem run_isAgg (w : World) {t : Nat} {ti : TI} (h : TI.ok P t ti) : (isAgg t).run P w = .ok (match ti.kd with | .row => true | _ => false) w := by
  obtain ⟨d, hd, hk⟩ := und_of h.1
  unfold isAgg
  rw [Sem.run_bind, run_underlying hd w]
  cases d <;> simp [← hk, kdOf]
theorem run_sizeOf (w : World) {t : Nat} {ti : TI} (h : TI.ok P t ti) : (sizeOf t).run P w = .ok ti.size w := by
  obtain ⟨i, zv, hi, hs, _⟩ := info_of h.2
  simp [sizeOf, typeInfo, hi, hs]
theorem run_zeroValue (w : World) {t : Nat} {ti : TI} (h : TI.ok P t ti) : ∃ zv, (zeroValue t).run P w = .ok zv w ∧ zv.cells = ti.zero.toArray := by
  obtain ⟨i, zv, hi, hs, hz, hc⟩ := info_of h.2
  exact ⟨zv, by simp [zeroValue, typeInfo, hi, hz], hc⟩

theorem Yld.of_ev {op : Op} {x : Operand} (hop : op = .move x ∨ op = .assign x) (hk : (evO s x).known = true) : Yld P s op (evO s x) := by
  intro o a w ho hs
  have := ev_ok hs x hk
  rcases hop with rfl | rfl <;> simp [execOp, ho, this]

theorem Yld.pick {c x y : Operand} {b : Bool} (hc : (evO s c).known = true ∧ (evO s c).den = .bool b) (hk : (evO s (if b then x else y)).known = true) : Yld P s (.pick c x y) (evO s (if b then x else y)) := by
  intro o a w ho hs
  have h1 := ev_ok hs c hc.1
  have h2 := ev_ok hs _ hk
  rw [hc.2] at h1
  simp only [execOp, ho, h1, asBool]
  cases b <;> simp_all

theorem Yld.extract {x : Operand} {l : List SV} {j : Nat} {v : SV} (hx : evO s x = .tup l) (hv : getL l j = some v) : Yld P s (.extract x j) v := by
  intro o a w ho hs
  have h1 := ev_ok hs x (by rw [hx]; rfl)
  rw [getL_get] at hv
  simp [execOp, ho, h1, hx, SV.den, Instr.extract, denL_get, hv]

theorem Yld.nilCheck {x : Operand} (h : ∃ ad, (evO s x).den = .pointer (some ad)) (hk : (evO s x).known = true) : Yld P s (.nilCheck x) (evO s x) := by
  intro o a w ho hs
  obtain ⟨ad, h⟩ := h
  have h1 := ev_ok hs x hk
  rw [h] at h1
  simp [execOp, ho, h1, h]

theorem run_fieldAt (w : World) {t f off sz : Nat} (h : fOk P t f off sz) (hz : sz ≠ 0) (ad : Addr) : (Instr.fieldAt t (.pointer (some ad)) f).run P w = .ok (.pointer (some (ad.add off))) w := by
  obtain ⟨pl, h, hf⟩ := h
  unfold sOk at h
  cases hu : P.underlying t with
  | none => simp [hu] at h
  | some d =>
    cases d <;> simp only [hu] at h <;> try (cases h; done)
    rename_i fs
    rw [nthP_get] at hf
    obtain ⟨fd, hfd, h⟩ := mapM_nth h f _ hf
    obtain ⟨i, hi, h⟩ := Option.map_eq_some_iff.1 h
    simp only [Prod.mk.injEq] at h
    obtain ⟨h1, h2⟩ := h
    have h3 : ¬ i.size = 0 := by omega
    have hfd' : fs[f]? = some fd := by simpa using hfd
    simp [Instr.fieldAt, run_underlying hu, hfd', Instr.sureAddr, fieldPlace, sizeOf, typeInfo, hi, h3, h1]

theorem add_none (b o n : Nat) : (⟨b, o, none⟩ : Addr).add n = ⟨b, o + n, none⟩ := by unfold Addr.add; split <;> simp_all

theorem Yld.fieldAddr {Γ : Ty} (hΓ : Γ.ok P) {t f off sz : Nat} {x : Operand} {i b o : Nat} (hf : findF Γ.fs t f = some (off, sz)) (hz : sz ≠ 0) (hx : evO s x = .ptr i b o) : Yld P s (.fieldAddr t x f) (.ptr i b (o + off)) := by
  intro oo a w ho hs
  have h1 := ev_ok hs x (by rw [hx]; rfl)
  simp only [execOp, ho, h1, hx, SV.den]
  simp [run_fieldAt w (findF_ok hΓ.fs hf) hz, add_none]
theorem Yld.fieldAddr' {Γ : Ty} (hΓ : Γ.ok P) {t f off sz : Nat} {x : Operand} {ad : Addr} (hf : findF Γ.fs t f = some (off, sz)) (hz : sz ≠ 0) (hx : evO s x = .lit (.pointer (some ad))) : Yld P s (.fieldAddr t x f) (.lit (.pointer (some (ad.add off)))) := by
  intro oo a w ho hs
  have h1 := ev_ok hs x (by rw [hx]; rfl)
  simp only [execOp, ho, h1, hx, SV.den]
  simp [run_fieldAt w (findF_ok hΓ.fs hf) hz]

theorem Yld.load_row {t : Nat} {ti : TI} (ht : TI.ok P t ti) (hrow : ti.kd = .row) {x : Operand} {i b o t' : Nat} {cs : List SV} (hx : evO s x = .ptr i b o) (hi : getH s.hp i = some (b, .cells cs t')) (hle : o + ti.size ≤ cs.length) :
    Yld P s (.load t x) (.agg (takeL cs o ti.size)) := by
  intro oo a w ho hs
  have h1 := ev_ok hs x (by rw [hx]; rfl)
  obtain ⟨d, hd, hk⟩ := und_of ht.1
  have hl := takeL_length cs o ti.size hle
  have hr := run_loadAt_mid (P := P) w b o t (denL (takeL cs o ti.size)) d (fun j v hv => by
      have hj : j < ti.size := by
        have := (List.getElem?_eq_some_iff.1 hv).1
        rw [denL_length, hl] at this
        exact this
      rw [denL_get, takeL_get _ _ _ _ hj] at hv
      obtain ⟨u, hu, rfl⟩ := Option.map_eq_some_iff.1 hv
      exact hs.H.cell hi (by rw [getL_get]; exact hu)) hd (by rw [hrow] at hk; cases d <;> simp_all [kdOf]) (by
      obtain ⟨ii, zv, hii, hsz, _⟩ := info_of ht.2
      rw [hii, denL_length, hl]; simp [hsz])
  simp only [execOp, ho, h1, hx, SV.den]
  rw [Sem.run_bind, hr]
  rfl
theorem Yld.load_one {t : Nat} {ti : TI} (ht : TI.ok P t ti) (hrow : (match ti.kd with | .row => true | _ => false) = false) {x : Operand} {i b o t' : Nat} {cs : List SV} {v : SV} (hx : evO s x = .ptr i b o) (hi : getH s.hp i = some (b, .cells cs t')) (hv : getL cs o = some v) :
    Yld P s (.load t x) v := by
  intro oo a w ho hs
  have h1 := ev_ok hs x (by rw [hx]; rfl)
  have hc := hs.H.cell hi hv
  have ha := run_isAgg (P := P) w ht
  rw [hrow] at ha
  simp only [execOp, ho, h1, hx, SV.den]
  simp [Instr.loadAt, Instr.sureAddr, loadVar, ha, hc]
def cellsAt (w : World) (b o : Nat) (l : List SV) : Prop := ∀ j v, getL l j = some v → w.cell? ⟨b, o + j, none⟩ = some v.den
/-- What is known of the cells of a place. -/
def Far (p : World → Prop) (b o : Nat) (l : List SV) : Prop := ∀ w, p w → cellsAt w b o l
theorem Yld.load_fp {t : TypeId} {ti : TI} (ht : TI.ok P t ti) (hrow : (match ti.kd with | .row => true | _ => false) = false) {x : Operand} {b o k : Nat} {l : List SV} {v : SV} (hx : evO s x = .fp b o l k) (hf : Far s.res b o l) (hv : getL l k = some v) :
    Yld P s (.load t x) v := by
  intro oo a w ho hs
  have h1 := ev_ok hs x (by rw [hx]; rfl)
  have hc := hf w hs.H.rs k v hv
  have ha := run_isAgg (P := P) w ht
  rw [hrow] at ha
  simp only [execOp, ho, h1, hx, SV.den]
  simp [Instr.loadAt, Instr.sureAddr, loadVar, ha, hc]
theorem Yld.load_fp_row {t : TypeId} {ti : TI} (ht : TI.ok P t ti) (hrow : ti.kd = .row) {x : Operand} {b o k : Nat} {l : List SV} (hx : evO s x = .fp b o l k) (hf : Far s.res b o l) (hle : k + ti.size ≤ l.length) :
    Yld P s (.load t x) (.agg (takeL l k ti.size)) := by
  intro oo a w ho hs
  have h1 := ev_ok hs x (by rw [hx]; rfl)
  obtain ⟨d, hd, hk⟩ := und_of ht.1
  have hl := takeL_length l k ti.size hle
  have hr := run_loadAt_mid (P := P) w b (o + k) t (denL (takeL l k ti.size)) d (fun j v hv => by
      have hj : j < ti.size := by
        have := (List.getElem?_eq_some_iff.1 hv).1
        rw [denL_length, hl] at this
        exact this
      rw [denL_get, takeL_get _ _ _ _ hj] at hv
      obtain ⟨u, hu, rfl⟩ := Option.map_eq_some_iff.1 hv
      have := hf w hs.H.rs (k + j) u (by rw [getL_get]; exact hu)
      rw [← Nat.add_assoc] at this
      exact this) hd (by rw [hrow] at hk; cases d <;> simp_all [kdOf]) (by
      obtain ⟨ii, zv, hii, hsz, _⟩ := info_of ht.2
      rw [hii, denL_length, hl]; simp [hsz])
  simp only [execOp, ho, h1, hx, SV.den]
  rw [Sem.run_bind, hr]
  rfl
theorem Yld.fieldAddrF {Γ : Ty} (hΓ : Γ.ok P) {t f off sz : Nat} {x : Operand} {b o k : Nat} {l : List SV} (hf : findF Γ.fs t f = some (off, sz)) (hz : sz ≠ 0) (hx : evO s x = .fp b o l k) : Yld P s (.fieldAddr t x f) (.fp b o l (k + off)) := by
  intro oo a w ho hs
  have h1 := ev_ok hs x (by rw [hx]; rfl)
  simp only [execOp, ho, h1, hx, SV.den]
  simp [run_fieldAt w (findF_ok hΓ.fs hf) hz, add_none, Nat.add_assoc]
theorem Yld.load_far {t : Nat} {ti : TI} (ht : TI.ok P t ti) (hrow : (match ti.kd with | .row => true | _ => false) = false) {x : Operand} {ad : Addr} {v : Value} (hx : evO s x = .lit (.pointer (some ad))) (hv : ∀ w, s.res w → w.cell? ad = some v) :
    Yld P s (.load t x) (.lit v) := by
  intro oo a w ho hs
  have h1 := ev_ok hs x (by rw [hx]; rfl)
  have hc := hv w hs.H.rs
  have ha := run_isAgg (P := P) w ht
  rw [hrow] at ha
  simp only [execOp, ho, h1, hx, SV.den]
  simp [Instr.loadAt, Instr.sureAddr, loadVar, ha, hc]
theorem Yld.load_far_row {t : Nat} {ti : TI} (ht : TI.ok P t ti) (hrow : ti.kd = .row) {x : Operand} {ad : Addr} {vs : List Value} (hx : evO s x = .lit (.pointer (some ad))) (hl : vs.length = ti.size) (hv : ∀ w, s.res w → ∀ j v, vs[j]? = some v → w.cell? (ad.add j) = some v) :
    Yld P s (.load t x) (.lit (.agg vs.toArray)) := by
  intro oo a w ho hs
  have h1 := ev_ok hs x (by rw [hx]; rfl)
  obtain ⟨ii, zv, hii, hsz, _⟩ := info_of ht.2
  have hl' : (loadCells ad vs.length).run P w = .ok vs.toArray w := run_loadCells_list (P := P) w ad vs (fun j v h => hv w hs.H.rs j v h)
  have ha := run_isAgg (P := P) w ht
  rw [hrow] at ha
  simp only [execOp, ho, h1, hx, SV.den]
  simp [Instr.loadAt, Instr.sureAddr, loadVar, ha, sizeOf, typeInfo, hii, hsz, ← hl, hl']
end

/-! ### Operators -/
def intK (op : BinOp) (k : IntKind) (a b : Int) (kk : SV → Prop) : Prop :=
  match op with
  | .add => kk (.lit (.int k (k.wrap (a + b))))
  | .sub => kk (.lit (.int k (k.wrap (a - b))))
  | .mul => kk (.lit (.int k (k.wrap (a * b))))
  | .quo => b ≠ 0 ∧ kk (.lit (.int k (k.wrap (a.tdiv b))))
  | .rem => b ≠ 0 ∧ kk (.lit (.int k (a.tmod b)))
  | .eql => kk (.bs (a == b))
  | .neq => kk (.bs (a != b))
  | .lss => kk (.bs (decide (a < b)))
  | .leq => kk (.bs (decide (a ≤ b)))
  | .gtr => kk (.bs (decide (b < a)))
  | .geq => kk (.bs (decide (b ≤ a)))
  | _ => False
def strK (op : BinOp) (a b : ByteArray) (kk : SV → Prop) : Prop :=
  match op with
  | .add => ((a.size + b.size : Nat) : Int) ≤ IntKind.i64.max ∧ kk (.lit (.string (a ++ b)))
  | .eql => kk (.bs (a.toList == b.toList))
  | .neq => kk (.bs (!(a.toList == b.toList)))
  | _ => False
def notS : SV → SV
  | .lit (.bool b) => .lit (.bool (!b))
  | .bs b => .bs (!b)
  | v => v
def eqK (op : BinOp) (v : SV) (kk : SV → Prop) : Prop :=
  match op with
  | .eql => kk v
  | .neq => kk (notS v)
  | _ => False
def nilS (kd : Kd) (x y : SV) : Option SV :=
  match kd with
  | .ptr => match x, y with
    | .ptr .., .lit (.pointer none) => some (.lit (.bool false))
    | .lit (.pointer none), .ptr .. => some (.lit (.bool false))
    | .lit (.pointer none), .lit (.pointer none) => some (.lit (.bool true))
    | .lit (.pointer (some _)), .lit (.pointer none) => some (.lit (.bool false))
    | .lit (.pointer none), .lit (.pointer (some _)) => some (.lit (.bool false))
    | .fp .., .lit (.pointer none) => some (.lit (.bool false))
    | .lit (.pointer none), .fp .. => some (.lit (.bool false))
    | _, _ => none
  | .ifc => match x, y with
    | .ifc .., .lit .nilIface => some (.lit (.bool false))
    | .lit .nilIface, .ifc .. => some (.lit (.bool false))
    | .lit .nilIface, .lit .nilIface => some (.lit (.bool true))
    | .lit (.iface _ _), .lit .nilIface => some (.lit (.bool false))
    | .lit .nilIface, .lit (.iface _ _) => some (.lit (.bool false))
    | _, _ => none
  | .slc _ => match x, y with
    | .sl .., .lit (.slice none _ _) => some (.lit (.bool false))
    | .vec o _ _ _, .lit (.slice none _ _) => some (.bs o.isNone)
    | .lit (.slice none _ _), .lit (.slice none _ _) => some (.lit (.bool true))
    | .lit (.slice (some _) _ _), .lit (.slice none _ _) => some (.lit (.bool false))
    | _, _ => none
  | .mp _ _ => match x, y with
    | .mp .., .lit (.map none) => some (.lit (.bool false))
    | .lit (.map none), .lit (.map none) => some (.lit (.bool true))
    | .lit (.map (some _)), .lit (.map none) => some (.lit (.bool false))
    | _, _ => none
  | _ => none
def isConstO : Operand → Bool
  | .const _ => true
  | .tmp _ | .global _ | .func _ => false
/-- What the rules do not name: to be shown by hand. -/
def fb2 (Γ : Ty) (s : St) (x y : Operand) (f : Value → Value → Sem Value) (kk : SV → Prop) : Prop :=
  (evO s x).known = true ∧ (evO s y).known = true ∧ ∃ v : SV, v.known = true ∧ (∀ w, s.res w → (f (evO s x).den (evO s y).den).run Γ.P w = .ok v.den w) ∧ kk v
def intB (op : BinOp) : Bool :=
  match op with
  | .shl | .shr | .and | .or | .xor | .andNot => false
  | _ => true
def strB (op : BinOp) : Bool :=
  match op with
  | .add | .eql | .neq => true
  | _ => false
def binF (op : BinOp) (t : TypeId) (x y : Operand) (a b : Value) : Sem Value := do
  eqGuard op t x y a b
  binOp op t a b
def binK (Γ : Ty) (s : St) (op : BinOp) (t : TypeId) (x y : Operand) (kk : SV → Prop) : Prop :=
  match evO s x, evO s y with
  | .lit (.int k a), .lit (.int k' b) => match intB op with
    | true => k = k' ∧ intK op k a b kk
    | false => fb2 Γ s x y (binF op t x y) kk
  | .lit (.string a), .lit (.string b) => match strB op with
    | true => strK op a b kk
    | false => fb2 Γ s x y (binF op t x y) kk
  | x', y' => match findT Γ.ts t with
    | some ti => match nilS ti.kd x' y' with
      | some v => (isConstO x || isConstO y) = true ∧ eqK op v kk
      | none => fb2 Γ s x y (binF op t x y) kk
    | none => False

section
variable {P : Program} {s : St}
theorem intK_ok {op : BinOp} {k : IntKind} {a b : Int} {kk : SV → Prop} (h : intK op k a b kk) (t : TypeId) : ∃ sv, kk sv ∧ sv.known = true ∧ ∀ w, (binOp op t (.int k a) (.int k b)).run P w = .ok sv.den w := by
  cases op <;> simp only [intK] at h <;> try exact h.elim
  all_goals first
    | exact ⟨_, h, rfl, fun w => by simp [binOp, Op.intArith, Op.intCmp, SV.den]⟩
    | exact ⟨_, h.2, rfl, fun w => by simp [binOp, Op.intDiv, SV.den, h.1]⟩
theorem strK_ok {op : BinOp} {a b : ByteArray} {kk : SV → Prop} (h : strK op a b kk) (t : TypeId) : ∃ sv, kk sv ∧ sv.known = true ∧ ∀ w, (binOp op t (.string a) (.string b)).run P w = .ok sv.den w := by
  cases op <;> simp only [strK] at h <;> try exact h.elim
  · refine ⟨_, h.2, rfl, fun w => ?_⟩
    have h1 := h.1
    simp only [binOp, Op.stringOp]
    rw [if_neg (by omega)]
    simp [SV.den]
  · exact ⟨_, h, rfl, fun w => by simp [binOp, Op.stringOp, SV.den]⟩
  · exact ⟨_, h, rfl, fun w => by simp [binOp, Op.stringOp, SV.den]⟩
set_option maxHeartbeats 2000000 in
theorem run_equalIn_nil {kd : Kd} {t : TypeId} (hk : (P.underlying t).map kdOf = some kd) {x y v : SV} (h : nilS kd x y = some v) (w : World) (n : Nat) : ∃ b, ((v = .lit (.bool b)) ∨ v = .bs b) ∧ (Op.equalIn (n + 1) t x.den y.den).run P w = .ok b w := by
  obtain ⟨d, hd, hk⟩ := und_of hk
  unfold nilS at h
  cases d <;> simp only [kdOf] at hk <;> subst hk <;> simp only at h <;> first | (cases h; done) | skip
  all_goals
    split at h <;> first | (cases h; done) | skip
    all_goals
      cases h
      first
        | exact ⟨_, .inl rfl, by simp [Op.equalIn, run_underlying hd, SV.den]⟩
        | (rename_i o _ _ _ _ _; exact ⟨_, .inr rfl, by cases o <;> simp [Op.equalIn, run_underlying hd, SV.den]⟩)
theorem run_equal_nil {kd : Kd} {t : TypeId} (hk : (P.underlying t).map kdOf = some kd) {x y v : SV} (h : nilS kd x y = some v) (w : World) : ∃ b, ((v = .lit (.bool b)) ∨ v = .bs b) ∧ (Op.equal t x.den y.den).run P w = .ok b w :=
  run_equalIn_nil hk h w 9999
theorem constO_cases {xo yo : Operand} (hc : (isConstO xo || isConstO yo) = true) : (∃ v, xo = .const v) ∨ ∃ v, yo = .const v := by
  cases xo <;> cases yo <;> simp_all [isConstO]
theorem eqGuard_nil {kd : Kd} {op : BinOp} {t : TypeId} {x y v : SV} (h : nilS kd x y = some v) {xo yo : Operand} (hc : (isConstO xo || isConstO yo) = true) (w : World) : (eqGuard op t xo yo x.den y.den).run P w = .ok () w := by
  unfold nilS at h
  cases kd <;> simp only at h <;> first | (cases h; done) | skip
  all_goals
    split at h <;> first | (cases h; done) | skip
    all_goals
      clear h
      rcases constO_cases hc with ⟨v, rfl⟩ | ⟨v, rfl⟩ <;> cases op <;> simp [eqGuard, SV.den]
theorem eqK_ok {kd : Kd} {op : BinOp} {t : TypeId} (hk : (P.underlying t).map kdOf = some kd) {x y v : SV} (h : nilS kd x y = some v) {kk : SV → Prop} (hh : eqK op v kk) : ∃ sv, kk sv ∧ sv.known = true ∧ ∀ w, (binOp op t x.den y.den).run P w = .ok sv.den w := by
  have hv : (∃ b, v = .lit (.bool b)) ∨ ∃ b, v = .bs b := by
    rcases (run_equal_nil hk h default).choose_spec.1 with hv | hv
    · exact .inl ⟨_, hv⟩
    · exact .inr ⟨_, hv⟩
  have key : ∀ w, ∃ b, ((v = .lit (.bool b)) ∨ v = .bs b) ∧ (binOp .eql t x.den y.den).run P w = .ok (.bool b) w ∧ (binOp .neq t x.den y.den).run P w = .ok (.bool (!b)) w := by
    intro w
    obtain ⟨b, hb, he⟩ := run_equal_nil hk h w
    refine ⟨b, hb, ?_⟩
    clear hv hb hh
    unfold nilS at h
    cases kd <;> simp only at h <;> first | (cases h; done) | skip
    all_goals
      split at h <;> first | (cases h; done) | skip
      all_goals
        simp only [SV.den] at he ⊢
        exact ⟨by simp [binOp, he], by simp [binOp, he]⟩
  cases op <;> simp only [eqK] at hh <;> try exact hh.elim
  · refine ⟨v, hh, by rcases hv with ⟨b, rfl⟩ | ⟨b, rfl⟩ <;> rfl, fun w => ?_⟩
    obtain ⟨b, hb, h1, h2⟩ := key w
    rcases hb with rfl | rfl <;> simpa [SV.den] using h1
  · refine ⟨_, hh, by rcases hv with ⟨b, rfl⟩ | ⟨b, rfl⟩ <;> rfl, fun w => ?_⟩
    obtain ⟨b, hb, h1, h2⟩ := key w
    rcases hb with rfl | rfl <;> simpa [SV.den, notS] using h2
theorem fb2_yld {Γ : Ty} (hΓ : Γ.ok P) {x y : Operand} {f : Value → Value → Sem Value} {op : Op} {kk : SV → Prop} (h : fb2 Γ s x y f kk)
    (hop : ∀ (o : Oper) (ρ : Operand → Value) (v : Value) (w : World), o.op = op → (f (ρ x) (ρ y)).run P w = .ok v w → (execOp ρ o).run P w = .ok (.value v) w) : ∃ sv, kk sv ∧ sv.known = true ∧ Yld P s op sv := by
  obtain ⟨k1, k2, v, hv, hr, h⟩ := h
  refine ⟨v, h, hv, fun o ac w ho hs => ?_⟩
  refine hop o ac.eval v.den w ho ?_
  rw [ev_ok hs x k1, ev_ok hs y k2]
  have := hr w hs.H.rs
  rw [hΓ.prog] at this
  exact this
theorem bin_yld {Γ : Ty} (hΓ : Γ.ok P) {op : BinOp} {t t' : TypeId} {x y : Operand} {kk : SV → Prop} (h : fb2 Γ s x y (binF op t x y) kk) : ∃ sv, kk sv ∧ sv.known = true ∧ Yld P s (.binOp op t x y t') sv :=
  fb2_yld hΓ h fun o ρ v w ho hr => by
    simp only [execOp, ho]
    show ((do let r ← binF op t x y (ρ x) (ρ y); pure (.value r) : Sem Next)).run P w = _
    rw [Sem.run_bind, hr]
    simp
theorem binK_ok {Γ : Ty} (hΓ : Γ.ok P) {op : BinOp} {t t' : TypeId} {x y : Operand} {kk : SV → Prop} (h : binK Γ s op t x y kk) : ∃ sv, kk sv ∧ sv.known = true ∧ Yld P s (.binOp op t x y t') sv := by
  unfold binK at h
  split at h
  · rename_i k a k' b hx hy
    split at h
    case h_2 => exact bin_yld hΓ h
    obtain ⟨rfl, h⟩ := h
    obtain ⟨sv, h1, h2, h3⟩ := intK_ok (P := P) h t
    refine ⟨sv, h1, h2, fun o ac w ho hs => ?_⟩
    have e1 := ev_ok hs x (by rw [hx]; rfl)
    have e2 := ev_ok hs y (by rw [hy]; rfl)
    rw [hx] at e1
    rw [hy] at e2
    simp only [SV.den] at e1 e2
    have hg : (eqGuard op t x y (.int k a) (.int k b)).run P w = .ok () w := by cases op <;> simp [eqGuard]
    simp [execOp, ho, e1, e2, hg, h3 w]
  · rename_i a b hx hy
    split at h
    case h_2 => exact bin_yld hΓ h
    obtain ⟨sv, h1, h2, h3⟩ := strK_ok (P := P) h t
    refine ⟨sv, h1, h2, fun o ac w ho hs => ?_⟩
    have e1 := ev_ok hs x (by rw [hx]; rfl)
    have e2 := ev_ok hs y (by rw [hy]; rfl)
    rw [hx] at e1
    rw [hy] at e2
    simp only [SV.den] at e1 e2
    have hg : (eqGuard op t x y (.string a) (.string b)).run P w = .ok () w := by cases op <;> simp [eqGuard]
    simp [execOp, ho, e1, e2, hg, h3 w]
  · rename_i hx hy
    split at h
    · rename_i ti hti
      split at h
      · rename_i b hb
        obtain ⟨hc, h⟩ := h
        have hok := findT_ok hΓ.ts hti
        obtain ⟨sv, h1, h2, h3⟩ := eqK_ok (P := P) hok.1 hb h
        refine ⟨sv, h1, h2, fun o ac w ho hs => ?_⟩
        have kn : (evO s x).known = true ∧ (evO s y).known = true := by
          revert hb
          unfold nilS
          generalize evO s x = u
          generalize evO s y = v
          cases u <;> cases v <;> cases ti.kd <;> simp [SV.known]
        have e1 := ev_ok hs x kn.1
        have e2 := ev_ok hs y kn.2
        simp [execOp, ho, e1, e2, eqGuard_nil (P := P) (op := op) (t := t) hb hc w, h3 w]
      · exact bin_yld hΓ h
    · exact h.elim
end
end Go.Proofs.RX
