/- A small symbolic executor over the model's 'Code.wp': states, judgements, and that what it computes is sound. -/
import Derived.WalkKit
import Derived.KernelRfl
import Derived.Below
import Derived.Deep.MidRow
import Derived.StillTailTactics
import Derived.Laws.Tables
import Derived.WideLaws
import Derived.LaidEql
import Derived.Laws.EntriesVeiled
set_option linter.unusedVariables false
set_option linter.unusedSimpArgs false
namespace Go.Proofs.RX
open Go Go.RowKit

/-! ### Symbolic values -/
inductive SV where
  | lit (v : Value)
  | bs (b : Bool)
  | ptr (i b o : Nat)
  | agg (l : List SV)
  | tup (l : List SV)
  | ifc (t : TypeId) (v : SV)
  | mp (i b : Nat)
  | fn (f : FuncId) (l : List SV)
  | sl (i b o n c : Nat)
  | vec (o : Option (Nat × Nat)) (n c : Nat) (f : Nat → List SV)
  | fp (b o : Nat) (l : List SV) (k : Nat)
  | any

def SV.known : SV → Bool
  | .any => false
  | .lit _ | .bs _ | .ptr .. | .agg _ | .tup _ | .ifc .. | .mp .. | .fn .. | .sl .. | .vec .. | .fp .. => true

mutual
def SV.den : SV → Value
  | .lit v => v
  | .bs b => .bool b
  | .ptr _ b o => .pointer (some ⟨b, o, none⟩)
  | .agg l => .agg (denL l).toArray
  | .tup l => .tuple (denL l).toArray
  | .ifc t v => .iface t v.den
  | .mp _ b => .map (some b)
  | .fn f l => .func (.func f) #[] (denL l).toArray
  | .sl _ b o n c => .slice (some ⟨b, o, none⟩) n c
  | .vec o n c _ => .slice (o.map fun p => ⟨p.1, p.2, none⟩) n c
  | .fp b o _ k => .pointer (some ⟨b, o + k, none⟩)
  | .any => undef
def denL : List SV → List Value
  | [] => []
  | x :: r => x.den :: denL r
end

theorem denL_length (l : List SV) : (denL l).length = l.length := by
  induction l with
  | nil => rfl
  | cons x r ih => simp [denL, ih]
theorem denL_get (l : List SV) (j : Nat) : (denL l)[j]? = (l[j]?).map SV.den := by
  induction l generalizing j with
  | nil => simp [denL]
  | cons x r ih => cases j <;> simp [denL, ih]
theorem denL_append (l m : List SV) : denL (l ++ m) = denL l ++ denL m := by
  induction l with
  | nil => rfl
  | cons x r ih => simp [denL, ih]
theorem denL_map (l : List SV) : denL l = l.map SV.den := by
  induction l with
  | nil => rfl
  | cons x r ih => simp [denL, ih]

/-- One cell? -/
def SV.one : SV → Prop
  | .lit v => v.oneCell' = true
  | .agg _ | .tup _ | .any => False
  | .bs _ | .ptr .. | .ifc .. | .mp .. | .fn .. | .sl .. | .vec .. | .fp .. => True
def oneL : List SV → Prop
  | [] => True
  | x :: r => x.one ∧ oneL r
theorem SV.one_den {x : SV} (h : x.one) : x.den.oneCell' = true := by
  cases x <;> simp_all [SV.one, SV.den, Value.oneCell']
theorem oneL_den {l : List SV} (h : oneL l) : ∀ v ∈ denL l, v.oneCell' = true := by
  induction l with
  | nil => simp [denL]
  | cons x r ih =>
    intro v hv
    simp only [denL, List.mem_cons] at hv
    rcases hv with rfl | hv
    · exact SV.one_den h.1
    · exact ih h.2 v hv

/-- The cells of a value. -/
def litL : List Value → List SV
  | [] => []
  | v :: r => .lit v :: litL r
theorem denL_litL (l : List Value) : denL (litL l) = l := by
  induction l with
  | nil => rfl
  | cons x r ih => simp [denL, litL, SV.den, ih]
def SV.cells : SV → List SV
  | .agg l => l
  | .lit (.agg c) => litL c.toList
  | x => [x]
theorem SV.cells_den {x : SV} (h : x.one ∨ (∃ l, x = .agg l) ∨ ∃ c, x = .lit (.agg c)) : x.den.cells = (denL x.cells).toArray := by
  rcases h with h | ⟨l, rfl⟩ | ⟨c, rfl⟩
  · cases x with
    | lit v => cases v <;> simp_all [SV.one, SV.den, SV.cells, Value.cells, denL, Value.oneCell']
    | bs b => simp [SV.den, SV.cells, Value.cells, denL]
    | ptr i b o => simp [SV.den, SV.cells, Value.cells, denL]
    | ifc t v => simp [SV.den, SV.cells, Value.cells, denL]
    | mp i b => simp [SV.den, SV.cells, Value.cells, denL]
    | fn f l => simp [SV.den, SV.cells, Value.cells, denL]
    | sl i b o n c => simp [SV.den, SV.cells, Value.cells, denL]
    | vec o n c f => simp [SV.den, SV.cells, Value.cells, denL]
    | fp b o l k => simp [SV.den, SV.cells, Value.cells, denL]
    | agg l => exact h.elim
    | tup l => exact h.elim
    | any => exact h.elim
  · simp [SV.den, SV.cells, Value.cells]
  · simp [SV.den, SV.cells, Value.cells, denL_litL]
/-- A value that can be stored: one cell, or a struct or array of such. -/
def SV.flat : SV → Prop
  | .agg l => oneL l
  | .lit (.agg c) => oneL (litL c.toList)
  | x => x.one
theorem SV.flat_cells {x : SV} (h : x.flat) : oneL x.cells ∧ x.den.cells = (denL x.cells).toArray := by
  cases x with
  | agg l => exact ⟨h, SV.cells_den (.inr (.inl ⟨l, rfl⟩))⟩
  | lit v =>
    cases v with
    | agg c => exact ⟨h, SV.cells_den (.inr (.inr ⟨c, rfl⟩))⟩
    | _ => first | exact ⟨⟨h, trivial⟩, SV.cells_den (.inl h)⟩ | exact absurd h (by simp [SV.flat, SV.one, Value.oneCell'])
  | bs b => exact ⟨⟨h, trivial⟩, SV.cells_den (.inl h)⟩
  | ptr i b o => exact ⟨⟨h, trivial⟩, SV.cells_den (.inl h)⟩
  | ifc t v => exact ⟨⟨h, trivial⟩, SV.cells_den (.inl h)⟩
  | mp i b => exact ⟨⟨h, trivial⟩, SV.cells_den (.inl h)⟩
  | fn f l => exact ⟨⟨h, trivial⟩, SV.cells_den (.inl h)⟩
  | sl i b o n c => exact ⟨⟨h, trivial⟩, SV.cells_den (.inl h)⟩
  | vec o n c f => exact ⟨⟨h, trivial⟩, SV.cells_den (.inl h)⟩
  | fp b o l k => exact ⟨⟨h, trivial⟩, SV.cells_den (.inl h)⟩
  | tup l => exact h.elim
  | any => exact h.elim

/-! ### States -/
inductive SO where
  | cells (cs : List SV) (t : TypeId)
  | unk
def SO.ok : SO → Option Obj → Prop
  | .cells cs t, o => o = some (.cells (denL cs).toArray t (0, 0))
  | .unk, _ => True
/-- What depends on the blocks of F alone. -/
def Dep (F : Nat → Prop) (p : World → Prop) : Prop :=
  ∀ w w' : World, (∀ k, F k → w'.heap[k]? = w.heap[k]?) → w'.os = w.os → w'.tape = w.tape → w'.output = w.output → w.heap.size ≤ w'.heap.size → p w → p w'
structure St where
  n : Nat
  tm : List (Nat × SV)
  hp : List (Nat × SO)
  fp : Nat → Prop
  res : World → Prop
def getT : List (Nat × SV) → Nat → SV
  | [], _ => .any
  | (j, v) :: r, t => if j = t then v else getT r t
def getH : List (Nat × SO) → Nat → Option (Nat × SO)
  | [], _ => none
  | x :: _, 0 => some x
  | _ :: r, n + 1 => getH r n
def setH : List (Nat × SO) → Nat → SO → List (Nat × SO)
  | [], _, _ => []
  | (b, _) :: r, 0, o => (b, o) :: r
  | x :: r, n + 1, o => x :: setH r n o
def getL : List SV → Nat → Option SV
  | [], _ => none
  | x :: _, 0 => some x
  | _ :: r, n + 1 => getL r n
def takeL : List SV → Nat → Nat → List SV   -- from, how many
  | _, _, 0 => []
  | [], _, _ => []
  | x :: r, 0, m + 1 => x :: takeL r 0 m
  | _ :: r, n + 1, m + 1 => takeL r n (m + 1)
def putL : List SV → Nat → List SV → List SV
  | l, _, [] => l
  | [], _, _ => []
  | _ :: r, 0, v :: vs => v :: putL r 0 vs
  | x :: r, n + 1, v :: vs => x :: putL r n (v :: vs)

structure SatH (s : St) (w : World) : Prop where
  nd : (s.hp.map (·.1)).Nodup
  obj : ∀ i b o, getH s.hp i = some (b, o) → o.ok w.heap[b]?
  lt : ∀ p ∈ s.hp, p.1 < w.heap.size
  far : ∀ i b cs t, getH s.hp i = some (b, .cells cs t) → ¬ s.fp b
  fpl : ∀ k, s.fp k → k < w.heap.size
  dep : Dep s.fp s.res
  rs : s.res w
structure Sat (s : St) (a : Act) (w : World) : Prop where
  sz : a.tmps.size = s.n
  fr : ∀ t, (getT s.tm t).known = true → a.tmps.getD t undef = (getT s.tm t).den
  df : a.defers = []
  H : SatH s w

def St.put (s : St) (dst : Option Tmp) (v : SV) : St :=
  match dst with
  | some d => { s with tm := (d, v) :: s.tm }
  | none => s
def dstOk (s : St) : Option Tmp → Prop
  | some d => d < s.n
  | none => True
theorem St.put_H (s : St) (dst : Option Tmp) (v : SV) (w : World) : SatH (s.put dst v) w ↔ SatH s w := by
  cases dst <;> exact ⟨fun ⟨a, b, c, d, e, f, g⟩ => ⟨a, b, c, d, e, f, g⟩, fun ⟨a, b, c, d, e, f, g⟩ => ⟨a, b, c, d, e, f, g⟩⟩
theorem Sat.put {s : St} {a : Act} {w : World} (h : Sat s a w) {dst : Option Tmp} (hd : dstOk s dst) (v : SV) (u : Value) (hv : v.known = true → u = v.den) : Sat (s.put dst v) (a.put dst u) w := by
  cases dst with
  | none => exact h
  | some d =>
    have hd' : d < a.tmps.size := by rw [h.sz]; exact hd
    refine ⟨by simp [Act.put, St.put, h.sz], fun t ht => ?_, h.df, (St.put_H s (some d) v w).2 h.H⟩
    simp only [St.put, getT] at ht ⊢
    simp only [Act.put]
    by_cases e : d = t
    · subst e
      simp only [if_true] at ht ⊢
      rw [← hv ht]
      simp [hd']
    · simp only [if_neg e] at ht ⊢
      rw [← h.fr t ht]
      simp [Array.getElem?_setIfInBounds, e]
theorem SatH.drew {s : St} {w : World} (h : SatH s w) : SatH s { w with drawn := w.drawn + 1 } :=
  ⟨h.nd, h.obj, h.lt, h.far, h.fpl, h.dep, h.dep w _ (fun _ _ => rfl) rfl rfl rfl (Nat.le_refl _) h.rs⟩
theorem Sat.drew {s : St} {a : Act} {w : World} (h : Sat s a w) : Sat s a { w with drawn := w.drawn + 1 } := ⟨h.sz, h.fr, h.df, h.H.drew⟩

def evO (s : St) : Operand → SV
  | .tmp t => getT s.tm t
  | .const v => .lit v
  | .global g => .lit (.pointer (some ⟨g, 0, none⟩))
  | .func f => .fn f []
theorem ev_ok {s : St} {a : Act} {w : World} (h : Sat s a w) (x : Operand) (hk : (evO s x).known = true) : a.eval x = (evO s x).den := by
  cases x with
  | tmp t => exact h.fr t hk
  | const v => rfl
  | global g => rfl
  | func f => rfl

/-! ### Types -/
inductive Kd where
  | int (k : IntKind) | bool | str | ptr | ifc | slc (e : TypeId) | mp (k e : TypeId) | row | other
def kdOf : TypeDesc → Kd
  | .int k => .int k
  | .bool => .bool
  | .string => .str
  | .pointer _ => .ptr
  | .interface _ => .ifc
  | .slice e => .slc e
  | .map k e => .mp k e
  | .struct _ | .array _ _ => .row
  | _ => .other
structure TI where
  kd : Kd
  size : Nat
  zero : List Value
structure Ty where
  ts : List (Nat × TI)
  fs : List (Nat × List (Nat × Nat))
  P : Program
def findT : List (Nat × TI) → Nat → Option TI
  | [], _ => none
  | (j, v) :: r, t => if j = t then some v else findT r t
def nthP : List (Nat × Nat) → Nat → Option (Nat × Nat)
  | [], _ => none
  | x :: _, 0 => some x
  | _ :: r, n + 1 => nthP r n
def findS : List (Nat × List (Nat × Nat)) → Nat → Option (List (Nat × Nat))
  | [], _ => none
  | (a, b) :: r, t => if a = t then some b else findS r t
/-- Where a field lies, and its size. -/
def findF (l : List (Nat × List (Nat × Nat))) (t f : Nat) : Option (Nat × Nat) :=
  match findS l t with
  | some pl => nthP pl f
  | none => none
def TI.ok (P : Program) (t : Nat) (ti : TI) : Prop :=
  (P.underlying t).map kdOf = some ti.kd ∧ (P.info? t).map (fun i => (i.size, i.zero.map (fun z => z.cells.toList))) = some (ti.size, some ti.zero)
def sOk (P : Program) (t : Nat) (pl : List (Nat × Nat)) : Prop :=
  (match P.underlying t with
   | some (.struct fs) => fs.toList.mapM fun f => (P.info? f.type).map fun i => (f.offset, i.size)
   | _ => none) = some pl
def fOk (P : Program) (t f off sz : Nat) : Prop := ∃ pl, sOk P t pl ∧ nthP pl f = some (off, sz)
def okT (P : Program) : List (Nat × TI) → Prop
  | [] => True
  | (t, ti) :: r => TI.ok P t ti ∧ okT P r
def okF (P : Program) : List (Nat × List (Nat × Nat)) → Prop
  | [] => True
  | (t, pl) :: r => sOk P t pl ∧ okF P r
structure Ty.ok (Γ : Ty) (P : Program) : Prop where
  ts : okT P Γ.ts
  fs : okF P Γ.fs
  mixed : P.follows .mixedOrders = true
  prog : Γ.P = P
theorem findT_ok {P : Program} : ∀ {l : List (Nat × TI)} (_ : okT P l) {t : Nat} {ti : TI} (_ : findT l t = some ti), TI.ok P t ti
  | [], _, _, _, h => by simp [findT] at h
  | (j, v) :: r, ⟨h1, h2⟩, t, ti, h => by
    unfold findT at h
    split at h
    · rename_i e; subst e; cases h; exact h1
    · exact findT_ok h2 h
theorem findS_ok {P : Program} : ∀ {l : List (Nat × List (Nat × Nat))} (_ : okF P l) {t : Nat} {pl : List (Nat × Nat)} (_ : findS l t = some pl), sOk P t pl
  | [], _, _, _, h => by simp [findS] at h
  | (a, b) :: r, ⟨h1, h2⟩, t, pl, h => by
    unfold findS at h
    split at h
    · rename_i e; subst e; cases h; exact h1
    · exact findS_ok h2 h
theorem findF_ok {P : Program} {l : List (Nat × List (Nat × Nat))} (hl : okF P l) {t f off sz : Nat} (h : findF l t f = some (off, sz)) : fOk P t f off sz := by
  unfold findF at h
  split at h
  · rename_i pl hpl
    exact ⟨pl, findS_ok hl hpl, h⟩
  · cases h
theorem nthP_get (l : List (Nat × Nat)) (j : Nat) : nthP l j = l[j]? := by
  induction l generalizing j with
  | nil => simp [nthP]
  | cons x r ih => cases j <;> simp [nthP, ih]
theorem mapM_nth {α β : Type} {g : α → Option β} : ∀ {l : List α} {m : List β}, l.mapM g = some m → ∀ (j : Nat) (b : β), m[j]? = some b → ∃ a, l[j]? = some a ∧ g a = some b
  | [], m, h, j, b, hb => by
    simp at h; subst h; simp at hb
  | x :: r, m, h, j, b, hb => by
    simp only [List.mapM_cons, Option.bind_eq_bind, Option.bind_eq_some_iff, Option.pure_def, Option.some.injEq] at h
    obtain ⟨y, hy, ys, hys, rfl⟩ := h
    cases j with
    | zero => simp at hb; subst hb; exact ⟨x, by simp, hy⟩
    | succ j =>
      obtain ⟨a, h1, h2⟩ := mapM_nth hys j b (by simpa using hb)
      exact ⟨a, by simpa using h1, h2⟩
end Go.Proofs.RX
