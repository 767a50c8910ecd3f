/- The chain of entries, told as a list: plain facts on worlds. -/
import Derived.Test.YtoplidleecbdeaaTy
import Derived.Test.YtoplidleecbdeaaRXm
set_option linter.unusedVariables false
set_option linter.unusedSimpArgs false
namespace Go.Proofs.Ytoplidleecbdeaa
open Go Go.RowKit Go.Proofs.RX

/-- An entry: whose, and the bucket. -/
structure E where
  route : Int
  kind : Int
  name : ByteArray
  pt : Int
  at_ : Int
def pv : Option Nat → Value
  | none => .pointer none
  | some b => .pointer (some ⟨b, 0, none⟩)
def whoV (e : E) : Value := .agg #[.int .i64 e.route, .int .i64 e.kind, .string e.name]
def nodeO (e : E) (p n : Option Nat) : Obj := .cells #[.int .i64 e.route, .int .i64 e.kind, .string e.name, .int .i64 e.pt, .int .i64 e.at_, pv p, pv n] 80 (0, 0)
def tabO (room : Int) (m : Nat) (f l : Option Nat) : Obj := .cells #[.int .i64 room, .map (some m), pv f, pv l] 62 (0, 0)
def hd : List (Nat × E) → Option Nat → Option Nat
  | [], n => n
  | (b, _) :: _, _ => some b
def lst : List (Nat × E) → Option Nat → Option Nat
  | [], p => p
  | (b, _) :: r, _ => lst r (some b)
def Seg (w : World) : Option Nat → List (Nat × E) → Option Nat → Prop
  | _, [], _ => True
  | p, (b, e) :: r, n => w.heap[b]? = some (nodeO e p (hd r n)) ∧ Seg w (some b) r n

theorem hd_append (l1 l2 : List (Nat × E)) (n : Option Nat) : hd (l1 ++ l2) n = hd l1 (hd l2 n) := by cases l1 <;> rfl
theorem lst_append (l1 l2 : List (Nat × E)) (p : Option Nat) : lst (l1 ++ l2) p = lst l2 (lst l1 p) := by
  induction l1 generalizing p with
  | nil => rfl
  | cons x r ih => exact ih (some x.1)
theorem seg_append (w : World) (l1 l2 : List (Nat × E)) (p n : Option Nat) : Seg w p (l1 ++ l2) n ↔ Seg w p l1 (hd l2 n) ∧ Seg w (lst l1 p) l2 n := by
  induction l1 generalizing p with
  | nil => simp [Seg, lst]
  | cons x r ih =>
    obtain ⟨b, e⟩ := x
    simp only [List.cons_append, Seg, lst, ih (some b), hd_append, and_assoc]
theorem seg_keep {w w' : World} {l : List (Nat × E)} (hk : ∀ x ∈ l, w'.heap[x.1]? = w.heap[x.1]?) : ∀ {p n : Option Nat}, Seg w p l n → Seg w' p l n := by
  induction l with
  | nil => intro p n h; exact h
  | cons x r ih =>
    obtain ⟨b, e⟩ := x
    intro p n h
    exact ⟨(hk (b, e) (by simp)).trans h.1, ih (fun y hy => hk y (by simp [hy])) h.2⟩
theorem seg_lt {w : World} {l : List (Nat × E)} : ∀ {p n : Option Nat}, Seg w p l n → ∀ x ∈ l, x.1 < w.heap.size := by
  induction l with
  | nil => intro p n h x hx; simp at hx
  | cons y r ih =>
    obtain ⟨b, e⟩ := y
    intro p n h x hx
    rcases List.mem_cons.1 hx with rfl | hx
    · exact (Array.getElem?_eq_some_iff.1 h.1).1
    · exact ih h.2 x hx
theorem seg_obj {w : World} {l : List (Nat × E)} : ∀ {p n : Option Nat}, Seg w p l n → ∀ x ∈ l, ∃ p' n', w.heap[x.1]? = some (nodeO x.2 p' n') := by
  induction l with
  | nil => intro p n h x hx; simp at hx
  | cons y r ih =>
    obtain ⟨b, e⟩ := y
    intro p n h x hx
    rcases List.mem_cons.1 hx with rfl | hx
    · exact ⟨_, _, h.1⟩
    · exact ih h.2 x hx

/-- The chain: the table's own block, and the entries'. -/
structure Chain (t m : Nat) (room : Int) (l : List (Nat × E)) (w : World) : Prop where
  tab : w.heap[t]? = some (tabO room m (hd l none) (lst l none))
  seg : Seg w none l none
  nd : (l.map (·.1)).Nodup
theorem Chain.ne {t m : Nat} {room : Int} {l : List (Nat × E)} {w : World} (h : Chain t m room l w) : ∀ x ∈ l, x.1 ≠ t := by
  intro x hx e
  obtain ⟨p, n, h1⟩ := seg_obj h.seg x hx
  rw [e, h.tab] at h1
  simp [tabO, nodeO] at h1
theorem Chain.lt {t m : Nat} {room : Int} {l : List (Nat × E)} {w : World} (h : Chain t m room l w) : t < w.heap.size := (Array.getElem?_eq_some_iff.1 h.tab).1
theorem Chain.dep (t m : Nat) (room : Int) (l : List (Nat × E)) : Dep (fun k => k = t ∨ k ∈ l.map (·.1)) (Chain t m room l) := by
  intro w w' hk _ _ _ _ h
  exact ⟨(hk t (.inl rfl)).trans h.tab, seg_keep (fun x hx => hk x.1 (.inr (List.mem_map.2 ⟨x, hx, rfl⟩))) h.seg, h.nd⟩

theorem lst_snoc (l : List (Nat × E)) (x : Nat × E) (p : Option Nat) : lst (l ++ [x]) p = some x.1 := by rw [lst_append]; rfl
theorem snoc_cases (l : List (Nat × E)) : l = [] ∨ ∃ l' x, l = l' ++ [x] := by
  rcases List.eq_nil_or_concat l with h | ⟨l', x, h⟩
  · exact .inl h
  · exact .inr ⟨l', x, by simpa using h⟩
end Go.Proofs.Ytoplidleecbdeaa
