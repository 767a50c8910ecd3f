import Derived.Test.YtoplidleecbdeaaT13
set_option linter.unusedVariables false
set_option linter.unusedSimpArgs false
namespace Go.Proofs.Ytoplidleecbdeaa
open Go Go.RowKit Go.Proofs.RX Go.Maps Go.ChangeMaps
/-- The reference's entries, in a row. -/
def rowE (l : List E) : List Value := l.flatMap fun e => [.int .i64 e.route, .int .i64 e.kind, .string e.name, .int .i64 e.pt, .int .i64 e.at_]
def entL (e : E) : List Value := [.int .i64 e.route, .int .i64 e.kind, .string e.name, .int .i64 e.pt, .int .i64 e.at_]
theorem rowE_cons (e : E) (l : List E) : rowE (e :: l) = entL e ++ rowE l := by simp [rowE, entL]
theorem rowE_snoc (l : List E) (e : E) : rowE (l ++ [e]) = rowE l ++ entL e := by simp [rowE, entL]
theorem rowE_len (l : List E) : (rowE l).length = l.length * 5 := by
  induction l with
  | nil => rfl
  | cons e r ih => rw [rowE_cons]; simp [ih, entL]; omega
theorem rowE_get {L : List E} {j : Nat} {e : E} (h : L[j]? = some e) (i : Nat) (hi : i < 5) : (rowE L)[j * 5 + i]? = (entL e)[i]? := by
  induction L generalizing j with
  | nil => simp at h
  | cons y r ih =>
    cases j with
    | zero =>
      simp at h
      subst h
      rw [rowE_cons, List.getElem?_append_left (by simp [entL]; omega)]
      simp
    | succ j =>
      have := ih (j := j) (by simpa using h)
      rw [rowE_cons, List.getElem?_append_right (by simp [entL]; omega), ← this]
      congr 1
      simp [entL]
      omega
/-- The places of a row of entries. -/
theorem own_ent {w : World} {g c n : Nat} {L : List E} (h : w.ownsRow 0 72 5 (slV n (some (g, c))) n (rowE L)) {j : Nat} {e : E} (he : L[j]? = some e) (i : Nat) (v : Value) (hv : (entL e)[i]? = some v) :
    w.cell? (((⟨g, 0, none⟩ : Addr).add (j * 5)).add i) = some v := by
  have hi : i < 5 := by
    have := (List.getElem?_eq_some_iff.1 hv).1
    simpa [entL] using this
  have := h.cells (g := g) rfl (j * 5 + i) v (by rw [rowE_get he i hi]; exact hv)
  rw [add_none] at this
  rw [add_none, add_none]
  simpa [Nat.add_assoc] using this
end Go.Proofs.Ytoplidleecbdeaa
