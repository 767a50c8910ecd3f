/- Fewer words for the same; orders of a region that stores. -/
import Derived.Test.YtoplidleecbdeaaRXg
import Derived.OrdersHeld
import Derived.StillTail
set_option linter.unusedVariables false
set_option linter.unusedSimpArgs false
namespace Go.Proofs.RX
open Go Go.RowKit

/-- Fewer words, or other ones for the same. -/
def keepD (tm : List (Nat × SV)) : List (Nat × SV) → Prop
  | [] => True
  | (t, v) :: r => (getT tm t).known = true ∧ (getT tm t).den = v.den ∧ keepD tm r
theorem keepD_get {tm : List (Nat × SV)} : ∀ {tm' : List (Nat × SV)}, keepD tm tm' → ∀ t, (getT tm' t).known = true → (getT tm t).known = true ∧ (getT tm t).den = (getT tm' t).den
  | [], _, t, h => by simp [getT, SV.known] at h
  | (t', v) :: r, hk, t, h => by
    simp only [getT] at h ⊢
    by_cases he : t' = t
    · rw [if_pos he]; rw [← he]; exact ⟨hk.1, hk.2.1⟩
    · rw [if_neg he] at h ⊢; exact keepD_get hk.2.2 t h
def soEq : SO → SO → Prop
  | _, .unk => True
  | .cells cs t, .cells cs' t' => denL cs = denL cs' ∧ t = t'
  | .unk, .cells _ _ => False
def keepH : List (Nat × SO) → List (Nat × SO) → Prop
  | _, [] => True
  | [], _ :: _ => False
  | (b, so) :: r, (b', so') :: r' => b = b' ∧ soEq so so' ∧ keepH r r'
theorem soEq_refl (o : SO) : soEq o o := by cases o <;> simp [soEq]
theorem keepH_refl : ∀ l, keepH l l
  | [] => trivial
  | (b, so) :: r => ⟨rfl, soEq_refl so, keepH_refl r⟩
theorem keepH_get : ∀ {l l' : List (Nat × SO)}, keepH l l' → ∀ {i b o'}, getH l' i = some (b, o') → ∃ o, getH l i = some (b, o) ∧ soEq o o'
  | _, [], _, i, b, o', h => by simp [getH] at h
  | [], _ :: _, hk, _, _, _, _ => hk.elim
  | (b1, so) :: r, (b2, so') :: r', ⟨hb, h1, h2⟩, i, b, o', h => by
    subst hb
    cases i with
    | zero =>
      simp only [getH, Option.some.injEq, Prod.mk.injEq] at h
      obtain ⟨rfl, rfl⟩ := h
      exact ⟨so, rfl, h1⟩
    | succ i => exact keepH_get h2 h
theorem keepH_pre : ∀ {l l' : List (Nat × SO)}, keepH l l' → l'.map (·.1) <+: l.map (·.1)
  | _, [], _ => by simp
  | [], _ :: _, hk => hk.elim
  | (b1, so) :: r, (b2, so') :: r', ⟨hb, _, h2⟩ => by
    subst hb
    simp only [List.map_cons]
    exact (List.prefix_cons_inj _).2 (keepH_pre h2)
theorem SatH.cutD {s s' : St} {w : World} (hs : SatH s w) (hh : keepH s.hp s'.hp) (hF : ∀ k, s'.fp k → s.fp k) (hd : Dep s'.fp s'.res) (hp : s'.res w) : SatH s' w := by
  refine ⟨(keepH_pre hh).sublist.nodup hs.nd, fun i b o hi => ?_, fun q hq => ?_, fun i b cs t hi hb => ?_, fun k hk => hs.fpl k (hF k hk), hd, hp⟩
  · obtain ⟨o', h1, h2⟩ := keepH_get hh hi
    have h3 := hs.obj i b o' h1
    cases o with
    | unk => trivial
    | cells cs t =>
      cases o' with
      | unk => exact h2.elim
      | cells cs' t' =>
        obtain ⟨h4, rfl⟩ := h2
        show _ = _
        rw [← h4]
        exact h3
  · obtain ⟨i, hi⟩ := List.getElem?_of_mem hq
    obtain ⟨o, h1, _⟩ := keepH_get hh (i := i) (b := q.1) (o' := q.2) (by rw [getH_get]; exact hi)
    have := hs.lt _ (getH_mem h1)
    exact this
  · obtain ⟨o', h1, h2⟩ := keepH_get hh hi
    cases o' with
    | unk => exact h2.elim
    | cells cs' t' => exact hs.far i b cs' t' h1 (hF b hb)
theorem Sat.cutD {s s' : St} {a : Act} {w : World} (hs : Sat s a w) (hn : s'.n = s.n) (ht : keepD s.tm s'.tm) (hh : keepH s.hp s'.hp) (hF : ∀ k, s'.fp k → s.fp k) (hd : Dep s'.fp s'.res) (hp : s'.res w) : Sat s' a w where
  sz := by rw [hn]; exact hs.sz
  fr := fun t hk => by
    have h := keepD_get ht t hk
    rw [← h.2]
    exact hs.fr t h.1
  df := hs.df
  H := hs.H.cutD hh hF hd hp
theorem Weak.cutD {s s' : St} (hn : s'.n = s.n) (ht : keepD s.tm s'.tm) (hh : keepH s.hp s'.hp) (hF : ∀ k, s'.fp k → s.fp k) (hd : Dep s'.fp s'.res) (hp : ∀ w, SatH s w → s'.res w) : Weak s s' := fun a w hs => hs.cutD hn ht hh hF hd (hp w hs.H)
/-- .. what is known apart staying. -/
theorem Weak.cutS {n : Nat} {tm tm' : List (Nat × SV)} {hp hp' : List (Nat × SO)} {F : Nat → Prop} {p : World → Prop} (ht : keepD tm tm') (hh : keepH hp hp') : Weak ⟨n, tm, hp, F, p⟩ ⟨n, tm', hp', F, p⟩ := fun a w hs => hs.cutD rfl ht hh (fun _ h => h) hs.H.dep hs.H.rs
theorem VdT.weak {P : Program} {k : List It} {K : Exit → St → Prop} {e : Exit} {s : St} (s' : St) (hw : Weak s s') (h : VdT P k e s' K) : VdT P k e s K := VdT.wk hw h
end Go.Proofs.RX
