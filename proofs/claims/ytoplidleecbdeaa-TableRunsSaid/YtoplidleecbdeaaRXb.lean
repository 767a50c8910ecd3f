/- The judgement, and its structural rules. -/
import Derived.Test.YtoplidleecbdeaaRXa
import Derived.LoopN
import Derived.OrdersHeld
set_option linter.unusedVariables false
set_option linter.unusedSimpArgs false
namespace Go.Proofs.RX
open Go Go.RowKit

inductive It where
  | code (c : Code)
  | ops (all rest : List Oper)
  | blk (id : Nat)
  | chk (S : World → Prop)
  | reg (S : World → Prop) (all : List Oper) (done : List Nat)

def doneA (n : Nat) : List Nat → Array Bool
  | [] => Array.replicate n false
  | i :: r => (doneA n r).setIfInBounds i true
/-- What is left to do, as a continuation. -/
def kont (P : Program) : List It → (Exit → Act → World → Prop) → Exit → Act → World → Prop
  | [], Q, e, a, w => Q e a w
  | .code c :: k, Q, e, a, w =>
    match e with
    | .normal => c.wp P (kont P k Q) a w
    | e => kont P k Q e a w
  | .ops all r :: k, Q, e, a, w =>
    match e with
    | .normal => wpList P all.toArray (kont P k Q) r a w
    | e => kont P k Q e a w
  | .blk id :: k, Q, e, a, w =>
    match e with
    | .exit j => if j = id then kont P k Q .normal a w else kont P k Q (.exit j) a w
    | e => kont P k Q e a w
  | .chk S :: k, Q, e, a, w =>
    match e with
    | .normal => S w ∧ kont P k Q .normal a w
    | e => kont P k Q e a w
  | .reg S all done :: k, Q, e, a, w =>
    match e with
    | .normal => wpAnyH P .any all.toArray (fun e a w => (∀ c, e ≠ .panic c) ∧ kont P k Q e a w) S (all.length - done.length) (doneA all.length done) a w
    | e => kont P k Q e a w

structure VdT (P : Program) (k : List It) (e : Exit) (s : St) (K : Exit → St → Prop) : Prop where
  run : ∀ (Q : Exit → Act → World → Prop) (a : Act) (w : World), Sat s a w → (∀ e' s' a' w', K e' s' → Sat s' a' w' → Q e' a' w') → kont P k Q e a w

section
variable {P : Program} {k : List It} {s : St} {K : Exit → St → Prop}

theorem VdT.nil {e : Exit} (h : K e s) : VdT P [] e s K := .mk fun Q a w hs hQ => hQ e s a w h hs
theorem VdT.wk {e : Exit} {s' : St} (hw : ∀ a w, Sat s a w → Sat s' a w) (h : VdT P k e s' K) : VdT P k e s K := .mk fun Q a w hs hQ => h.run Q a w (hw a w hs) hQ
theorem VdT.code_skip (h : VdT P k .normal s K) : VdT P (.code .skip :: k) .normal s K := .mk fun Q a w hs hQ => wp_skip (h.run Q a w hs hQ)
theorem VdT.code_ret (h : VdT P k .ret s K) : VdT P (.code .ret :: k) .normal s K := .mk fun Q a w hs hQ => wp_ret (h.run Q a w hs hQ)
theorem VdT.code_exit {id : Nat} (h : VdT P k (.exit id) s K) : VdT P (.code (.exit id) :: k) .normal s K := .mk fun Q a w hs hQ => wp_exit (h.run Q a w hs hQ)
theorem VdT.code_seq {x y : Code} (h : VdT P (.code x :: .code y :: k) .normal s K) : VdT P (.code (.seq x y) :: k) .normal s K := .mk fun Q a w hs hQ => by
  refine wp_seq ?_
  have := h.run Q a w hs hQ
  simp only [kont] at this
  refine Code.wp_mono ?_ this
  intro e a w h
  cases e <;> exact h
theorem VdT.code_block {id : Nat} {c : Code} (h : VdT P (.code c :: .blk id :: k) .normal s K) : VdT P (.code (.block id c) :: k) .normal s K := .mk fun Q a w hs hQ => by
  refine wp_block ?_
  have := h.run Q a w hs hQ
  simp only [kont] at this
  refine Code.wp_mono ?_ this
  intro e a w h
  cases e <;> first | exact h | skip
theorem VdT.code_cond {c : Operand} {x y : Code} {b : Bool} (hc : (evO s c).known = true ∧ (evO s c).den = .bool b) (h : VdT P (.code (if b then x else y) :: k) .normal s K) : VdT P (.code (.cond c x y) :: k) .normal s K := .mk fun Q a w hs hQ => by
  refine wp_cond (t := b) ?_ ?_
  · rw [ev_ok hs c hc.1, hc.2]
  · exact h.run Q a w hs hQ
theorem VdT.code_region {id : Nat} {l : List Oper} (h : VdT P (.ops l l :: k) .normal s K) : VdT P (.code (.region id l.toArray false) :: k) .normal s K := .mk fun Q a w hs hQ => wp_region_lit (h.run Q a w hs hQ)
theorem VdT.ops_nil {all : List Oper} (h : VdT P k .normal s K) : VdT P (.ops all [] :: k) .normal s K := .mk fun Q a w hs hQ => by
  simp only [kont]
  exact wpList_nil (P := P) (ops := all.toArray) (h.run Q a w hs hQ)
theorem VdT.chk {S : World → Prop} (hS : ∀ w, SatH s w → S w) (h : VdT P k .normal s K) : VdT P (.chk S :: k) .normal s K := .mk fun Q a w hs hQ => ⟨hS w hs.H, h.run Q a w hs hQ⟩
theorem VdT.pass_chk {S : World → Prop} {e : Exit} (he : e ≠ .normal) (h : VdT P k e s K) : VdT P (.chk S :: k) e s K := .mk fun Q a w hs hQ => by
  have := h.run Q a w hs hQ
  cases e <;> first | exact absurd rfl he | exact this
theorem VdT.pass_reg {S : World → Prop} {all : List Oper} {done : List Nat} {e : Exit} (he : e ≠ .normal) (h : VdT P k e s K) : VdT P (.reg S all done :: k) e s K := .mk fun Q a w hs hQ => by
  have := h.run Q a w hs hQ
  cases e <;> first | exact absurd rfl he | exact this
theorem VdT.pass_code {c : Code} {e : Exit} (he : e ≠ .normal) (h : VdT P k e s K) : VdT P (.code c :: k) e s K := .mk fun Q a w hs hQ => by
  have := h.run Q a w hs hQ
  cases e <;> first | exact absurd rfl he | exact this
theorem VdT.pass_ops {all r : List Oper} {e : Exit} (he : e ≠ .normal) (h : VdT P k e s K) : VdT P (.ops all r :: k) e s K := .mk fun Q a w hs hQ => by
  have := h.run Q a w hs hQ
  cases e <;> first | exact absurd rfl he | exact this
theorem VdT.pass_blk {id : Nat} {e : Exit} (he : ∀ j, e ≠ .exit j) (h : VdT P k e s K) : VdT P (.blk id :: k) e s K := .mk fun Q a w hs hQ => by
  have := h.run Q a w hs hQ
  cases e <;> first | exact absurd rfl (he _) | exact this
theorem VdT.blk_hit {id : Nat} (h : VdT P k .normal s K) : VdT P (.blk id :: k) (.exit id) s K := .mk fun Q a w hs hQ => by
  have := h.run Q a w hs hQ
  simpa [kont] using this
theorem VdT.blk_miss {id j : Nat} (hj : j ≠ id) (h : VdT P k (.exit j) s K) : VdT P (.blk id :: k) (.exit j) s K := .mk fun Q a w hs hQ => by
  have := h.run Q a w hs hQ
  simpa [kont, hj] using this

/-- One operation that yields a value and leaves another world. -/
theorem VdT.op {all r : List Oper} {o : Oper} (hw : ∀ a w, Sat s a w → Region.wanted o (yielded all.toArray a.tmps) = true)
    (h : ∀ a w, Sat s a w → ∃ u w' s', ((execOp a.eval o).run P w = .ok (.value u) w' ∨ ((execOp a.eval o).run P w = .ok .skip w' ∧ u = undef)) ∧ Sat s' (a.put o.dst u) w' ∧ VdT P (.ops all r :: k) .normal s' K) :
    VdT P (.ops all (o :: r) :: k) .normal s K := .mk fun Q a w hs hQ => by
  obtain ⟨u, w', s', hr, hs', hv⟩ := h a w hs
  have := hv.run Q _ w' hs' hQ
  simp only [kont] at this ⊢
  unfold wpList
  rw [if_pos (hw a w hs)]
  left
  unfold Oper.wp
  rcases hr with hr | ⟨hr, rfl⟩
  · rw [hr]; exact this
  · rw [hr]; exact this
/-- One operation that is passed over. -/
theorem VdT.op_skip {all r : List Oper} {o : Oper} (hw : ∀ a w, Sat s a w → Region.wanted o (yielded all.toArray a.tmps) = false) (hd : dstOk s o.dst)
    (h : VdT P (.ops all r :: k) .normal (s.put o.dst .any) K) : VdT P (.ops all (o :: r) :: k) .normal s K := .mk fun Q a w hs hQ => by
  have := h.run Q _ w (hs.put hd .any undef (by simp [SV.known])) hQ
  simp only [kont] at this ⊢
  unfold wpList
  rw [if_neg (by rw [hw a w hs]; simp)]
  exact this
/-- A call of a function by its contract. -/
theorem VdT.call {all r : List Oper} {o : Oper} {f : FuncId} {args : List Value} (hg : o.guard = none)
    (hx : ∀ a w, Sat s a w → (execOp a.eval o).run P w = .ok (.enter f args.toArray) w)
    (h : ∀ w, SatH s w → Calls P f args.toArray w fun e w' => ∃ sv s', e = .returned sv.den ∧ sv.known = true ∧ s'.n = s.n ∧ s'.tm = s.tm ∧ SatH s' w' ∧ dstOk s o.dst ∧ VdT P (.ops all r :: k) .normal (s'.put o.dst sv) K) :
    VdT P (.ops all (o :: r) :: k) .normal s K := .mk fun Q a w hs hQ => by
  simp only [kont]
  refine wpList_plain hg fun K' hK' => ?_
  unfold Oper.wp
  rw [hx a w hs, Oper.upon_enter]
  refine (h w hs.H).mono ?_
  rintro e w' ⟨sv, s', rfl, hk, hn, ht, hH, hd, hv⟩
  refine hK' _ _ ?_
  have hs' : Sat s' a w' := ⟨by rw [hn]; exact hs.sz, by rw [ht]; exact hs.fr, hs.df, hH⟩
  exact hv.run Q _ w' (hs'.put (by cases hd' : o.dst <;> rw [hd'] at hd <;> simp_all [dstOk]) sv _ (fun _ => rfl)) hQ
/-- A loop by an invariant. -/
theorem VdT.loop {α : Type} {body : Code} (I : α → St → Prop) (m : α → Nat) (x0 : α) (h0 : I x0 s)
    (hstep : ∀ x s', I x s' → VdT P [.code body] .normal s' (fun e s'' => match e with | .normal => ∃ y s3, m y < m x ∧ (∀ a w, Sat s'' a w → Sat s3 a w) ∧ I y s3 | e => VdT P k e s'' K)) :
    VdT P (.code (.loop body) :: k) .normal s K := .mk fun Q a w hs hQ => by
  simp only [kont]
  have key : ∀ n x s' a w, m x < n → I x s' → Sat s' a w → Code.rounds P body (kont P k Q) n a w := by
    intro n
    induction n with
    | zero => intro x s' a w h; omega
    | succ n ih =>
      intro x s' a w hn hI hs'
      have h1 := (hstep x s' hI).run (fun e a' w' => match e with | .normal => Code.rounds P body (kont P k Q) n a' w' | e => kont P k Q e a' w') a w hs' (by
        intro e s'' a' w' hK hs''
        cases e with
        | normal =>
          obtain ⟨y, s3, hy, hwk, hI3⟩ := hK
          exact ih y s3 a' w' (by omega) hI3 (hwk a' w' hs'')
        | exit j => exact hK.run Q a' w' hs'' hQ
        | goto j => exact hK.run Q a' w' hs'' hQ
        | ret => exact hK.run Q a' w' hs'' hQ
        | panic c => exact hK.run Q a' w' hs'' hQ
        | outgrown => exact hK.run Q a' w' hs'' hQ)
      simp only [kont] at h1
      rw [rounds_succ]
      refine Code.wp_mono ?_ h1
      intro e a w h
      cases e <;> exact h
  exact wp_loop_rounds (m x0 + 1) (key (m x0 + 1) x0 s a w (by omega) h0 hs)
/-- Fewer words. -/
def Weak (s s' : St) : Prop := ∀ a w, Sat s a w → Sat s' a w
def LoopK {α : Type} (S : α → St) (inv : α → Prop) (m : α → Nat) (x : α) (K' : Exit → St → Prop) (e : Exit) (s : St) : Prop :=
  match e with
  | .normal => ∃ y, m y < m x ∧ inv y ∧ Weak s (S y)
  | e => K' e s
theorem VdT.loopS {α : Type} {body : Code} (S : α → St) (inv : α → Prop) (m : α → Nat) (x0 : α) (h0 : inv x0) (hw : Weak s (S x0))
    (hstep : ∀ x, inv x → VdT P [.code body] .normal (S x) (LoopK S inv m x fun e s => VdT P k e s K)) : VdT P (.code (.loop body) :: k) .normal s K :=
  VdT.wk hw (VdT.loop (fun x s => inv x ∧ s = S x) m x0 ⟨h0, rfl⟩ (by
    rintro x s' ⟨hx, rfl⟩
    refine .mk fun Q a w hs hQ => (hstep x hx).run Q a w hs fun e s' a' w' hK hs' => hQ e s' a' w' ?_ hs'
    cases e with
    | normal =>
      obtain ⟨y, h1, h2, h3⟩ := hK
      exact ⟨y, _, h1, h3, h2, rfl⟩
    | exit j => exact hK
    | goto j => exact hK
    | ret => exact hK
    | panic c => exact hK
    | outgrown => exact hK))
end
end Go.Proofs.RX
