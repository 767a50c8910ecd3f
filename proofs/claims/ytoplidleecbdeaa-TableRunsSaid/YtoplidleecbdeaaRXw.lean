/- Regions whose order is drawn, taken in an order of one's choice. -/
import Derived.Test.YtoplidleecbdeaaRXu
set_option linter.unusedVariables false
set_option linter.unusedSimpArgs false
namespace Go.Proofs.RX
open Go Go.RowKit

theorem wp_monoQ {P : Program} {o : Oper} {a : Act} {w : World} {K : Act → World → Prop} {Q Q' : Exit → Act → World → Prop} (hq : ∀ e a w, e ≠ .normal → Q e a w → Q' e a w) (hh : o.wp P a w K Q) : o.wp P a w K Q' := by
  have hl : LetsOut Q → LetsOut Q' := fun ⟨a, w, h⟩ => ⟨a, w, hq _ _ _ (by simp) h⟩
  unfold Oper.wp at *
  generalize (execOp a.eval o).run P w = r at *
  cases r with
  | ok n w' =>
    cases n <;> simp only [Oper.upon] at hh ⊢ <;> first | exact hh | skip
    case enter f args =>
      refine Calls.mono hh fun e w'' he => ?_
      cases e with
      | returned u => exact he
      | panicked c => exact hq _ _ _ (by simp) he
      | outgrown => exact hl he
  | halt x w' =>
    cases x <;> simp only [Oper.upon] at hh ⊢ <;> first | exact hh | exact hq _ _ _ (by simp) hh
theorem wpList_monoQ {P : Program} {ops : Array Oper} {Q Q' : Exit → Act → World → Prop} (hq : ∀ e a w, Q e a w → Q' e a w) : ∀ (l : List Oper) (a : Act) (w : World), wpList P ops Q l a w → wpList P ops Q' l a w
  | [], a, w, h => hq _ _ _ h
  | o :: r, a, w, h => by
    unfold wpList at h ⊢
    split
    · rename_i hw
      rw [if_pos hw] at h
      rcases h with h | ⟨h1, a2, w2, h2⟩
      · exact .inl (Oper.wp_mono (wpList_monoQ hq r) (wp_monoQ (fun e a w _ => hq e a w) h))
      · exact .inr ⟨h1, a2, w2, hq _ _ _ h2⟩
    · rename_i hw
      rw [if_neg hw] at h
      exact wpList_monoQ hq r _ _ h
theorem wpOp_monoQ {P : Program} {ops : Array Oper} {Q Q' : Exit → Act → World → Prop} (hq : ∀ e a w, Q e a w → Q' e a w) {i : Nat} {K K' : Act → World → Prop} (hK : ∀ a w, K a w → K' a w) {a : Act} {w : World} (h : wpOp P ops Q i K a w) : wpOp P ops Q' i K' a w := by
  unfold wpOp at h ⊢
  split
  · rename_i ho; rw [ho] at h; exact hK _ _ h
  · rename_i o ho
    rw [ho] at h
    simp only at h ⊢
    split
    · rename_i hw
      rw [if_pos hw] at h
      rcases h with h | ⟨h1, a2, w2, h2⟩
      · exact .inl (Oper.wp_mono hK (wp_monoQ (fun e a w _ => hq e a w) h))
      · exact .inr ⟨h1, a2, w2, hq _ _ _ h2⟩
    · rename_i hw
      rw [if_neg hw] at h
      exact hK _ _ h
theorem wpAnyH_monoQ {P : Program} {md : Region.Mode} {ops : Array Oper} {S : World → Prop} {Q Q' : Exit → Act → World → Prop} (hq : ∀ e a w, Q e a w → Q' e a w) : ∀ (n : Nat) (listed : Array Bool) (a : Act) (w : World), wpAnyH P md ops Q S n listed a w → wpAnyH P md ops Q' S n listed a w
  | 0, listed, a, w, h => ⟨h.1, hq _ _ _ h.2⟩
  | n + 1, listed, a, w, h => ⟨fun h0 => hq _ _ _ (h.1 h0), fun i hi => wpOp_monoQ hq (fun a w h' => ⟨h'.1, wpAnyH_monoQ hq n _ a w h'.2⟩) (h.2 i hi)⟩
theorem kont_mono {P : Program} {Q Q' : Exit → Act → World → Prop} (hq : ∀ e a w, Q e a w → Q' e a w) : ∀ (k : List It) (e : Exit) (a : Act) (w : World), kont P k Q e a w → kont P k Q' e a w
  | [], e, a, w, h => hq e a w h
  | .code c :: k, e, a, w, h => by
    cases e with
    | normal => exact Code.wp_mono (kont_mono hq k) h
    | exit j => exact kont_mono hq k _ _ _ h
    | goto j => exact kont_mono hq k _ _ _ h
    | ret => exact kont_mono hq k _ _ _ h
    | panic c => exact kont_mono hq k _ _ _ h
    | outgrown => exact kont_mono hq k _ _ _ h
  | .ops all r :: k, e, a, w, h => by
    cases e with
    | normal => exact wpList_monoQ (kont_mono hq k) _ _ _ h
    | exit j => exact kont_mono hq k _ _ _ h
    | goto j => exact kont_mono hq k _ _ _ h
    | ret => exact kont_mono hq k _ _ _ h
    | panic c => exact kont_mono hq k _ _ _ h
    | outgrown => exact kont_mono hq k _ _ _ h
  | .blk id :: k, e, a, w, h => by
    cases e with
    | exit j =>
      simp only [kont] at h ⊢
      split
      · rename_i he; rw [if_pos he] at h; exact kont_mono hq k _ _ _ h
      · rename_i he; rw [if_neg he] at h; exact kont_mono hq k _ _ _ h
    | normal => exact kont_mono hq k _ _ _ h
    | goto j => exact kont_mono hq k _ _ _ h
    | ret => exact kont_mono hq k _ _ _ h
    | panic c => exact kont_mono hq k _ _ _ h
    | outgrown => exact kont_mono hq k _ _ _ h
  | .chk S :: k, e, a, w, h => by
    cases e with
    | normal => exact ⟨h.1, kont_mono hq k _ _ _ h.2⟩
    | exit j => exact kont_mono hq k _ _ _ h
    | goto j => exact kont_mono hq k _ _ _ h
    | ret => exact kont_mono hq k _ _ _ h
    | panic c => exact kont_mono hq k _ _ _ h
    | outgrown => exact kont_mono hq k _ _ _ h
  | .reg S all done :: k, e, a, w, h => by
    cases e with
    | normal => exact wpAnyH_monoQ (fun e a w h => ⟨h.1, kont_mono hq k _ _ _ h.2⟩) _ _ _ _ h
    | exit j => exact kont_mono hq k _ _ _ h
    | goto j => exact kont_mono hq k _ _ _ h
    | ret => exact kont_mono hq k _ _ _ h
    | panic c => exact kont_mono hq k _ _ _ h
    | outgrown => exact kont_mono hq k _ _ _ h
theorem kont_panic {P : Program} {Q : Exit → Act → World → Prop} : ∀ (k : List It) c (a : Act) (w : World), kont P k Q (.panic c) a w = Q (.panic c) a w
  | [], _, _, _ => rfl
  | .code _ :: k, c, a, w => kont_panic k c a w
  | .ops _ _ :: k, c, a, w => kont_panic k c a w
  | .blk _ :: k, c, a, w => kont_panic k c a w
  | .chk _ :: k, c, a, w => kont_panic k c a w
  | .reg _ _ _ :: k, c, a, w => kont_panic k c a w

/-- No panic is let through. -/
def NoPanic (K : Exit → St → Prop) : Prop := ∀ c s a w, K (.panic c) s → ¬ Sat s a w
theorem NoPanic.ends (Γ : Ty) (rs : List ResultVar) (kk : St → SV → Prop) : NoPanic (EndsK Γ rs kk) := fun _ _ _ _ h _ => h
theorem NoPanic.ends' (Γ : Ty) (rs : List ResultVar) (R : Ending → World → Prop) : NoPanic (RX.Ends Γ rs R) := fun _ _ _ _ h _ => h
theorem NoPanic.vdt {P : Program} {k : List It} {K : Exit → St → Prop} (h : NoPanic K) : NoPanic fun e s => VdT P k e s K := fun c s a w hv hs => by
  have := hv.run (fun e a w => ∀ c, e ≠ .panic c) a w hs (fun e' s' a' w' hK hs' c hc => by subst hc; exact h c s' a' w' hK hs')
  rw [kont_panic] at this
  exact this c rfl
theorem NoPanic.loop {α : Type} {S : α → St} {inv : α → Prop} {m : α → Nat} {x : α} {K : Exit → St → Prop} (h : NoPanic K) : NoPanic (LoopK S inv m x K) := fun c s a w hv hs => h c s a w hv hs

def nthO : List Oper → Nat → Option Oper
  | [], _ => none
  | o :: _, 0 => some o
  | _ :: r, n + 1 => nthO r n
theorem nthO_get (l : List Oper) (j : Nat) : nthO l j = l[j]? := by
  induction l generalizing j with
  | nil => simp [nthO]
  | cons x r ih => cases j <;> simp [nthO, ih]
def pickO (l : List Oper) : List Nat → List Oper
  | [] => []
  | i :: r => match nthO l i with
    | some o => o :: pickO l r
    | none => pickO l r
def seqO (ops : Array Oper) : List Nat → Array Bool → Bool
  | [], listed => (Region.ready .any ops listed).isEmpty
  | i :: r, listed => decide (Region.ready .any ops listed = [i]) && seqO ops r (listed.setIfInBounds i true)
def lexO (ops : Array Oper) (rest : List Nat) : List Nat → Array Bool → Bool
  | [], listed => seqO ops rest listed
  | i :: r, listed => (Region.ready .any ops listed).contains i && Region.free .any ops listed i && lexO ops rest r (listed.setIfInBounds i true)
theorem SatH.c0 {s : St} {hp' : List (Nat × SO)} {w : World} (h : SatH s w) (hh : keepH s.hp hp') : SatH ⟨0, [], hp', fun _ => False, fun _ => True⟩ w :=
  h.cutD (s' := ⟨0, [], hp', fun _ => False, fun _ => True⟩) hh (fun _ h => h.elim) (Dep.true _) trivial
/-- These first, in their order; the others then come one by one. -/
def LexO (l : List Oper) (ord rest : List Nat) : Prop := (Region.noSelect l.toArray && lexO l.toArray rest ord (Array.replicate l.length false) && decide (l.length = ord.length + rest.length)) = true
def tailI (S : World → Prop) (all : List Oper) : List Oper → List It
  | [] => []
  | o :: r => .ops all [o] :: .chk S :: tailI S all r

section
variable {P : Program} {Γ : Ty} {k : List It} {s : St} {K : Exit → St → Prop}
theorem ready_lt {ops : Array Oper} {listed : Array Bool} {i : Nat} (h : i ∈ Region.ready .any ops listed) : ∃ o, ops[i]? = some o := by
  obtain ⟨_, o, ho, _⟩ := mem_ready.1 h
  exact ⟨o, ho⟩
theorem kont_tail {S : World → Prop} {all : List Oper} {Q : Exit → Act → World → Prop} : ∀ (l : List Oper) (e : Exit) (a : Act) (w : World), e ≠ .normal → kont P (tailI S all l ++ k) Q e a w = kont P k Q e a w
  | [], _, _, _, _ => rfl
  | o :: r, e, a, w, he => by
    have := kont_tail r e a w he (S := S) (all := all) (Q := Q)
    cases e <;> first | exact absurd rfl he | exact this
theorem tail_o {all : List Oper} {S : World → Prop} {Q : Exit → Act → World → Prop} :
    ∀ (rest : List Nat) (listed : Array Bool) (a : Act) (w : World), seqO all.toArray rest listed = true → kont P (tailI S all (pickO all rest) ++ k) Q .normal a w → S w →
      wpAnyH P .any all.toArray (kont P k Q) S rest.length listed a w
  | [], listed, a, w, hB, h, hw => ⟨by simpa [seqO] using hB, h⟩
  | i :: r, listed, a, w, hB, h, hw => by
    simp only [seqO, Bool.and_eq_true, decide_eq_true_eq] at hB
    obtain ⟨o, ho⟩ := ready_lt (i := i) (ops := all.toArray) (listed := listed) (by rw [hB.1]; simp)
    have hn : nthO all i = some o := by rw [nthO_get]; simpa using ho
    refine ⟨fun h1 => (by rw [hB.1] at h1; cases h1), fun j hj => ?_⟩
    rw [hB.1] at hj
    have hjk : j = i := by simpa using hj
    subst hjk
    simp only [pickO, hn, tailI, List.cons_append] at h
    have h2 : wpList P all.toArray (kont P (It.chk S :: (tailI S all (pickO all r) ++ k)) Q) [o] a w := h
    unfold wpList at h2
    unfold wpOp
    simp only [ho]
    have key : ∀ a' w', wpList P all.toArray (kont P (It.chk S :: (tailI S all (pickO all r) ++ k)) Q) [] a' w' → (S w' ∧ wpAnyH P .any all.toArray (kont P k Q) S r.length (listed.setIfInBounds j true) a' w') := fun a' w' h' => by
      have h3 : S w' ∧ kont P (tailI S all (pickO all r) ++ k) Q .normal a' w' := h'
      exact ⟨h3.1, tail_o r _ a' w' hB.2 h3.2 h3.1⟩
    have hk : ∀ e a w, e ≠ .normal → kont P (It.chk S :: (tailI S all (pickO all r) ++ k)) Q e a w → kont P k Q e a w := fun e a w he h => by
      have := kont_tail (k := k) (pickO all r) e a w he (S := S) (all := all) (Q := Q) (P := P)
      rw [← this]
      cases e <;> first | exact absurd rfl he | exact h
    split
    · rename_i hwant
      rw [if_pos hwant] at h2
      rcases h2 with h2 | ⟨h3, a2, w2, h4⟩
      · exact .inl (Oper.wp_mono key (wp_monoQ hk h2))
      · exact .inr ⟨h3, a2, w2, hk _ _ _ (by simp) h4⟩
    · rename_i hwant
      rw [if_neg hwant] at h2
      exact key _ _ h2
theorem head_o (hΓ : Γ.ok P) {all : List Oper} {rest : List Nat} {S : World → Prop} {Q : Exit → Act → World → Prop} {kk : St → Prop} (hsel : Region.noSelect all.toArray = true) (hpan : ∀ c a w, ¬ Q (.panic c) a w) :
    ∀ (ord : List Nat) (listed : Array Bool) (s : St) (a : Act) (w : World), lexO all.toArray rest ord listed = true → headK Γ all ord.length (pickO all ord) kk s →
      (∀ w, S w → Sat s a w) → S w →
      (∀ s' a' listed', kk s' → (∀ w, S w → Sat s' a' w) → seqO all.toArray rest listed' = true → wpAnyH P .any all.toArray Q S rest.length listed' a' w) → wpAnyH P .any all.toArray Q S (ord.length + rest.length) listed a w
  | [], listed, s, a, w, hB, h, hs, hw, hQ => by
    simp only [List.length_nil, headK] at h
    rw [List.length_nil, Nat.zero_add]
    exact hQ s a listed h hs (by simpa [lexO] using hB)
  | i :: r, listed, s, a, w, hB, h, hs, hw, hQ => by
    simp only [lexO, Bool.and_eq_true] at hB
    obtain ⟨⟨hr, hf⟩, hB'⟩ := hB
    obtain ⟨o, h0⟩ := ready_lt (i := i) (ops := all.toArray) (listed := listed) (by simpa using hr)
    have hn : nthO all i = some o := by rw [nthO_get]; simpa using h0
    simp only [pickO, hn, List.length_cons, headK] at h
    obtain ⟨hd, h⟩ := h
    obtain ⟨s1, hn1, hsw, h⟩ := gdK_ok h
    rw [show (i :: r).length + rest.length = (r.length + rest.length) + 1 by simp; omega]
    rcases h with ⟨hwant, h⟩ | ⟨hwant, h⟩
    · obtain ⟨sv, hk, hkn, hy⟩ := pureK_ok hΓ h
      refine wpAnyH_take h0 hsel hf hr (fun c a w hh => absurd hh (hpan _ _ _)) (v := sv.den) (.inl ⟨hwant a w (hs w hw), fun w' hw' => hy o a w' rfl (hsw a w' (hs w' hw'))⟩) hw ?_
      exact head_o hΓ hsel hpan r _ _ _ w hB' hk (fun w' hw' => (hsw a w' (hs w' hw')).put (dstOk_of hd hn1) _ _ (fun _ => rfl)) hw hQ
    · refine wpAnyH_take h0 hsel hf hr (fun c a w hh => absurd hh (hpan _ _ _)) (v := undef) (.inr ⟨hwant a w (hs w hw), rfl⟩) hw ?_
      exact head_o hΓ hsel hpan r _ _ _ w hB' h (fun w' hw' => (hsw a w' (hs w' hw')).put (dstOk_of hd hn1) (.lit (.tuple #[])) undef (fun _ => rfl)) hw hQ
/-- What is left behind the first ones: the others, in their order. -/
def restK (P : Program) (S : World → Prop) (l : List Oper) (rest : List Nat) (k : List It) (K : Exit → St → Prop) (hp : List (Nat × SO)) (F : Nat → Prop) (p : World → Prop) (s : St) : Prop :=
  VdT P (tailI S l (pickO l rest) ++ k) .normal { s with hp := hp, fp := F, res := p } K
/-- The first ones are told with the words of another state: with them alone, these stay true behind the others. -/
theorem VdT.ord (hΓ : Γ.ok P) {id : Nat} {l : List Oper} (ord rest : List Nat) (hp' : List (Nat × SO)) (F' : Nat → Prop) (p' : World → Prop) (hB : LexO l ord rest) (hnp : NoPanic K)
    (hh : keepH s.hp hp') (hF : ∀ k, F' k → s.fp k) (hd : Dep F' p') (hr : ∀ w, SatH s w → p' w)
    (h : headK Γ l ord.length (pickO l ord) (restK P (SatH ⟨0, [], hp', F', p'⟩) l rest k K s.hp s.fp s.res) { s with hp := hp', fp := F', res := p' }) : VdT P (.code (.region id l.toArray true) :: k) .normal s K := .mk fun Q a w hs hQ => by
  simp only [kont]
  have hs0 : Sat s a { w with drawn := w.drawn + 1 } := hs.drew
  unfold LexO at hB
  simp only [Bool.and_eq_true, decide_eq_true_eq] at hB
  obtain ⟨⟨hsel, hlex⟩, hlen⟩ := hB
  have hS0 : SatH ⟨0, [], hp', F', p'⟩ { w with drawn := w.drawn + 1 } := hs0.H.cutD (s' := ⟨0, [], hp', F', p'⟩) hh hF hd (hr _ hs0.H)
  refine Code.wp_mono (Q := kont P k fun e a w => (∀ c, e ≠ .panic c) ∧ Q e a w) (kont_mono (fun e a w h => h.2) k) (wp_region_held (S := SatH ⟨0, [], hp', F', p'⟩) hΓ.mixed ?_)
  rw [show l.toArray.size = ord.length + rest.length by simpa using hlen]
  have hto : ∀ n tm, ∀ w2, SatH ⟨0, [], hp', F', p'⟩ w2 → SatH ⟨n, tm, hp', F', p'⟩ w2 := fun n tm w2 h2 => ⟨h2.nd, h2.obj, h2.lt, h2.far, h2.fpl, h2.dep, h2.rs⟩
  refine head_o hΓ hsel (fun c a w h => by rw [kont_panic] at h; exact h.1 c rfl) ord _ { s with hp := hp', fp := F', res := p' } a _ (by rw [← hlen]; simpa using hlex) h (fun w2 h2 => ⟨hs.sz, hs.fr, hs.df, hto _ _ w2 h2⟩) hS0 ?_
  intro s' a' listed' h2 hs' hB'
  have hs2 := hs' _ hS0
  have hs3 : Sat { s' with hp := s.hp, fp := s.fp, res := s.res } a' { w with drawn := w.drawn + 1 } := ⟨hs2.sz, hs2.fr, hs2.df, ⟨hs0.H.nd, hs0.H.obj, hs0.H.lt, hs0.H.far, hs0.H.fpl, hs0.H.dep, hs0.H.rs⟩⟩
  exact tail_o rest listed' a' _ hB' (h2.run _ a' _ hs3 (fun e' s3 a3 w3 hK h3 => ⟨fun c hc => by subst hc; exact hnp c s3 a3 w3 hK h3, hQ e' s3 a3 w3 hK h3⟩)) hS0
/-- Some that may be taken first; then these are the ones that may come; or none is left. -/
def lexC (ops : Array Oper) (ones : List Nat) : List Nat → Array Bool → Bool
  | [], listed => decide (Region.ready .any ops listed = ones)
  | i :: r, listed => (Region.ready .any ops listed).contains i && Region.free .any ops listed i && lexC ops ones r (listed.setIfInBounds i true)
def LexC (l : List Oper) (done ord : List Nat) (ones : List Nat) : Prop := (Region.noSelect l.toArray && lexC l.toArray ones ord (doneA l.length done) && decide (done.length + ord.length + (match ones with | [] => 0 | _ => 1) ≤ l.length)) = true
def revA : List Nat → List Nat → List Nat
  | [], l => l
  | i :: r, l => revA r (i :: l)
theorem revA_length : ∀ r l : List Nat, (revA r l).length = r.length + l.length
  | [], l => by simp [revA]
  | i :: r, l => by rw [revA, revA_length r (i :: l)]; simp; omega
theorem head_c (hΓ : Γ.ok P) {all : List Oper} {one : List Nat} {S : World → Prop} {Q : Exit → Act → World → Prop} {kk : St → Prop} {f : Nat} (hsel : Region.noSelect all.toArray = true) (hpan : ∀ c a w, ¬ Q (.panic c) a w) :
    ∀ (ord done : List Nat) (s : St) (a : Act) (w : World), lexC all.toArray one ord (doneA all.length done) = true → headK Γ all ord.length (pickO all ord) kk s →
      (∀ w, S w → Sat s a w) → S w →
      (∀ s' a', kk s' → (∀ w, S w → Sat s' a' w) → lexC all.toArray one [] (doneA all.length (revA ord done)) = true → wpAnyH P .any all.toArray Q S f (doneA all.length (revA ord done)) a' w) → wpAnyH P .any all.toArray Q S (ord.length + f) (doneA all.length done) a w
  | [], done, s, a, w, hB, h, hs, hw, hQ => by
    simp only [List.length_nil, headK] at h
    rw [List.length_nil, Nat.zero_add]
    exact hQ s a h hs hB
  | i :: r, done, s, a, w, hB, h, hs, hw, hQ => by
    simp only [lexC, Bool.and_eq_true] at hB
    obtain ⟨⟨hr, hf⟩, hB'⟩ := hB
    obtain ⟨o, h0⟩ := ready_lt (i := i) (ops := all.toArray) (listed := doneA all.length done) (by simpa using hr)
    have hn : nthO all i = some o := by rw [nthO_get]; simpa using h0
    simp only [pickO, hn, List.length_cons, headK] at h
    obtain ⟨hd, h⟩ := h
    obtain ⟨s1, hn1, hsw, h⟩ := gdK_ok h
    rw [show (i :: r).length + f = (r.length + f) + 1 by simp; omega]
    rcases h with ⟨hwant, h⟩ | ⟨hwant, h⟩
    · obtain ⟨sv, hk, hkn, hy⟩ := pureK_ok hΓ h
      refine wpAnyH_take h0 hsel hf hr (fun c a w hh => absurd hh (hpan _ _ _)) (v := sv.den) (.inl ⟨hwant a w (hs w hw), fun w' hw' => hy o a w' rfl (hsw a w' (hs w' hw'))⟩) hw ?_
      exact head_c hΓ hsel hpan r (i :: done) _ _ w hB' hk (fun w' hw' => (hsw a w' (hs w' hw')).put (dstOk_of hd hn1) _ _ (fun _ => rfl)) hw hQ
    · refine wpAnyH_take h0 hsel hf hr (fun c a w hh => absurd hh (hpan _ _ _)) (v := undef) (.inr ⟨hwant a w (hs w hw), rfl⟩) hw ?_
      exact head_c hΓ hsel hpan r (i :: done) _ _ w hB' h (fun w' hw' => (hsw a w' (hs w' hw')).put (dstOk_of hd hn1) (.lit (.tuple #[])) undef (fun _ => rfl)) hw hQ
theorem VdT.regIn (hΓ : Γ.ok P) {id : Nat} {l : List Oper} (S : World → Prop) (hnp : NoPanic K) (h : VdT P (.reg S l [] :: k) .normal s K) : VdT P (.code (.region id l.toArray true) :: k) .normal s K := .mk fun Q a w hs hQ => by
  have hs0 : Sat s a { w with drawn := w.drawn + 1 } := hs.drew
  have := h.run Q a _ hs0 hQ
  simp only [kont] at this ⊢
  refine Code.wp_mono (Q := fun e a w => (∀ c, e ≠ .panic c) ∧ kont P k Q e a w) (fun e a w h => h.2) (wp_region_held (S := S) hΓ.mixed ?_)
  simpa [doneA] using this
def contO (P : Program) (S : World → Prop) (l : List Oper) (done : List Nat) (k : List It) (K : Exit → St → Prop) (hp : List (Nat × SO)) (F : Nat → Prop) (p : World → Prop) (s : St) : List Nat → Prop
  | [] => True
  | i :: r => (match nthO l i with
    | some o => VdT P (.ops l [o] :: .chk S :: .reg S l (i :: done) :: k) .normal { s with hp := hp, fp := F, res := p } K
    | none => False) ∧ contO P S l done k K hp F p s r
def contK (P : Program) (S : World → Prop) (l : List Oper) (done : List Nat) (k : List It) (K : Exit → St → Prop) (hp : List (Nat × SO)) (F : Nat → Prop) (p : World → Prop) (ones : List Nat) (s : St) : Prop :=
  match ones with
  | [] => VdT P k .normal { s with hp := hp, fp := F, res := p } K
  | i :: r => contO P S l done k K hp F p s (i :: r)
theorem contO_mem {S : World → Prop} {l : List Oper} {done : List Nat} {hp : List (Nat × SO)} {F : Nat → Prop} {p : World → Prop} {s : St} : ∀ {ones : List Nat}, contO P S l done k K hp F p s ones → ∀ i ∈ ones, ∀ o, nthO l i = some o → VdT P (.ops l [o] :: .chk S :: .reg S l (i :: done) :: k) .normal { s with hp := hp, fp := F, res := p } K
  | [], _, i, hi, _, _ => by simp at hi
  | j :: r, h, i, hi, o, ho => by
    rcases List.mem_cons.1 hi with rfl | hi
    · have := h.1
      rw [ho] at this
      exact this
    · exact contO_mem h.2 i hi o ho
theorem VdT.regGo (hΓ : Γ.ok P) {l : List Oper} {done : List Nat} {hp' : List (Nat × SO)} {F' : Nat → Prop} {p' : World → Prop} (ord : List Nat) (one : List Nat) (hB : LexC l done ord one) (hnp : NoPanic K)
    (hS : ∀ w, SatH s w → SatH ⟨0, [], hp', F', p'⟩ w)
    (h : headK Γ l ord.length (pickO l ord) (contK P (SatH ⟨0, [], hp', F', p'⟩) l (revA ord done) k K s.hp s.fp s.res one) { s with hp := hp', fp := F', res := p' }) : VdT P (.reg (SatH ⟨0, [], hp', F', p'⟩) l done :: k) .normal s K := .mk fun Q a w hs hQ => by
  unfold LexC at hB
  simp only [Bool.and_eq_true, decide_eq_true_eq] at hB
  obtain ⟨⟨hsel, hlex⟩, hlen⟩ := hB
  have hS0 := hS w hs.H
  have hto : ∀ n tm, ∀ w2, SatH ⟨0, [], hp', F', p'⟩ w2 → SatH ⟨n, tm, hp', F', p'⟩ w2 := fun n tm w2 h2 => ⟨h2.nd, h2.obj, h2.lt, h2.far, h2.fpl, h2.dep, h2.rs⟩
  simp only [kont]
  rw [show l.length - done.length = ord.length + (l.length - (revA ord done).length) by rw [revA_length]; omega]
  refine head_c hΓ hsel (fun c a w h => h.1 c rfl) ord done { s with hp := hp', fp := F', res := p' } a w hlex h (fun w2 h2 => ⟨hs.sz, hs.fr, hs.df, hto _ _ w2 h2⟩) hS0 ?_
  intro s' a' h2 hs' hB'
  have hs2 := hs' _ hS0
  have hs3 : Sat { s' with hp := s.hp, fp := s.fp, res := s.res } a' w := ⟨hs2.sz, hs2.fr, hs2.df, ⟨hs.H.nd, hs.H.obj, hs.H.lt, hs.H.far, hs.H.fpl, hs.H.dep, hs.H.rs⟩⟩
  have hQ2 : ∀ e' s3 a3 w3, K e' s3 → Sat s3 a3 w3 → (∀ c, e' ≠ .panic c) ∧ Q e' a3 w3 := fun e' s3 a3 w3 hK h3 => ⟨fun c hc => by subst hc; exact hnp c s3 a3 w3 hK h3, hQ e' s3 a3 w3 hK h3⟩
  cases one with
  | nil =>
    have h4 := VdT.run h2 _ a' w hs3 hQ2
    have h5 : (∀ c, Exit.normal ≠ .panic c) ∧ kont P k Q .normal a' w := ⟨fun c => by simp, kont_mono (fun e a w h => h.2) k _ _ _ h4⟩
    exact wpAnyH_done (by simpa [lexC] using hB') h5 _
  | cons i0 r0 =>
    simp only [lexC, decide_eq_true_eq] at hB'
    have hlen2 : l.length - (revA ord done).length = (l.length - (revA ord done).length - 1) + 1 := by
      simp only at hlen
      simp only [revA_length]
      omega
    rw [hlen2]
    refine ⟨fun h1 => (by rw [hB'] at h1; cases h1), fun j hj => ?_⟩
    obtain ⟨o, ho⟩ := ready_lt (i := j) (ops := l.toArray) (listed := doneA l.length (revA ord done)) hj
    have hn : nthO l j = some o := by rw [nthO_get]; simpa using ho
    have h4 := (contO_mem h2 j (by rw [← hB']; exact hj) o hn).run _ a' w hs3 hQ2
    rw [show l.length - (revA ord done).length - 1 = l.length - (j :: revA ord done).length by simp only [List.length_cons]; omega]
    have h5 : wpList P l.toArray (kont P (It.chk (SatH ⟨0, [], hp', F', p'⟩) :: It.reg (SatH ⟨0, [], hp', F', p'⟩) l (j :: revA ord done) :: k) fun e a w => (∀ c, e ≠ .panic c) ∧ Q e a w) [o] a' w := h4
    unfold wpList at h5
    unfold wpOp
    simp only [ho]
    have key : ∀ a2 w2, wpList P l.toArray (kont P (It.chk (SatH ⟨0, [], hp', F', p'⟩) :: It.reg (SatH ⟨0, [], hp', F', p'⟩) l (j :: revA ord done) :: k) fun e a w => (∀ c, e ≠ .panic c) ∧ Q e a w) [] a2 w2 →
        (SatH ⟨0, [], hp', F', p'⟩ w2 ∧ wpAnyH P .any l.toArray (fun e a w => (∀ c, e ≠ .panic c) ∧ kont P k Q e a w) (SatH ⟨0, [], hp', F', p'⟩) (l.length - (j :: revA ord done).length) ((doneA l.length (revA ord done)).setIfInBounds j true) a2 w2) := fun a2 w2 h6 => by
      have h7 : SatH ⟨0, [], hp', F', p'⟩ w2 ∧ wpAnyH P .any l.toArray (fun e a w => (∀ c, e ≠ .panic c) ∧ kont P k (fun e a w => (∀ c, e ≠ .panic c) ∧ Q e a w) e a w) (SatH ⟨0, [], hp', F', p'⟩) (l.length - (j :: revA ord done).length) ((doneA l.length (revA ord done)).setIfInBounds j true) a2 w2 := h6
      exact ⟨h7.1, wpAnyH_monoQ (fun e a w h => ⟨h.1, kont_mono (fun e a w h => h.2) k _ _ _ h.2⟩) _ _ _ _ h7.2⟩
    have hk : ∀ e a w, e ≠ .normal → kont P (It.chk (SatH ⟨0, [], hp', F', p'⟩) :: It.reg (SatH ⟨0, [], hp', F', p'⟩) l (j :: revA ord done) :: k) (fun e a w => (∀ c, e ≠ .panic c) ∧ Q e a w) e a w → (∀ c, e ≠ .panic c) ∧ kont P k Q e a w := fun e a w he h => by
      cases e with
      | normal => exact absurd rfl he
      | panic c => rw [kont_panic] at h; exact absurd rfl (h.1 c)
      | exit j => exact ⟨fun c => by simp, kont_mono (fun e a w h => h.2) k _ _ _ (show kont P k _ _ _ _ from h)⟩
      | goto j => exact ⟨fun c => by simp, kont_mono (fun e a w h => h.2) k _ _ _ (show kont P k _ _ _ _ from h)⟩
      | ret => exact ⟨fun c => by simp, kont_mono (fun e a w h => h.2) k _ _ _ (show kont P k _ _ _ _ from h)⟩
      | outgrown => exact ⟨fun c => by simp, kont_mono (fun e a w h => h.2) k _ _ _ (show kont P k _ _ _ _ from h)⟩
    split
    · rename_i hwant
      rw [if_pos hwant] at h5
      rcases h5 with h5 | ⟨h6, a2, w2, h7⟩
      · exact .inl (Oper.wp_mono key (wp_monoQ hk h5))
      · exact .inr ⟨h6, a2, w2, hk _ _ _ (by simp) h7⟩
    · rename_i hwant
      rw [if_neg hwant] at h5
      exact key _ _ h5
end
end Go.Proofs.RX
