/- The run over what is left to do; it is sound. -/
import Derived.Test.YtoplidleecbdeaaRXg
set_option linter.unusedVariables false
set_option linter.unusedSimpArgs false
namespace Go.Proofs.RX
open Go Go.RowKit

/-- What the run leaves to the prover. -/
def rawOp : Op → Bool
  | .move _ | .assign _ | .pick .. | .alloc _ | .box .. | .build .. | .buildSlice .. | .load .. | .store .. | .nilCheck _ | .binOp .. | .unOp .. | .convert .. | .makeInterface .. | .makeFunc .. | .slice .. | .fieldAddr .. | .index .. | .indexAddr .. | .lookup .. | .extract .. => false
  | .call c => match c.callee with
    | .builtin b => match b with
      | .len => false
      | _ => true
    | _ => true
  | _ => true
def memN : Nat → List Nat → Bool
  | _, [] => false
  | a, b :: r => if a = b then true else memN a r
def stopAt (stops : List Nat) (o : Oper) : Bool :=
  match o.dst with
  | some d => memN d stops
  | none => false
/-- An operation that leaves the world alone. -/
def calmOp : Op → Bool
  | .alloc _ | .box .. | .buildSlice .. | .store .. => false
  | op => !rawOp op
def calmN (stops : List Nat) : List Oper → Nat
  | [] => 0
  | o :: r => match calmOp o.op && !stopAt stops o with
    | true => calmN stops r + 1
    | false => 0
def skC (dst : Option Tmp) (kk : St → Prop) (s : St) : Prop := kk (s.put dst .any)
def pureC (Γ : Ty) (op : Op) (dst : Option Tmp) (kk : St → Prop) (s : St) : Prop := pureK Γ s op (putA dst kk s)
def headK (Γ : Ty) (all : List Oper) : Nat → List Oper → (St → Prop) → St → Prop
  | 0, _, kk, s => kk s
  | n + 1, r, kk, s => match r with
    | [] => kk s
    | o :: r => dstOk s o.dst ∧ gdK all s o.guard (pureC Γ o.op o.dst (headK Γ all n r kk)) (skC o.dst (headK Γ all n r kk))
def LexB (l : List Oper) : Prop := Region.lexB .any l.toArray = true
def LexTailB (l : List Oper) (n : Nat) : Prop := Region.lexTailB .any l.toArray n = true
def setB (s : St) (x : Operand) (b : Bool) : St :=
  match x with
  | .tmp t => s.put (some t) (.lit (.bool b))
  | .const _ => s
  | .global _ => s
  | .func _ => s
def cndK (s : St) (x : Operand) (k1 k0 : St → Prop) : Prop :=
  match evO s x with
  | .lit (.bool b) => match b with | true => k1 s | false => k0 s
  | .bs b => (b = true → k1 (setB s x true)) ∧ (b = false → k0 (setB s x false))
  | _ => False
def stC (Γ : Ty) (op : Op) (dst : Option Tmp) (kk : St → Prop) (s : St) : Prop := stpK Γ s op dst kk
def rawC (P : Program) (all : List Oper) (d : Option Tmp) (op : Op) (t : TypeId) (pos : String) (af : Array Edge) (r : List Oper) (k : List It) (K : Exit → St → Prop) (s : St) : Prop := VdT P (.ops all (⟨d, op, t, pos, af, none⟩ :: r) :: k) .normal s K
/-- The run, the state last. -/
def go (P : Program) (Γ : Ty) (stops : List Nat) (K : Exit → St → Prop) : Nat → List It → Exit → St → Prop
  | 0, k, e, s => VdT P k e s K
  | n + 1, k, e, s => match k with
    | [] => K e s
    | .code c :: k => match e with
      | .normal => match c with
        | .skip => go P Γ stops K n k .normal s
        | .seq a b => go P Γ stops K n (.code a :: .code b :: k) .normal s
        | .block id b => go P Γ stops K n (.code b :: .blk id :: k) .normal s
        | .ret => go P Γ stops K n k .ret s
        | .exit id => go P Γ stops K n k (.exit id) s
        | .cond x a b => cndK s x (go P Γ stops K n (.code a :: k) .normal) (go P Γ stops K n (.code b :: k) .normal)
        | .region id ops draw => match draw with
          | false => go P Γ stops K n (.ops ops.toList ops.toList :: k) .normal s
          | true => if calmN stops ops.toList = ops.toList.length
            then LexB ops.toList ∧ headK Γ ops.toList (calmN stops ops.toList) ops.toList (go P Γ stops K n k .normal) s
            else LexTailB ops.toList (calmN stops ops.toList) ∧ headK Γ ops.toList (calmN stops ops.toList) ops.toList (go P Γ stops K n (.ops ops.toList (ops.toList.drop (calmN stops ops.toList)) :: k) .normal) s
        | c => VdT P (.code c :: k) .normal s K
      | e => go P Γ stops K n k e s
    | .ops all r :: k => match e with
      | .normal => match r with
        | [] => go P Γ stops K n k .normal s
        | o :: r => match rawOp o.op || stopAt stops o with
          | true => dstOk s o.dst ∧ gdK all s o.guard (rawC P all o.dst o.op o.type o.pos o.after r k K) (skC o.dst (go P Γ stops K n (.ops all r :: k) .normal))
          | false => dstOk s o.dst ∧ gdK all s o.guard (stC Γ o.op o.dst (go P Γ stops K n (.ops all r :: k) .normal)) (skC o.dst (go P Γ stops K n (.ops all r :: k) .normal))
      | e => go P Γ stops K n k e s
    | .blk id :: k => match e with
      | .exit j => if j = id then go P Γ stops K n k .normal s else go P Γ stops K n k (.exit j) s
      | e => go P Γ stops K n k e s

section
variable {P : Program} {Γ : Ty} {k : List It} {s : St} {K : Exit → St → Prop}

theorem headK_still (hΓ : Γ.ok P) {all : List Oper} (w : World) {Qf : Act → Prop} : ∀ (n : Nat) (r : List Oper) (s : St) (kk : St → Prop) (a : Act), headK Γ all n r kk s → Sat s a w →
    (∀ s' a', kk s' → Sat s' a' w → Qf a') → wpStill P all.toArray w Qf (r.take n) a
  | 0, r, s, kk, a, h, hs, hQ => by
    simp only [headK] at h
    simp only [List.take_zero]
    exact hQ s a h hs
  | n + 1, [], s, kk, a, h, hs, hQ => by
    simp only [headK] at h
    exact hQ s a h hs
  | n + 1, o :: r, s, kk, a, h, hs, hQ => by
    simp only [headK] at h
    obtain ⟨hd, h⟩ := h
    obtain ⟨s1, hn, hw, h⟩ := gdK_ok h
    have hs1 := hw a w hs
    simp only [List.take_succ_cons, wpStill]
    rcases h with ⟨hwant, h⟩ | ⟨hwant, h⟩
    · rw [if_pos (hwant a w hs)]
      obtain ⟨sv, hk, hkn, hy⟩ := pureK_ok hΓ h
      unfold Oper.still
      rw [hy o a w rfl hs1, Oper.stillUpon_value]
      exact headK_still hΓ w n r _ kk _ hk (hs1.put (dstOk_of hd hn) _ _ (fun _ => rfl)) hQ
    · rw [if_neg (by rw [hwant a w hs]; simp)]
      exact headK_still hΓ w n r _ kk _ h (hs1.put (dstOk_of hd hn) .any undef (by simp [SV.known])) hQ

theorem calmN_le (stops : List Nat) : ∀ l : List Oper, calmN stops l ≤ l.length
  | [] => by simp [calmN]
  | o :: r => by
    have := calmN_le stops r
    unfold calmN
    split <;> simp <;> omega

theorem VdT.drawn (hΓ : Γ.ok P) {id : Nat} {l : List Oper} (hB : LexB l) {n : Nat} (hn : l.take n = l) {kk : St → Prop} (hkk : ∀ s1, kk s1 → VdT P k .normal s1 K) (h : headK Γ l n l kk s) : VdT P (.code (.region id l.toArray true) :: k) .normal s K := fun Q a w hs hQ => by
  simp only [kont]
  refine wp_region_still_lit hΓ.mixed hB ?_
  have := headK_still hΓ { w with drawn := w.drawn + 1 } (Qf := fun a' => kont P k Q .normal a' { w with drawn := w.drawn + 1 }) n l s _ a h hs.drew (fun s' a' hv hs' => hkk s' hv Q a' _ hs' hQ)
  rw [hn] at this
  exact this
theorem VdT.drawnTail (hΓ : Γ.ok P) {id : Nat} {l : List Oper} {n : Nat} (hB : LexTailB l n) {kk : St → Prop} (hkk : ∀ s1, kk s1 → VdT P (.ops l (l.drop n) :: k) .normal s1 K) (h : headK Γ l n l kk s) : VdT P (.code (.region id l.toArray true) :: k) .normal s K := fun Q a w hs hQ => by
  simp only [kont]
  refine wp_region_still_tail n hΓ.mixed hB ?_
  exact headK_still hΓ { w with drawn := w.drawn + 1 } n l s _ a h hs.drew (fun s' a' hv hs' => hkk s' hv Q a' _ hs' hQ)

theorem VdT.cnd {x : Operand} {a b : Code} {k1 k0 : St → Prop} (h : cndK s x k1 k0) (h1 : ∀ s1, k1 s1 → VdT P (.code a :: k) .normal s1 K) (h0 : ∀ s1, k0 s1 → VdT P (.code b :: k) .normal s1 K) : VdT P (.code (.cond x a b) :: k) .normal s K := by
  have hput : ∀ (v : Bool), (evO s x).known = true → (evO s x).den = .bool v → ∀ ac w, Sat s ac w → Sat (setB s x v) ac w := by
    intro v hk hv ac w hs
    cases x with
    | tmp d =>
      refine ⟨hs.sz, fun t ht => ?_, hs.df, (St.put_H s (some d) _ w).2 hs.H⟩
      simp only [setB, St.put, getT] at ht ⊢
      by_cases e : d = t
      · subst e
        simp only [if_true]
        have := hs.fr d hk
        rw [this]
        exact hv
      · simp only [if_neg e] at ht ⊢
        exact hs.fr t ht
    | const v => exact hs
    | global v => exact hs
    | func v => exact hs
  unfold cndK at h
  split at h
  · rename_i v hv
    cases v with
    | true => exact VdT.code_cond (b := true) ⟨by rw [hv]; rfl, by rw [hv]; rfl⟩ (h1 _ h)
    | false => exact VdT.code_cond (b := false) ⟨by rw [hv]; rfl, by rw [hv]; rfl⟩ (h0 _ h)
  · rename_i v hv
    cases v with
    | true => exact VdT.code_cond (b := true) ⟨by rw [hv]; rfl, by rw [hv]; rfl⟩ (VdT.wk (hput true (by rw [hv]; rfl) (by rw [hv]; rfl)) (h1 _ (h.1 rfl)))
    | false => exact VdT.code_cond (b := false) ⟨by rw [hv]; rfl, by rw [hv]; rfl⟩ (VdT.wk (hput false (by rw [hv]; rfl) (by rw [hv]; rfl)) (h0 _ (h.2 rfl)))
  · exact h.elim

theorem run_ok (hΓ : Γ.ok P) {stops : List Nat} : ∀ (n : Nat) (k : List It) (e : Exit) (s : St), go P Γ stops K n k e s → VdT P k e s K
  | 0, k, e, s, h => h
  | n + 1, [], e, s, h => VdT.nil h
  | n + 1, .code c :: k, e, s, h => by
    cases e with
    | normal =>
      cases c with
      | skip => exact VdT.code_skip (run_ok hΓ n _ _ _ h)
      | seq a b => exact VdT.code_seq (run_ok hΓ n _ _ _ h)
      | block id b => exact VdT.code_block (run_ok hΓ n _ _ _ h)
      | ret => exact VdT.code_ret (run_ok hΓ n _ _ _ h)
      | exit id => exact VdT.code_exit (run_ok hΓ n _ _ _ h)
      | cond x a b =>
        simp only [go] at h
        exact VdT.cnd h (fun s1 h1 => run_ok hΓ n _ _ _ h1) (fun s1 h1 => run_ok hΓ n _ _ _ h1)
      | region id ops draw =>
        have hops : ops = ops.toList.toArray := by simp
        cases draw with
        | false =>
          rw [hops]
          exact VdT.code_region (run_ok hΓ n _ _ _ h)
        | true =>
          simp only [go] at h
          rw [hops]
          split at h
          · rename_i hc
            exact VdT.drawn hΓ h.1 (List.take_of_length_le (by rw [hc]; exact Nat.le_refl _)) (fun s1 h1 => run_ok hΓ n _ _ _ h1) h.2
          · exact VdT.drawnTail hΓ h.1 (fun s1 h1 => run_ok hΓ n _ _ _ h1) h.2
      | loop b => exact h
      | rangeFunc a b c d => exact h
      | scope b => exact h
      | label l => exact h
      | goto l => exact h
      | refuse w => exact h
    | exit j => exact VdT.pass_code (by simp) (run_ok hΓ n _ _ _ h)
    | goto j => exact VdT.pass_code (by simp) (run_ok hΓ n _ _ _ h)
    | ret => exact VdT.pass_code (by simp) (run_ok hΓ n _ _ _ h)
    | panic c => exact VdT.pass_code (by simp) (run_ok hΓ n _ _ _ h)
    | outgrown => exact VdT.pass_code (by simp) (run_ok hΓ n _ _ _ h)
  | n + 1, .ops all r :: k, e, s, h => by
    cases e with
    | normal =>
      cases r with
      | nil => exact VdT.ops_nil (run_ok hΓ n _ _ _ h)
      | cons o r =>
        simp only [go] at h
        split at h
        · obtain ⟨hd, h⟩ := h
          obtain ⟨s1, hn, hw, h⟩ := gdK_ok h
          intro Q a w hs hQ
          have hs1 := hw a w hs
          simp only [kont]
          unfold wpList
          rcases h with ⟨hwant, h⟩ | ⟨hwant, h⟩
          · have h2 := h Q a w hs1 hQ
            simp only [kont] at h2
            unfold wpList at h2
            rw [if_pos (by simp [Region.wanted])] at h2
            rw [if_pos (hwant a w hs)]
            exact h2
          · have h2 := run_ok hΓ n _ _ _ h Q _ w (hs1.put (dstOk_of hd hn) .any undef (by simp [SV.known])) hQ
            simp only [kont] at h2
            rw [if_neg (by rw [hwant a w hs]; simp)]
            exact h2
        · obtain ⟨hd, h⟩ := h
          obtain ⟨s1, hn, hw, h⟩ := gdK_ok h
          intro Q a w hs hQ
          have hs1 := hw a w hs
          simp only [kont]
          unfold wpList
          rcases h with ⟨hwant, h⟩ | ⟨hwant, h⟩
          · obtain ⟨u, w', s', hr, hs', hv⟩ := stpK_ok hΓ (dstOk_of hd hn) h a w hs1
            have h2 := run_ok hΓ n _ _ _ hv Q _ w' hs' hQ
            simp only [kont] at h2
            rw [if_pos (hwant a w hs)]
            left
            unfold Oper.wp
            rcases hr with hr | ⟨hr, rfl⟩
            · rw [hr]; exact h2
            · rw [hr]; exact h2
          · have h2 := run_ok hΓ n _ _ _ h Q _ w (hs1.put (dstOk_of hd hn) .any undef (by simp [SV.known])) hQ
            simp only [kont] at h2
            rw [if_neg (by rw [hwant a w hs]; simp)]
            exact h2
    | exit j => exact VdT.pass_ops (by simp) (run_ok hΓ n _ _ _ h)
    | goto j => exact VdT.pass_ops (by simp) (run_ok hΓ n _ _ _ h)
    | ret => exact VdT.pass_ops (by simp) (run_ok hΓ n _ _ _ h)
    | panic c => exact VdT.pass_ops (by simp) (run_ok hΓ n _ _ _ h)
    | outgrown => exact VdT.pass_ops (by simp) (run_ok hΓ n _ _ _ h)
  | n + 1, .blk id :: k, e, s, h => by
    cases e with
    | exit j =>
      simp only [go] at h
      split at h
      · rename_i e
        subst e
        exact VdT.blk_hit (run_ok hΓ n _ _ _ h)
      · rename_i e
        exact VdT.blk_miss e (run_ok hΓ n _ _ _ h)
    | normal => exact VdT.pass_blk (by simp) (run_ok hΓ n _ _ _ h)
    | goto j => exact VdT.pass_blk (by simp) (run_ok hΓ n _ _ _ h)
    | ret => exact VdT.pass_blk (by simp) (run_ok hΓ n _ _ _ h)
    | panic c => exact VdT.pass_blk (by simp) (run_ok hΓ n _ _ _ h)
    | outgrown => exact VdT.pass_blk (by simp) (run_ok hΓ n _ _ _ h)
end
end Go.Proofs.RX
