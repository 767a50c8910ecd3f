/- The run over what is left to do; it is sound. -/
import Derived.Test.YtoplidleecbdeaaRXv
set_option linter.unusedVariables false
set_option linter.unusedSimpArgs false
namespace Go.Proofs.RX
open Go Go.RowKit

/-- What the run leaves to the prover. -/
def rawOp : Op → Bool
  | .move _ | .assign _ | .pick .. | .alloc _ | .box .. | .build .. | .buildSlice .. | .load .. | .store .. | .nilCheck _ | .binOp .. | .unOp .. | .convert .. | .makeInterface .. | .makeFunc .. | .slice .. | .fieldAddr .. | .index .. | .indexAddr .. | .lookup .. | .extract .. => false
  | .call c => match c.callee with
    | .builtin b => match b with
      | .len => false
      | _ => true
    | _ => true
  | _ => true
def memN : Nat → List Nat → Bool
  | _, [] => false
  | a, b :: r => if a = b then true else memN a r
def stopAt (stops : List Nat) (o : Oper) : Bool :=
  match o.dst with
  | some d => memN d stops
  | none => false
/-- An operation that leaves the world alone. -/
def calmOp : Op → Bool
  | .alloc _ | .box .. | .buildSlice .. | .store .. => false
  | op => !rawOp op
def calmN (stops : List Nat) : List Oper → Nat
  | [] => 0
  | o :: r => match calmOp o.op && !stopAt stops o with
    | true => calmN stops r + 1
    | false => 0
def skC (dst : Option Tmp) (kk : St → Prop) (s : St) : Prop := kk (s.put dst (.lit (.tuple #[])))
def pureC (Γ : Ty) (op : Op) (dst : Option Tmp) (kk : St → Prop) (s : St) : Prop := pureK Γ s op (putA dst kk s)
def headK (Γ : Ty) (all : List Oper) : Nat → List Oper → (St → Prop) → St → Prop
  | 0, _, kk, s => kk s
  | n + 1, r, kk, s => match r with
    | [] => kk s
    | o :: r => dstOk s o.dst ∧ gdK all s o.guard (pureC Γ o.op o.dst (headK Γ all n r kk)) (skC o.dst (headK Γ all n r kk))
def LexB (l : List Oper) : Prop := Region.lexB .any l.toArray = true
def LexTailB (l : List Oper) (n : Nat) : Prop := Region.lexTailB .any l.toArray n = true
def setB (s : St) (x : Operand) (b : Bool) : St :=
  match x with
  | .tmp t => s.put (some t) (.lit (.bool b))
  | .const _ => s
  | .global _ => s
  | .func _ => s
def cndK (s : St) (x : Operand) (k1 k0 : St → Prop) : Prop :=
  match evO s x with
  | .lit (.bool b) => match b with | true => k1 s | false => k0 s
  | .bs b => (b = true → k1 (setB s x true)) ∧ (b = false → k0 (setB s x false))
  | _ => False
def stC (Γ : Ty) (op : Op) (dst : Option Tmp) (kk : St → Prop) (s : St) : Prop := stpK Γ s op dst kk
def rawC (P : Program) (all : List Oper) (d : Option Tmp) (op : Op) (t : TypeId) (pos : String) (af : Array Edge) (r : List Oper) (k : List It) (K : Exit → St → Prop) (s : St) : Prop := VdT P (.ops all (⟨d, op, t, pos, af, none⟩ :: r) :: k) .normal s K
/-- A region whose tail stores, in whatever order: the head's operations don't look at what the tail stores. -/
def LexHeldB (l : List Oper) (n : Nat) : Prop := (Region.noSelect l.toArray && Region.lexHead .any l.toArray (l.drop n).length n 0 (Array.replicate l.length false)) = true
def blurH : List (Nat × SO) → List Nat → List (Nat × SO)
  | hp, [] => hp
  | hp, i :: r => blurH (setH hp i .unk) r
def tgtS (s : St) : List Oper → List Nat
  | [] => []
  | o :: r => match o.op with
    | .store _ x _ => match evO s x with
      | .ptr i _ _ => i :: tgtS s r
      | _ => tgtS s r
    | _ => tgtS s r
def keptS (hp : List (Nat × SO)) (F : Nat → Prop) (p : World → Prop) (kk : St → Prop) (s : St) : Prop := keepH s.hp hp ∧ s.fp = F ∧ s.res = p ∧ kk s
def tailK (Γ : Ty) (all : List Oper) (hp : List (Nat × SO)) (F : Nat → Prop) (p : World → Prop) : List Oper → (St → Prop) → St → Prop
  | [], kk, s => kk s
  | o :: r, kk, s => dstOk s o.dst ∧ gdK all s o.guard (stC Γ o.op o.dst (keptS hp F p (tailK Γ all hp F p r kk))) (skC o.dst (tailK Γ all hp F p r kk))
def heldT (Γ : Ty) (l : List Oper) (n : Nat) (hp hp' : List (Nat × SO)) (F : Nat → Prop) (p : World → Prop) (kk : St → Prop) (s : St) : Prop := s.fp = F ∧ s.res = p ∧ tailK Γ l hp' F p (l.drop n) kk { s with hp := hp }
def heldJ (Γ : Ty) (l : List Oper) (n : Nat) (s : St) (kk : St → Prop) (hp' : List (Nat × SO)) : Prop := keepH s.hp hp' ∧ headK Γ l n l (heldT Γ l n s.hp hp' s.fp s.res kk) { s with hp := hp' }
def heldH (Γ : Ty) (l : List Oper) (n : Nat) (s : St) (kk : St → Prop) (s1 : St) : Prop := heldJ Γ l n s kk (blurH s.hp (tgtS s1 (l.drop n)))
def heldK (Γ : Ty) (l : List Oper) (n : Nat) (kk : St → Prop) (s : St) : Prop := headK Γ l n l (heldH Γ l n s kk) s
def plainL (stops : List Nat) : List Oper → Bool
  | [] => true
  | o :: r => match rawOp o.op || stopAt stops o with
    | true => false
    | false => plainL stops r
/-- A region whose order is drawn. -/
def regK (Γ : Ty) (f : List It → Exit → St → Prop) (l : List Oper) (k : List It) (s : St) (m : Nat) (b c : Bool) : Prop :=
  match b with
  | true => LexB l ∧ headK Γ l m l (f k .normal) s
  | false => match c with
    | true => LexHeldB l m ∧ heldK Γ l m (f k .normal) s
    | false => LexTailB l m ∧ headK Γ l m l (f (.ops l (l.drop m) :: k) .normal) s
def regS (P : Program) (Γ : Ty) (K : Exit → St → Prop) (f : List It → Exit → St → Prop) (id : Nat) (l : List Oper) (k : List It) (s : St) (m : Nat) (b c d : Bool) : Prop :=
  match d with
  | true => VdT P (.code (.region id l.toArray true) :: k) .normal s K
  | false => regK Γ f l k s m b c
def regD (P : Program) (Γ : Ty) (stops : List Nat) (K : Exit → St → Prop) (f : List It → Exit → St → Prop) (id : Nat) (l : List Oper) (k : List It) (s : St) (m : Nat) (draw : Bool) : Prop :=
  match draw with
  | false => f (.ops l l :: k) .normal s
  | true => regS P Γ K f id l k s m (m == l.length) (plainL stops (l.drop m)) (memN (id + 1000) stops)
/-- The run, the state last. -/
def go (P : Program) (Γ : Ty) (stops : List Nat) (K : Exit → St → Prop) : Nat → List It → Exit → St → Prop
  | 0, k, e, s => VdT P k e s K
  | n + 1, k, e, s => match k with
    | [] => K e s
    | .code c :: k => match e with
      | .normal => match c with
        | .skip => go P Γ stops K n k .normal s
        | .seq a b => go P Γ stops K n (.code a :: .code b :: k) .normal s
        | .block id b => go P Γ stops K n (.code b :: .blk id :: k) .normal s
        | .ret => go P Γ stops K n k .ret s
        | .exit id => go P Γ stops K n k (.exit id) s
        | .cond x a b => cndK s x (go P Γ stops K n (.code a :: k) .normal) (go P Γ stops K n (.code b :: k) .normal)
        | .region id ops draw => regD P Γ stops K (go P Γ stops K n) id ops.toList k s (calmN stops ops.toList) draw
        | c => VdT P (.code c :: k) .normal s K
      | e => go P Γ stops K n k e s
    | .ops all r :: k => match e with
      | .normal => match r with
        | [] => go P Γ stops K n k .normal s
        | o :: r => match rawOp o.op || stopAt stops o with
          | true => dstOk s o.dst ∧ gdK all s o.guard (rawC P all o.dst o.op o.type o.pos o.after r k K) (skC o.dst (go P Γ stops K n (.ops all r :: k) .normal))
          | false => dstOk s o.dst ∧ gdK all s o.guard (stC Γ o.op o.dst (go P Γ stops K n (.ops all r :: k) .normal)) (skC o.dst (go P Γ stops K n (.ops all r :: k) .normal))
      | e => go P Γ stops K n k e s
    | .blk id :: k => match e with
      | .exit j => if j = id then go P Γ stops K n k .normal s else go P Γ stops K n k (.exit j) s
      | e => go P Γ stops K n k e s
    | .chk S :: k => match e with
      | .normal => (∀ w, SatH s w → S w) ∧ go P Γ stops K n k .normal s
      | e => go P Γ stops K n k e s
    | .reg S all done :: k => match e with
      | .normal => VdT P (.reg S all done :: k) .normal s K
      | e => go P Γ stops K n k e s

section
variable {P : Program} {Γ : Ty} {k : List It} {s : St} {K : Exit → St → Prop}

theorem headK_still (hΓ : Γ.ok P) {all : List Oper} (w : World) {Qf : Act → Prop} : ∀ (n : Nat) (r : List Oper) (s : St) (kk : St → Prop) (a : Act), headK Γ all n r kk s → Sat s a w →
    (∀ s' a', kk s' → Sat s' a' w → Qf a') → wpStill P all.toArray w Qf (r.take n) a
  | 0, r, s, kk, a, h, hs, hQ => by
    simp only [headK] at h
    simp only [List.take_zero]
    exact hQ s a h hs
  | n + 1, [], s, kk, a, h, hs, hQ => by
    simp only [headK] at h
    exact hQ s a h hs
  | n + 1, o :: r, s, kk, a, h, hs, hQ => by
    simp only [headK] at h
    obtain ⟨hd, h⟩ := h
    obtain ⟨s1, hn, hw, h⟩ := gdK_ok h
    have hs1 := hw a w hs
    simp only [List.take_succ_cons, wpStill]
    rcases h with ⟨hwant, h⟩ | ⟨hwant, h⟩
    · rw [if_pos (hwant a w hs)]
      obtain ⟨sv, hk, hkn, hy⟩ := pureK_ok hΓ h
      unfold Oper.still
      rw [hy o a w rfl hs1, Oper.stillUpon_value]
      exact headK_still hΓ w n r _ kk _ hk (hs1.put (dstOk_of hd hn) _ _ (fun _ => rfl)) hQ
    · rw [if_neg (by rw [hwant a w hs]; simp)]
      exact headK_still hΓ w n r _ kk _ h (hs1.put (dstOk_of hd hn) (.lit (.tuple #[])) undef (fun _ => rfl)) hQ

theorem calmN_le (stops : List Nat) : ∀ l : List Oper, calmN stops l ≤ l.length
  | [] => by simp [calmN]
  | o :: r => by
    have := calmN_le stops r
    unfold calmN
    split <;> simp <;> omega

theorem VdT.drawn (hΓ : Γ.ok P) {id : Nat} {l : List Oper} (hB : LexB l) {n : Nat} (hn : l.take n = l) {kk : St → Prop} (hkk : ∀ s1, kk s1 → VdT P k .normal s1 K) (h : headK Γ l n l kk s) : VdT P (.code (.region id l.toArray true) :: k) .normal s K := .mk fun Q a w hs hQ => by
  simp only [kont]
  refine wp_region_still_lit hΓ.mixed hB ?_
  have := headK_still hΓ { w with drawn := w.drawn + 1 } (Qf := fun a' => kont P k Q .normal a' { w with drawn := w.drawn + 1 }) n l s _ a h hs.drew (fun s' a' hv hs' => (hkk s' hv).run Q a' _ hs' hQ)
  rw [hn] at this
  exact this
theorem VdT.drawnTail (hΓ : Γ.ok P) {id : Nat} {l : List Oper} {n : Nat} (hB : LexTailB l n) {kk : St → Prop} (hkk : ∀ s1, kk s1 → VdT P (.ops l (l.drop n) :: k) .normal s1 K) (h : headK Γ l n l kk s) : VdT P (.code (.region id l.toArray true) :: k) .normal s K := .mk fun Q a w hs hQ => by
  simp only [kont]
  refine wp_region_still_tail n hΓ.mixed hB ?_
  exact headK_still hΓ { w with drawn := w.drawn + 1 } n l s _ a h hs.drew (fun s' a' hv hs' => (hkk s' hv).run Q a' _ hs' hQ)

theorem still_const {w : World} {g : Prop} {ops : Array Oper} : ∀ {l : List Oper} {a : Act}, wpStill P ops w (fun _ => g) l a → g
  | [], _, h => h
  | o :: r, a, h => by
    unfold wpStill at h
    split at h
    · unfold Oper.still at h
      revert h
      generalize (execOp a.eval o).run P w = x
      intro h
      cases x with
      | ok n w' =>
        cases n <;> simp only [Oper.stillUpon] at h <;> first | exact h.elim | exact still_const h.2 | skip
        all_goals first
          | (obtain ⟨_, _, _, h⟩ := h; exact still_const h)
      | halt x w' => simp only [Oper.stillUpon] at h
    · exact still_const h
theorem put_res (s : St) (d : Option Tmp) (v : SV) : (s.put d v).fp = s.fp ∧ (s.put d v).res = s.res ∧ (s.put d v).hp = s.hp := by cases d <;> exact ⟨rfl, rfl, rfl⟩
theorem tail_held (hΓ : Γ.ok P) {all : List Oper} {hp : List (Nat × SO)} {F : Nat → Prop} {p : World → Prop} {S : World → Prop} {Q : Exit → Act → World → Prop} {kk : St → Prop}
    (hS : ∀ (s : St) (a : Act) (w : World), Sat s a w → keepH s.hp hp → s.fp = F → s.res = p → S w) :
    ∀ (r : List Oper) (i : Nat) (listed : Array Bool) (s : St) (a : Act) (w : World), (∀ j, r[j]? = all.toArray[i + j]?) → Region.seqB .any all.toArray r.length i listed = true → tailK Γ all hp F p r kk s → Sat s a w → S w →
      (∀ s' a' w', kk s' → Sat s' a' w' → Q .normal a' w') → wpAnyH P .any all.toArray Q S r.length listed a w
  | [], i, listed, s, a, w, hl, hB, h, hs, hw, hQ => ⟨by simpa [Region.seqB] using hB, hQ s a w h hs⟩
  | o :: r, i, listed, s, a, w, hl, hB, h, hs, hw, hQ => by
    have h0 : all.toArray[i]? = some o := by simpa using (hl 0).symm
    simp only [List.length_cons, Region.seqB, Bool.and_eq_true, decide_eq_true_eq] at hB
    refine ⟨fun h1 => (by rw [hB.1] at h1; cases h1), fun j hj => ?_⟩
    rw [hB.1] at hj
    have hjk : j = i := by simpa using hj
    subst hjk
    simp only [tailK] at h
    obtain ⟨hd, h⟩ := h
    obtain ⟨s1, hn, hsw, h⟩ := gdK_ok h
    have hs1 := hsw a w hs
    have hl' : ∀ k, r[k]? = all.toArray[j + 1 + k]? := fun k => by have := hl (k + 1); simpa [Nat.add_assoc, Nat.add_comm 1 k] using this
    unfold wpOp
    simp only [h0]
    rcases h with ⟨hwant, h⟩ | ⟨hwant, h⟩
    · rw [if_pos (hwant a w hs)]
      obtain ⟨u, w', s', hr, hs', hk1, hk2, hk3, hv⟩ := stpK_ok hΓ (dstOk_of hd hn) h a w hs1
      have hS' := hS s' _ w' hs' hk1 hk2 hk3
      have h2 := tail_held hΓ hS r (j + 1) (listed.setIfInBounds j true) s' _ w' hl' hB.2 hv hs' hS' hQ
      left
      unfold Oper.wp
      rcases hr with hr | ⟨hr, rfl⟩
      · rw [hr]; exact ⟨hS', h2⟩
      · rw [hr]; exact ⟨hS', h2⟩
    · rw [if_neg (by rw [hwant a w hs]; simp)]
      exact ⟨hw, tail_held hΓ hS r (j + 1) (listed.setIfInBounds j true) _ _ w hl' hB.2 h (hs1.put (dstOk_of hd hn) (.lit (.tuple #[])) undef (fun _ => rfl)) hw hQ⟩
theorem head_held (hΓ : Γ.ok P) {all : List Oper} {g : Nat} {S : World → Prop} {Q : Exit → Act → World → Prop} {kk : St → Prop} (hsel : Region.noSelect all.toArray = true) (hpan : ∀ c a w, ¬ Q (.panic c) a w) :
    ∀ (n : Nat) (r : List Oper) (i : Nat) (listed : Array Bool) (s : St) (a : Act) (w : World), n ≤ r.length → (∀ j, r[j]? = all.toArray[i + j]?) → Region.lexHead .any all.toArray g n i listed = true → headK Γ all n r kk s →
      (∀ w, S w → Sat s a w) → S w →
      (∀ s' a' listed', kk s' → (∀ w, S w → Sat s' a' w) → Region.seqB .any all.toArray g (i + n) listed' = true → wpAnyH P .any all.toArray Q S g listed' a' w) → wpAnyH P .any all.toArray Q S (n + g) listed a w
  | 0, r, i, listed, s, a, w, hle, hl, hB, h, hs, hw, hQ => by
    simp only [headK] at h
    rw [Nat.zero_add]
    exact hQ s a listed h hs (by simpa [Region.lexHead] using hB)
  | n + 1, [], i, listed, s, a, w, hle, hl, hB, h, hs, hw, hQ => by simp at hle
  | n + 1, o :: r, i, listed, s, a, w, hle, hl, hB, h, hs, hw, hQ => by
    have h0 : all.toArray[i]? = some o := by simpa using (hl 0).symm
    simp only [Region.lexHead, Bool.and_eq_true] at hB
    obtain ⟨⟨hr, hf⟩, hB'⟩ := hB
    simp only [headK] at h
    obtain ⟨hd, h⟩ := h
    obtain ⟨s1, hn, hsw, h⟩ := gdK_ok h
    have hl' : ∀ k, r[k]? = all.toArray[i + 1 + k]? := fun k => by have := hl (k + 1); simpa [Nat.add_assoc, Nat.add_comm 1 k] using this
    have hQ' : ∀ s' a' listed', kk s' → (∀ w, S w → Sat s' a' w) → Region.seqB .any all.toArray g (i + 1 + n) listed' = true → wpAnyH P .any all.toArray Q S g listed' a' w := fun s' a' listed' h1 h2 h3 => hQ s' a' listed' h1 h2 (by rw [show i + (n + 1) = i + 1 + n by omega]; exact h3)
    rw [show n + 1 + g = (n + g) + 1 by omega]
    rcases h with ⟨hwant, h⟩ | ⟨hwant, h⟩
    · obtain ⟨sv, hk, hkn, hy⟩ := pureK_ok hΓ h
      refine wpAnyH_take h0 hsel hf hr (fun c a w hh => absurd hh (hpan _ _ _)) (v := sv.den) (.inl ⟨hwant a w (hs w hw), fun w' hw' => hy o a w' rfl (hsw a w' (hs w' hw'))⟩) hw ?_
      exact head_held hΓ hsel hpan n r (i + 1) _ _ _ w (by simpa using hle) hl' hB' hk (fun w' hw' => (hsw a w' (hs w' hw')).put (dstOk_of hd hn) _ _ (fun _ => rfl)) hw hQ'
    · refine wpAnyH_take h0 hsel hf hr (fun c a w hh => absurd hh (hpan _ _ _)) (v := undef) (.inr ⟨hwant a w (hs w hw), rfl⟩) hw ?_
      exact head_held hΓ hsel hpan n r (i + 1) _ _ _ w (by simpa using hle) hl' hB' h (fun w' hw' => (hsw a w' (hs w' hw')).put (dstOk_of hd hn) (.lit (.tuple #[])) undef (fun _ => rfl)) hw hQ'
theorem VdT.held (hΓ : Γ.ok P) {id : Nat} {l : List Oper} {n : Nat} (hn : n ≤ l.length) (hB : LexHeldB l n) {kk : St → Prop} (hkk : ∀ s1, kk s1 → VdT P k .normal s1 K) (h : heldK Γ l n kk s) : VdT P (.code (.region id l.toArray true) :: k) .normal s K := .mk fun Q a w hs hQ => by
  simp only [kont]
  have hs0 : Sat s a { w with drawn := w.drawn + 1 } := hs.drew
  obtain ⟨hsel, hlex⟩ : Region.noSelect l.toArray = true ∧ Region.lexHead .any l.toArray (l.drop n).length n 0 (Array.replicate l.length false) = true := by
    have := hB
    unfold LexHeldB at this
    simpa only [Bool.and_eq_true] using this
  have h1 : ∃ s1, heldH Γ l n s kk s1 := still_const (headK_still hΓ { w with drawn := w.drawn + 1 } (Qf := fun _ => ∃ s1, heldH Γ l n s kk s1) n l s _ a h hs0 (fun s' a' h' _ => ⟨s', h'⟩))
  obtain ⟨s1, h1⟩ := h1
  unfold heldH at h1
  generalize blurH s.hp (tgtS s1 (l.drop n)) = hp' at h1
  obtain ⟨hkh, h1⟩ := h1
  have hS : ∀ (s2 : St) (a2 : Act) (w2 : World), Sat s2 a2 w2 → keepH s2.hp hp' → s2.fp = s.fp → s2.res = s.res → SatH { s with hp := hp' } w2 := fun s2 a2 w2 h2 hk hf hr =>
    h2.H.cutD (s' := { s with hp := hp' }) hk (fun j hj => by rw [hf]; exact hj) (by show Dep s.fp s.res; rw [← hf, ← hr]; exact h2.H.dep) (by show s.res w2; rw [← hr]; exact h2.H.rs)
  refine Code.wp_mono (Q := fun e a w => e = .normal ∧ kont P k Q .normal a w) (fun e a w h => by obtain ⟨rfl, h⟩ := h; exact h) (wp_region_held (S := SatH { s with hp := hp' }) hΓ.mixed ?_)
  have hsz : l.toArray.size = n + (l.drop n).length := by simp; omega
  rw [hsz]
  refine head_held hΓ hsel (fun c a w h => by cases h.1) n l 0 _ { s with hp := hp' } a _ hn (fun j => by simp) (by rw [← hsz]; simpa using hlex) h1 (fun w2 h2 => ⟨hs.sz, hs.fr, hs.df, h2⟩) (hS s a _ hs0 hkh rfl rfl) ?_
  rintro s' a' listed' ⟨hf, hr, h2⟩ hs' hB'
  have hs2 := hs' _ (hS s a _ hs0 hkh rfl rfl)
  refine tail_held hΓ hS (l.drop n) n listed' _ a' _ (fun j => by simp) (by simpa using hB') h2 ⟨hs2.sz, hs2.fr, hs2.df, ?_⟩ (hS s a _ hs0 hkh rfl rfl) (fun s3 a3 w3 h3 hs3 => ⟨rfl, (hkk s3 h3).run Q a3 w3 hs3 hQ⟩)
  exact hs0.H.cutD (s' := { s' with hp := s.hp }) (keepH_refl _) (fun j hj => by rw [← hf]; exact hj) (by show Dep s'.fp s'.res; rw [hf, hr]; exact hs0.H.dep) (by show s'.res _; rw [hr]; exact hs0.H.rs)

theorem VdT.cnd {x : Operand} {a b : Code} {k1 k0 : St → Prop} (h : cndK s x k1 k0) (h1 : ∀ s1, k1 s1 → VdT P (.code a :: k) .normal s1 K) (h0 : ∀ s1, k0 s1 → VdT P (.code b :: k) .normal s1 K) : VdT P (.code (.cond x a b) :: k) .normal s K := by
  have hput : ∀ (v : Bool), (evO s x).known = true → (evO s x).den = .bool v → ∀ ac w, Sat s ac w → Sat (setB s x v) ac w := by
    intro v hk hv ac w hs
    cases x with
    | tmp d =>
      refine ⟨hs.sz, fun t ht => ?_, hs.df, (St.put_H s (some d) _ w).2 hs.H⟩
      simp only [setB, St.put, getT] at ht ⊢
      by_cases e : d = t
      · subst e
        simp only [if_true]
        have := hs.fr d hk
        rw [this]
        exact hv
      · simp only [if_neg e] at ht ⊢
        exact hs.fr t ht
    | const v => exact hs
    | global v => exact hs
    | func v => exact hs
  unfold cndK at h
  split at h
  · rename_i v hv
    cases v with
    | true => exact VdT.code_cond (b := true) ⟨by rw [hv]; rfl, by rw [hv]; rfl⟩ (h1 _ h)
    | false => exact VdT.code_cond (b := false) ⟨by rw [hv]; rfl, by rw [hv]; rfl⟩ (h0 _ h)
  · rename_i v hv
    cases v with
    | true => exact VdT.code_cond (b := true) ⟨by rw [hv]; rfl, by rw [hv]; rfl⟩ (VdT.wk (hput true (by rw [hv]; rfl) (by rw [hv]; rfl)) (h1 _ (h.1 rfl)))
    | false => exact VdT.code_cond (b := false) ⟨by rw [hv]; rfl, by rw [hv]; rfl⟩ (VdT.wk (hput false (by rw [hv]; rfl) (by rw [hv]; rfl)) (h0 _ (h.2 rfl)))
  · exact h.elim

theorem run_ok (hΓ : Γ.ok P) {stops : List Nat} : ∀ (n : Nat) (k : List It) (e : Exit) (s : St), go P Γ stops K n k e s → VdT P k e s K
  | 0, k, e, s, h => h
  | n + 1, [], e, s, h => VdT.nil h
  | n + 1, .code c :: k, e, s, h => by
    cases e with
    | normal =>
      cases c with
      | skip => exact VdT.code_skip (run_ok hΓ n _ _ _ h)
      | seq a b => exact VdT.code_seq (run_ok hΓ n _ _ _ h)
      | block id b => exact VdT.code_block (run_ok hΓ n _ _ _ h)
      | ret => exact VdT.code_ret (run_ok hΓ n _ _ _ h)
      | exit id => exact VdT.code_exit (run_ok hΓ n _ _ _ h)
      | cond x a b =>
        simp only [go] at h
        exact VdT.cnd h (fun s1 h1 => run_ok hΓ n _ _ _ h1) (fun s1 h1 => run_ok hΓ n _ _ _ h1)
      | region id ops draw =>
        have hops : ops = ops.toList.toArray := by simp
        simp only [go] at h
        rw [hops]
        cases draw with
        | false => exact VdT.code_region (run_ok hΓ n _ _ _ h)
        | true =>
          simp only [regD] at h
          cases hm : memN (id + 1000) stops with
          | true =>
            rw [hm] at h
            exact h
          | false =>
          rw [hm] at h
          simp only [regS] at h
          have hle := calmN_le stops ops.toList
          cases hb : (calmN stops ops.toList == ops.toList.length) with
          | true =>
            rw [hb] at h
            exact VdT.drawn hΓ h.1 (List.take_of_length_le (by have := beq_iff_eq.1 hb; omega)) (fun s1 h1 => run_ok hΓ n _ _ _ h1) h.2
          | false =>
            rw [hb] at h
            cases hc : plainL stops (ops.toList.drop (calmN stops ops.toList)) with
            | true =>
              rw [hc] at h
              exact VdT.held hΓ hle h.1 (fun s1 h1 => run_ok hΓ n _ _ _ h1) h.2
            | false =>
              rw [hc] at h
              exact VdT.drawnTail hΓ h.1 (fun s1 h1 => run_ok hΓ n _ _ _ h1) h.2
      | loop b => exact h
      | rangeFunc a b c d => exact h
      | scope b => exact h
      | label l => exact h
      | goto l => exact h
      | refuse w => exact h
    | exit j => exact VdT.pass_code (by simp) (run_ok hΓ n _ _ _ h)
    | goto j => exact VdT.pass_code (by simp) (run_ok hΓ n _ _ _ h)
    | ret => exact VdT.pass_code (by simp) (run_ok hΓ n _ _ _ h)
    | panic c => exact VdT.pass_code (by simp) (run_ok hΓ n _ _ _ h)
    | outgrown => exact VdT.pass_code (by simp) (run_ok hΓ n _ _ _ h)
  | n + 1, .ops all r :: k, e, s, h => by
    cases e with
    | normal =>
      cases r with
      | nil => exact VdT.ops_nil (run_ok hΓ n _ _ _ h)
      | cons o r =>
        simp only [go] at h
        split at h
        · obtain ⟨hd, h⟩ := h
          obtain ⟨s1, hn, hw, h⟩ := gdK_ok h
          refine .mk fun Q a w hs hQ => ?_
          have hs1 := hw a w hs
          simp only [kont]
          unfold wpList
          rcases h with ⟨hwant, h⟩ | ⟨hwant, h⟩
          · have h2 := h.run Q a w hs1 hQ
            simp only [kont] at h2
            unfold wpList at h2
            rw [if_pos (by simp [Region.wanted])] at h2
            rw [if_pos (hwant a w hs)]
            exact h2
          · have h2 := (run_ok hΓ n _ _ _ h).run Q _ w (hs1.put (dstOk_of hd hn) (.lit (.tuple #[])) undef (fun _ => rfl)) hQ
            simp only [kont] at h2
            rw [if_neg (by rw [hwant a w hs]; simp)]
            exact h2
        · obtain ⟨hd, h⟩ := h
          obtain ⟨s1, hn, hw, h⟩ := gdK_ok h
          refine .mk fun Q a w hs hQ => ?_
          have hs1 := hw a w hs
          simp only [kont]
          unfold wpList
          rcases h with ⟨hwant, h⟩ | ⟨hwant, h⟩
          · obtain ⟨u, w', s', hr, hs', hv⟩ := stpK_ok hΓ (dstOk_of hd hn) h a w hs1
            have h2 := (run_ok hΓ n _ _ _ hv).run Q _ w' hs' hQ
            simp only [kont] at h2
            rw [if_pos (hwant a w hs)]
            left
            unfold Oper.wp
            rcases hr with hr | ⟨hr, rfl⟩
            · rw [hr]; exact h2
            · rw [hr]; exact h2
          · have h2 := (run_ok hΓ n _ _ _ h).run Q _ w (hs1.put (dstOk_of hd hn) (.lit (.tuple #[])) undef (fun _ => rfl)) hQ
            simp only [kont] at h2
            rw [if_neg (by rw [hwant a w hs]; simp)]
            exact h2
    | exit j => exact VdT.pass_ops (by simp) (run_ok hΓ n _ _ _ h)
    | goto j => exact VdT.pass_ops (by simp) (run_ok hΓ n _ _ _ h)
    | ret => exact VdT.pass_ops (by simp) (run_ok hΓ n _ _ _ h)
    | panic c => exact VdT.pass_ops (by simp) (run_ok hΓ n _ _ _ h)
    | outgrown => exact VdT.pass_ops (by simp) (run_ok hΓ n _ _ _ h)
  | n + 1, .chk S :: k, e, s, h => by
    cases e with
    | normal => exact VdT.chk h.1 (run_ok hΓ n _ _ _ h.2)
    | exit j => exact VdT.pass_chk (by simp) (run_ok hΓ n _ _ _ h)
    | goto j => exact VdT.pass_chk (by simp) (run_ok hΓ n _ _ _ h)
    | ret => exact VdT.pass_chk (by simp) (run_ok hΓ n _ _ _ h)
    | panic c => exact VdT.pass_chk (by simp) (run_ok hΓ n _ _ _ h)
    | outgrown => exact VdT.pass_chk (by simp) (run_ok hΓ n _ _ _ h)
  | n + 1, .reg S all done :: k, e, s, h => by
    cases e with
    | normal => exact h
    | exit j => exact VdT.pass_reg (by simp) (run_ok hΓ n _ _ _ h)
    | goto j => exact VdT.pass_reg (by simp) (run_ok hΓ n _ _ _ h)
    | ret => exact VdT.pass_reg (by simp) (run_ok hΓ n _ _ _ h)
    | panic c => exact VdT.pass_reg (by simp) (run_ok hΓ n _ _ _ h)
    | outgrown => exact VdT.pass_reg (by simp) (run_ok hΓ n _ _ _ h)
  | n + 1, .blk id :: k, e, s, h => by
    cases e with
    | exit j =>
      simp only [go] at h
      split at h
      · rename_i e
        subst e
        exact VdT.blk_hit (run_ok hΓ n _ _ _ h)
      · rename_i e
        exact VdT.blk_miss e (run_ok hΓ n _ _ _ h)
    | normal => exact VdT.pass_blk (by simp) (run_ok hΓ n _ _ _ h)
    | goto j => exact VdT.pass_blk (by simp) (run_ok hΓ n _ _ _ h)
    | ret => exact VdT.pass_blk (by simp) (run_ok hΓ n _ _ _ h)
    | panic c => exact VdT.pass_blk (by simp) (run_ok hΓ n _ _ _ h)
    | outgrown => exact VdT.pass_blk (by simp) (run_ok hΓ n _ _ _ h)
end
end Go.Proofs.RX
