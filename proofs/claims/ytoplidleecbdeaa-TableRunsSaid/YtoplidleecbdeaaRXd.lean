/- What is computed: verification conditions; that they are enough. -/
import Derived.Test.YtoplidleecbdeaaRXc
import Derived.Maps.Keyed
set_option linter.unusedVariables false
set_option linter.unusedSimpArgs false
namespace Go.Proofs.RX
open Go Go.RowKit Go.Maps Go.ChangeMaps

def bt (s : ByteArray) (i : Int) : Int := if h : i.toNat < s.size then ((s[i.toNat]'h).toNat : Int) else 0

def kn (v : SV) (kk : SV → Prop) : Prop := v.known = true ∧ kk v
def boolK (v : SV) (kk : Bool → Prop) : Prop :=
  match v with
  | .lit (.bool b) => kk b
  | .bs b => kk b
  | _ => False
/-- Parting on a truth. -/
def selB (b : Bool) (x y : SV) : SV :=
  match b with
  | true => x
  | false => y
def pickK (v x y : SV) (kk : SV → Prop) : Prop :=
  match v with
  | .lit (.bool b) => kn (selB b x y) kk
  | .bs b => (b = true → kn x kk) ∧ (b = false → kn y kk)
  | _ => False
theorem pickK_ok {v x y : SV} {kk : SV → Prop} (h : pickK v x y kk) : v.known = true ∧ ∃ b : Bool, v.den = .bool b ∧ kn (if b then x else y) kk := by
  unfold pickK at h
  split at h
  · rename_i b
    refine ⟨rfl, b, rfl, ?_⟩
    cases b <;> exact h
  · rename_i b
    refine ⟨rfl, b, rfl, ?_⟩
    cases b
    · exact h.2 rfl
    · exact h.1 rfl
  · exact h.elim
def loadK (Γ : Ty) (s : St) (t : TypeId) (x : Operand) (kk : SV → Prop) : Prop :=
  match findT Γ.ts t with
  | none => False
  | some ti => match evO s x with
    | .ptr i b o => match getH s.hp i with
      | some (b', .cells cs t') => b' = b ∧ (match ti.kd with
        | .row => o + ti.size ≤ cs.length ∧ kk (.agg (takeL cs o ti.size))
        | _ => match getL cs o with
          | some v => kn v kk
          | none => False)
      | _ => False
    | .lit (.pointer (some ad)) => (match ti.kd with
        | .row => ∃ vs : List Value, vs.length = ti.size ∧ (∀ w, s.res w → ∀ j v, vs[j]? = some v → w.cell? (ad.add j) = some v) ∧ kk (.lit (.agg vs.toArray))
        | _ => ∃ v : Value, (∀ w, s.res w → w.cell? ad = some v) ∧ kk (.lit v))
    | .fp b o l k => Far s.res b o l ∧ (match ti.kd with
        | .row => k + ti.size ≤ l.length ∧ kk (.agg (takeL l k ti.size))
        | _ => match getL l k with
          | some v => kn v kk
          | none => False)
    | _ => False
def lenK (Γ : Ty) (s : St) (t : TypeId) (x : Operand) (kk : SV → Prop) : Prop :=
  match findT Γ.ts t with
  | none => False
  | some ti => match ti.kd, evO s x with
    | .str, .lit (.string b) => kk (.lit (.int .i64 b.size))
    | .slc _, .lit (.slice _ n _) => kk (.lit (.int .i64 n))
    | .slc _, .sl _ _ _ n _ => kk (.lit (.int .i64 n))
    | .mp _ _, .lit (.map (some m)) => ∃ n : Nat, (∀ w, s.res w → ∃ es c, w.heap[m]? = some (.map es c) ∧ es.size = n) ∧ kk (.lit (.int .i64 n))
    | .mp _ _, .lit (.map none) => kk (.lit (.int .i64 0))
    | .slc _, .vec _ n _ _ => kk (.lit (.int .i64 n))
    | _, _ => False
def idxK (Γ : Ty) (s : St) (t : TypeId) (x y : Operand) (kk : SV → Prop) : Prop :=
  match findT Γ.ts t with
  | none => False
  | some ti => match ti.kd, evO s x, evO s y with
    | .str, .lit (.string b), .lit (.int k i) => (0 ≤ i ∧ i < (b.size : Int)) ∧ kk (.lit (.int .u8 (bt b i)))
    | _, _, _ => fb2 Γ s x y (Instr.index t) kk
/-- A place in a row. -/
def iaK (Γ : Ty) (s : St) (t : TypeId) (x y : Operand) (kk : SV → Prop) : Prop :=
  match findT Γ.ts t with
  | none => False
  | some ti => match ti.kd with
    | .slc e => match findT Γ.ts e with
      | none => False
      | some te => match evO s x, evO s y with
        | .lit (.slice (some ad) n _), .lit (.int _ i) => (0 ≤ i ∧ i < (n : Int)) ∧ kk (.lit (.pointer (some (ad.add (i.toNat * te.size)))))
        | .sl j b o n _, .lit (.int _ i) => (0 ≤ i ∧ i < (n : Int)) ∧ kk (.ptr j b (o + i.toNat * te.size))
        | .vec o n _ f, .lit (.int _ i) => (0 ≤ i ∧ i < (n : Int) ∧ o ≠ none) ∧ kk (.fp (o.getD (0, 0)).1 ((o.getD (0, 0)).2 + i.toNat * te.size) (f i.toNat) 0)
        | _, _ => False
    | _ => False
def cnvK (Γ : Ty) (s : St) (t' t : TypeId) (x : Operand) (kk : SV → Prop) : Prop :=
  match findT Γ.ts t', findT Γ.ts t with
  | none, _ => False
  | _, none => False
  | some _, some ti => match ti.kd, evO s x with
    | .int k, .lit (.int _ a) => kk (.lit (.int k (k.wrap a)))
    | .str, .lit (.string b) => kk (.lit (.string b))
    | _, _ => False
def mkiK (Γ : Ty) (s : St) (t : TypeId) (x : Operand) (kk : SV → Prop) : Prop :=
  match findT Γ.ts t with
  | none => False
  | some ti => match ti.kd with
    | .ifc => False
    | _ => match evO s x with
      | .any => False
      | .lit v => kk (.lit (.iface t v))
      | v => kk (.ifc t v)
def unK (s : St) (op : UnOp) (x : Operand) (kk : SV → Prop) : Prop :=
  match op, evO s x with
  | .not, .bs b => kk (.bs (!b))
  | .not, .lit (.bool b) => kk (.lit (.bool (!b)))
  | .neg, .lit (.int k a) => kk (.lit (.int k (k.wrap (0 - a))))
  | _, _ => False
/-- Bounds of a cut: nothing, or a number. -/
def bndK (s : St) (x : Option Operand) (d : Nat) (kk : Int → Prop) : Prop :=
  match x with
  | none => kk d
  | some y => match evO s y with
    | .lit (.int k i) => kk i
    | _ => False
/-- Where a part of a row begins. -/
def shO (o : Option (Nat × Nat)) (c l sz : Nat) : Option (Nat × Nat) := if c = l then o else o.map fun p => (p.1, p.2 + l * sz)
def cutK (Γ : Ty) (s : St) (t : TypeId) (x : Operand) (lo hi : Option Operand) (kk : SV → Prop) : Prop :=
  match findT Γ.ts t with
  | none => False
  | some ti => match ti.kd, evO s x with
    | .str, .lit (.string b) => bndK s lo 0 fun l => bndK s hi b.size fun h => (0 ≤ l ∧ l ≤ h ∧ h ≤ (b.size : Int)) ∧ kk (.lit (.string (b.extract l.toNat h.toNat)))
    | .slc e, .vec o n c f => (match findT Γ.ts e with
      | none => False
      | some te => bndK s lo 0 fun l => bndK s hi n fun h => (0 ≤ l ∧ l ≤ h ∧ h ≤ (c : Int)) ∧ kk (.vec (shO o c l.toNat te.size) (h - l).toNat (c - l.toNat) (fun k => f (l.toNat + k))))
    | _, _ => False

def blenK (Γ : Ty) (s : St) (args : List Operand) (ts : List TypeId) (kk : SV → Prop) : Prop :=
  match args, ts with
  | [x], [t] => lenK Γ s t x kk
  | _, _ => False
def callK (Γ : Ty) (s : St) (c : Call) (kk : SV → Prop) : Prop :=
  match c.callee with
  | .builtin b => match b with
    | .len => blenK Γ s c.args.toList c.argTypes.toList kk
    | _ => False
  | _ => False
/-- An operation that only reads. -/
def rdK (Γ : Ty) (s : St) (op : Op) (kk : SV → Prop) : Prop :=
  match op with
  | .move x => kn (evO s x) kk
  | .assign x => kn (evO s x) kk
  | .pick c x y => pickK (evO s c) (evO s x) (evO s y) kk
  | .extract x j => match evO s x with
    | .tup l => match getL l j with
      | some v => kn v kk
      | none => False
    | _ => False
  | .nilCheck x => match evO s x with
    | .ptr i b o => kk (.ptr i b o)
    | .lit (.pointer (some ad)) => kk (.lit (.pointer (some ad)))
    | .fp b o l k => kk (.fp b o l k)
    | _ => False
  | .fieldAddr t x f => match findF Γ.fs t f with
    | none => False
    | some (off, sz) => sz ≠ 0 ∧ match evO s x with
      | .ptr i b o => kk (.ptr i b (o + off))
      | .lit (.pointer (some ad)) => kk (.lit (.pointer (some (ad.add off))))
      | .fp b o l k => kk (.fp b o l (k + off))
      | _ => False
  | .load t x => loadK Γ s t x kk
  | .binOp op t x y _ => binK Γ s op t x y kk
  | .unOp op _ x => unK s op x kk
  | .convert t' t x => cnvK Γ s t' t x kk
  | .makeInterface t x => mkiK Γ s t x kk
  | .index t x y => idxK Γ s t x y kk
  | .indexAddr t x y => iaK Γ s t x y kk
  | .lookup t x y ok => fb2 Γ s x y (fun a b => Instr.lookup t a b ok) kk
  | .slice t x lo hi mx => match mx with
    | none => cutK Γ s t x lo hi kk
    | some _ => False
  | .call c => callK Γ s c kk
  | _ => False

section
variable {P : Program} {s : St}
theorem kn_ok {v : SV} {kk : SV → Prop} (h : kn v kk) : kk v ∧ v.known = true := ⟨h.2, h.1⟩
theorem loadK_ok {Γ : Ty} (hΓ : Γ.ok P) {t : TypeId} {x : Operand} {kk : SV → Prop} (h : loadK Γ s t x kk) : ∃ sv, kk sv ∧ sv.known = true ∧ Yld P s (.load t x) sv := by
  unfold loadK at h
  split at h
  · exact h.elim
  · rename_i ti hti
    have hok := findT_ok hΓ.ts hti
    split at h
    · rename_i i b o hx
      split at h
      · rename_i b' cs t' hi
        obtain ⟨rfl, h⟩ := h
        split at h
        · rename_i hrow
          exact ⟨_, h.2, rfl, Yld.load_row hok hrow hx hi h.1⟩
        · rename_i hrow
          split at h
          · rename_i v hv
            exact ⟨_, h.2, h.1, Yld.load_one hok (by cases hk : ti.kd <;> first | rfl | exact absurd hk hrow) hx hi hv⟩
          · exact h.elim
      · exact h.elim
    · rename_i ad hx
      split at h
      · rename_i hrow
        obtain ⟨vs, h1, h2, h3⟩ := h
        exact ⟨_, h3, rfl, Yld.load_far_row hok hrow hx h1 h2⟩
      · rename_i hrow
        obtain ⟨v, h1, h2⟩ := h
        exact ⟨_, h2, rfl, Yld.load_far hok (by cases hk : ti.kd <;> first | rfl | exact absurd hk hrow) hx h1⟩
    · rename_i b o l k hx
      obtain ⟨hf, h⟩ := h
      split at h
      · rename_i hrow
        exact ⟨_, h.2, rfl, Yld.load_fp_row hok hrow hx hf h.1⟩
      · rename_i hrow
        split at h
        · rename_i v hv
          exact ⟨_, h.2, h.1, Yld.load_fp hok (by cases hk : ti.kd <;> first | rfl | exact absurd hk hrow) hx hf hv⟩
        · exact h.elim
    · exact h.elim

theorem lenK_ok {Γ : Ty} (hΓ : Γ.ok P) {t : TypeId} {x : Operand} {kk : SV → Prop} (h : lenK Γ s t x kk) : ∃ sv, kk sv ∧ sv.known = true ∧ Yld P s (.call { callee := .builtin .len, args := #[x], argTypes := #[t] }) sv := by
  unfold lenK at h
  split at h
  · exact h.elim
  · rename_i ti hti
    have hok := findT_ok hΓ.ts hti
    obtain ⟨d, hd, hk⟩ := und_of hok.1
    split at h <;> first | exact h.elim | skip
    case h_4 =>
      rename_i hkd hx
      rw [hkd] at hk
      obtain ⟨n, hm, h⟩ := h
      refine ⟨_, h, rfl, fun o a w ho hs => ?_⟩
      have h1 := ev_ok hs x (by rw [hx]; rfl)
      cases d <;> simp only [kdOf] at hk <;> first | (cases hk; done) | skip
      obtain ⟨es, c, h2, h3⟩ := hm w hs.H.rs
      simp [execOp, ho, resolve, invoke, builtin, Builtin.len_, h1, hx, SV.den, run_underlying hd, goInt, MapKept.run_getObj_map h2, h3]
    all_goals
      rename_i hkd hx
      rw [hkd] at hk
      refine ⟨_, h, rfl, fun o a w ho hs => ?_⟩
      have h1 := ev_ok hs x (by rw [hx]; rfl)
      cases d <;> simp only [kdOf] at hk <;> first | (cases hk; done) | skip
      simp [execOp, ho, resolve, invoke, builtin, Builtin.len_, h1, hx, SV.den, run_underlying hd, goInt]

theorem idxK_ok {Γ : Ty} (hΓ : Γ.ok P) {t : TypeId} {x y : Operand} {kk : SV → Prop} (h : idxK Γ s t x y kk) : ∃ sv, kk sv ∧ sv.known = true ∧ Yld P s (.index t x y) sv := by
  unfold idxK at h
  split at h
  · exact h.elim
  · rename_i ti hti
    have hok := findT_ok hΓ.ts hti
    obtain ⟨d, hd, hk⟩ := und_of hok.1
    split at h
    case h_2 => exact fb2_yld hΓ h fun o ρ v w ho hr => by simp [execOp, ho, hr]
    rename_i b k i hkd hx hy
    rw [hkd] at hk
    obtain ⟨⟨h0, h1⟩, h⟩ := h
    refine ⟨_, h, rfl, fun o a w ho hs => ?_⟩
    have e1 := ev_ok hs x (by rw [hx]; rfl)
    have e2 := ev_ok hs y (by rw [hy]; rfl)
    cases d <;> simp only [kdOf] at hk <;> first | (cases hk; done) | skip
    have hlt : i.toNat < b.size := by omega
    simp [execOp, ho, Instr.index, e1, e2, hx, hy, SV.den, asIntOf, run_underlying hd, h0, bt, hlt]
theorem iaK_ok {Γ : Ty} (hΓ : Γ.ok P) {t : TypeId} {x y : Operand} {kk : SV → Prop} (h : iaK Γ s t x y kk) : ∃ sv, kk sv ∧ sv.known = true ∧ Yld P s (.indexAddr t x y) sv := by
  unfold iaK at h
  split at h
  · exact h.elim
  · rename_i ti hti
    have hok := findT_ok hΓ.ts hti
    obtain ⟨d, hd, hk⟩ := und_of hok.1
    split at h <;> first | exact h.elim | skip
    rename_i e hkd
    rw [hkd] at hk
    split at h
    · exact h.elim
    · rename_i te hte
      have hoke := findT_ok hΓ.ts hte
      have hse : ∀ w, (sizeOf e).run P w = .ok te.size w := fun w => run_sizeOf w hoke
      cases d <;> simp only [kdOf] at hk <;> cases hk
      split at h
      · rename_i ad n c k i hx hy
        obtain ⟨⟨h0, h1⟩, h⟩ := h
        refine ⟨_, h, rfl, fun o a w ho hs => ?_⟩
        have e1 := ev_ok hs x (by rw [hx]; rfl)
        have e2 := ev_ok hs y (by rw [hy]; rfl)
        simp [execOp, ho, Instr.indexAt, e1, e2, hx, hy, SV.den, asIntOf, run_underlying hd, h0, h1, hse w]
      · rename_i j b o' n c k i hx hy
        obtain ⟨⟨h0, h1⟩, h⟩ := h
        refine ⟨_, h, rfl, fun o a w ho hs => ?_⟩
        have e1 := ev_ok hs x (by rw [hx]; rfl)
        have e2 := ev_ok hs y (by rw [hy]; rfl)
        simp [execOp, ho, Instr.indexAt, e1, e2, hx, hy, SV.den, asIntOf, run_underlying hd, h0, h1, hse w, add_none]
      · rename_i o' n c f k i hx hy
        obtain ⟨⟨h0, h1, h2⟩, h⟩ := h
        refine ⟨_, h, rfl, fun o a w ho hs => ?_⟩
        have e1 := ev_ok hs x (by rw [hx]; rfl)
        have e2 := ev_ok hs y (by rw [hy]; rfl)
        rcases o' with _ | ⟨b, o'⟩
        · exact absurd rfl h2
        simp [execOp, ho, Instr.indexAt, e1, e2, hx, hy, SV.den, asIntOf, run_underlying hd, h0, h1, hse w, add_none]
      · exact h.elim

theorem cnvK_ok {Γ : Ty} (hΓ : Γ.ok P) {t t' : TypeId} {x : Operand} {kk : SV → Prop} (h : cnvK Γ s t' t x kk) : ∃ sv, kk sv ∧ sv.known = true ∧ Yld P s (.convert t' t x) sv := by
  unfold cnvK at h
  split at h
  · exact h.elim
  · exact h.elim
  · rename_i ti' ti hti' hti
    have hok := findT_ok hΓ.ts hti
    obtain ⟨d, hd, hk⟩ := und_of hok.1
    obtain ⟨d', hd', _⟩ := und_of (findT_ok hΓ.ts hti').1
    split at h <;> first | exact h.elim | skip
    all_goals
      rename_i hkd hx
      rw [hkd] at hk
      refine ⟨_, h, rfl, fun o a w ho hs => ?_⟩
      have e1 := ev_ok hs x (by rw [hx]; rfl)
      cases d <;> simp only [kdOf] at hk <;> cases hk
      cases d' <;> simp [execOp, ho, convert, e1, hx, SV.den, run_underlying hd, run_underlying hd', Conv.intToInt]

theorem mkiK_ok {Γ : Ty} (hΓ : Γ.ok P) {t : TypeId} {x : Operand} {kk : SV → Prop} (h : mkiK Γ s t x kk) : ∃ sv, kk sv ∧ sv.known = true ∧ Yld P s (.makeInterface t x) sv := by
  unfold mkiK at h
  split at h
  · exact h.elim
  · rename_i ti hti
    have hok := findT_ok hΓ.ts hti
    obtain ⟨d, hd, hk⟩ := und_of hok.1
    split at h
    · exact h.elim
    · rename_i hne
      have hrun : ∀ (v : Value) (w : World), (Instr.makeInterface t v).run P w = .ok (.iface t v) w := by
        intro v w
        cases d <;> simp [Instr.makeInterface, run_underlying hd]
        exact hne hk.symm
      split at h
      · exact h.elim
      · rename_i v hx
        refine ⟨_, h, rfl, fun o a w ho hs => ?_⟩
        have e1 := ev_ok hs x (by rw [hx]; rfl)
        simp [execOp, ho, e1, hx, SV.den, hrun]
      · rename_i v hv hx
        refine ⟨_, h, rfl, fun o a w ho hs => ?_⟩
        have e1 := ev_ok hs x (by cases hxx : evO s x <;> first | rfl | exact absurd hxx hv)
        simp [execOp, ho, e1, SV.den, hrun]

theorem unK_ok {op : UnOp} {t : TypeId} {x : Operand} {kk : SV → Prop} (h : unK s op x kk) : ∃ sv, kk sv ∧ sv.known = true ∧ Yld P s (.unOp op t x) sv := by
  unfold unK at h
  split at h <;> first | exact h.elim | skip
  all_goals
    rename_i hx
    refine ⟨_, h, rfl, fun o a w ho hs => ?_⟩
    have e1 := ev_ok hs x (by rw [hx]; rfl)
    simp [execOp, ho, e1, hx, SV.den, Op.unary, Op.intArith]

theorem bndK_ok {y : Option Operand} {d : Nat} {kk : Int → Prop} (h : bndK s y d kk) : ∃ i, kk i ∧ ((y = none ∧ i = d) ∨ ∃ yo k, y = some yo ∧ evO s yo = .lit (.int k i)) := by
  unfold bndK at h
  split at h
  · exact ⟨_, h, .inl ⟨rfl, rfl⟩⟩
  · rename_i yo
    split at h
    · rename_i k i hy
      exact ⟨i, h, .inr ⟨yo, k, rfl, hy⟩⟩
    · exact h.elim

theorem cutK_ok {Γ : Ty} (hΓ : Γ.ok P) {t : TypeId} {x : Operand} {lo hi : Option Operand} {kk : SV → Prop} (h : cutK Γ s t x lo hi kk) : ∃ sv, kk sv ∧ sv.known = true ∧ Yld P s (.slice t x lo hi none) sv := by
  unfold cutK at h
  split at h
  · exact h.elim
  · rename_i ti hti
    have hok := findT_ok hΓ.ts hti
    obtain ⟨d, hd, hk⟩ := und_of hok.1
    split at h <;> first | exact h.elim | skip
    case h_2 =>
      rename_i e o n c f hkd hx
      rw [hkd] at hk
      split at h
      · exact h.elim
      rename_i te hte
      have hoke := findT_ok hΓ.ts hte
      obtain ⟨l, h, hl⟩ := bndK_ok h
      obtain ⟨u, h, hu⟩ := bndK_ok h
      obtain ⟨⟨b0, b1, b2⟩, h⟩ := h
      refine ⟨_, h, rfl, fun oo a w ho hs => ?_⟩
      have e1 := ev_ok hs x (by rw [hx]; rfl)
      have hse := run_sizeOf (P := P) w hoke
      cases d <;> simp only [kdOf] at hk <;> cases hk
      have hcap : ((u.toNat : Nat) : Int) ≤ c := by omega
      have hb : l ≤ ((u.toNat : Nat) : Int) := by omega
      have hu0 : (0 : Int) ≤ u := by omega
      have hden : ∀ (q : Option (Nat × Nat)) (z : Nat), Option.map (fun a : Addr => a.add z) (Option.map (fun p : Nat × Nat => (⟨p.1, p.2, none⟩ : Addr)) q) = Option.map (fun p : Nat × Nat => (⟨p.1, p.2, none⟩ : Addr)) (Option.map (fun p : Nat × Nat => (p.1, p.2 + z)) q) := by
        intro q z
        cases q <;> simp [add_none]
      have hnu : (u - l).toNat = u.toNat - l.toNat := by omega
      rcases hl with ⟨rfl, rfl⟩ | ⟨lo', k, rfl, hlo⟩ <;> rcases hu with ⟨rfl, rfl⟩ | ⟨hi', k', rfl, hhi⟩
      · have hcn : n ≤ c := by omega
        simp [execOp, ho, e1, hx, SV.den, Instr.sliceAt, Instr.slice, run_underlying hd, Instr.sliceBounds, shO, hse, hcn, hden]
        all_goals (split <;> simp_all)
      · have e3 := ev_ok hs hi' (by rw [hhi]; rfl)
        rw [hhi] at e3
        simp only [SV.den] at e3
        simp [execOp, ho, e1, hx, e3, SV.den, Instr.sliceAt, Instr.slice, run_underlying hd, Instr.sliceBounds, Instr.sliceBound, asIntOf, b2, hu0, shO, hse, hden]
        all_goals (split <;> simp_all)
      · have e2 := ev_ok hs lo' (by rw [hlo]; rfl)
        have hcn : n ≤ c := by omega
        rw [hlo] at e2
        simp only [SV.den] at e2
        simp [execOp, ho, e1, hx, e2, SV.den, Instr.sliceAt, Instr.slice, run_underlying hd, Instr.sliceBounds, Instr.sliceBound, asIntOf, b0, b1, shO, hse, hcn, hden, show ((n : Int) - l).toNat = n - l.toNat by omega]
        all_goals (split <;> simp_all)
      · have e2 := ev_ok hs lo' (by rw [hlo]; rfl)
        have e3 := ev_ok hs hi' (by rw [hhi]; rfl)
        rw [hlo] at e2
        rw [hhi] at e3
        simp only [SV.den] at e2 e3
        simp [execOp, ho, e1, hx, e2, e3, SV.den, Instr.sliceAt, Instr.slice, run_underlying hd, Instr.sliceBounds, Instr.sliceBound, asIntOf, b2, hu0, b0, hb, shO, hse, hden, hnu]
        all_goals (split <;> first | (simp_all; done) | (by_cases hcl : c = l.toNat <;> simp_all))
    rename_i b hkd hx
    rw [hkd] at hk
    obtain ⟨l, h, hl⟩ := bndK_ok h
    obtain ⟨u, h, hu⟩ := bndK_ok h
    obtain ⟨⟨b0, b1, b2⟩, h⟩ := h
    refine ⟨_, h, rfl, fun o a w ho hs => ?_⟩
    have e1 := ev_ok hs x (by rw [hx]; rfl)
    cases d <;> simp only [kdOf] at hk <;> cases hk
    rcases hl with ⟨rfl, rfl⟩ | ⟨lo', k, rfl, hlo⟩ <;> rcases hu with ⟨rfl, rfl⟩ | ⟨hi', k', rfl, hhi⟩
    · simp [execOp, ho, e1, hx, SV.den, Instr.sliceAt, Instr.slice, run_underlying hd, Instr.sliceBounds]
    · have e3 := ev_ok hs hi' (by rw [hhi]; rfl)
      rw [hhi] at e3
      simp only [SV.den] at e3
      simp [execOp, ho, e1, hx, e3, SV.den, Instr.sliceAt, Instr.slice, run_underlying hd, Instr.sliceBounds, Instr.sliceBound, asIntOf, b2, show (0:Int) ≤ u by omega]
    · have e2 := ev_ok hs lo' (by rw [hlo]; rfl)
      rw [hlo] at e2
      simp only [SV.den] at e2
      simp [execOp, ho, e1, hx, e2, SV.den, Instr.sliceAt, Instr.slice, run_underlying hd, Instr.sliceBounds, Instr.sliceBound, asIntOf, b0, b1]
    · have e2 := ev_ok hs lo' (by rw [hlo]; rfl)
      have e3 := ev_ok hs hi' (by rw [hhi]; rfl)
      rw [hlo] at e2
      rw [hhi] at e3
      simp only [SV.den] at e2 e3
      have hb : l ≤ ((u.toNat : Nat) : Int) := by omega
      simp [execOp, ho, e1, hx, e2, e3, SV.den, Instr.sliceAt, Instr.slice, run_underlying hd, Instr.sliceBounds, Instr.sliceBound, asIntOf, b2, show (0:Int) ≤ u by omega, b0, hb]
      intro h9
      exact absurd h9 (by omega)

theorem rdK_ok {Γ : Ty} (hΓ : Γ.ok P) {op : Op} {kk : SV → Prop} (h : rdK Γ s op kk) : ∃ sv, kk sv ∧ sv.known = true ∧ Yld P s op sv := by
  unfold rdK at h
  split at h
  · exact ⟨_, h.2, h.1, Yld.of_ev (.inl rfl) h.1⟩
  · exact ⟨_, h.2, h.1, Yld.of_ev (.inr rfl) h.1⟩
  · rename_i c x y
    obtain ⟨hc, b, h1, h⟩ := pickK_ok h
    have e : evO s (if b then x else y) = if b then evO s x else evO s y := by cases b <;> rfl
    rw [← e] at h
    exact ⟨_, h.2, h.1, Yld.pick (b := b) ⟨hc, h1⟩ h.1⟩
  · rename_i x j
    split at h
    · rename_i l hx
      split at h
      · rename_i v hv
        exact ⟨_, h.2, h.1, Yld.extract hx hv⟩
      · exact h.elim
    · exact h.elim
  · rename_i x
    split at h
    · rename_i i b o hx
      exact ⟨_, h, rfl, by rw [← hx]; exact Yld.nilCheck ⟨⟨b, o, none⟩, by rw [hx]; rfl⟩ (by rw [hx]; rfl)⟩
    · rename_i ad hx
      exact ⟨_, h, rfl, by rw [← hx]; exact Yld.nilCheck ⟨ad, by rw [hx]; rfl⟩ (by rw [hx]; rfl)⟩
    · rename_i b o l k hx
      exact ⟨_, h, rfl, by rw [← hx]; exact Yld.nilCheck ⟨⟨b, o + k, none⟩, by rw [hx]; rfl⟩ (by rw [hx]; rfl)⟩
    · exact h.elim
  · rename_i t x f
    split at h
    · exact h.elim
    · rename_i off sz hf
      obtain ⟨hz, h⟩ := h
      split at h
      · rename_i i b o hx
        exact ⟨_, h, rfl, Yld.fieldAddr hΓ hf hz hx⟩
      · rename_i ad hx
        exact ⟨_, h, rfl, Yld.fieldAddr' hΓ hf hz hx⟩
      · rename_i b o l k hx
        exact ⟨_, h, rfl, Yld.fieldAddrF hΓ hf hz hx⟩
      · exact h.elim
  · exact loadK_ok hΓ h
  · exact binK_ok hΓ h
  · exact unK_ok h
  · exact cnvK_ok hΓ h
  · exact mkiK_ok hΓ h
  · exact idxK_ok hΓ h
  · exact iaK_ok hΓ h
  · exact fb2_yld hΓ h fun o ρ v w ho hr => by simp [execOp, ho, hr]
  · split at h
    · exact cutK_ok hΓ h
    · exact h.elim
  · rename_i c
    unfold callK at h
    split at h
    · rename_i b hc
      split at h
      · unfold blenK at h
        split at h
        · rename_i x t ha ht
          obtain ⟨cal, args, ts⟩ := c
          simp only at hc ha ht
          subst hc
          have ha' : args = #[x] := by rw [← Array.toArray_toList (xs := args), ha]
          have ht' : ts = #[t] := by rw [← Array.toArray_toList (xs := ts), ht]
          subst ha' ht'
          exact lenK_ok hΓ h
        · exact h.elim
      · exact h.elim
    · exact h.elim
  · exact h.elim
end
end Go.Proofs.RX
