/- Equations for the run, to be used as rules. -/
import Derived.Test.YtoplidleecbdeaaRXi
set_option linter.unusedVariables false
set_option linter.unusedSimpArgs false
namespace Go.Proofs.RX
open Go Go.RowKit

section
variable {P : Program} {Γ : Ty} {S : List Nat} {n : Nat} {k : List It} {s : St} {K : Exit → St → Prop}
theorem r_nil {e : Exit} : go P Γ S K (n + 1) [] e s = K e s := Eq.trans rfl rfl
theorem r_skip : go P Γ S K (n + 1) (.code .skip :: k) .normal s = go P Γ S K n k .normal s := Eq.trans rfl rfl
theorem r_seq {a b : Code} : go P Γ S K (n + 1) (.code (.seq a b) :: k) .normal s = go P Γ S K n (.code a :: .code b :: k) .normal s := Eq.trans rfl rfl
theorem r_block {id : Nat} {b : Code} : go P Γ S K (n + 1) (.code (.block id b) :: k) .normal s = go P Γ S K n (.code b :: .blk id :: k) .normal s := Eq.trans rfl rfl
theorem r_ret : go P Γ S K (n + 1) (.code .ret :: k) .normal s = go P Γ S K n k .ret s := Eq.trans rfl rfl
theorem r_exit {id : Nat} : go P Γ S K (n + 1) (.code (.exit id) :: k) .normal s = go P Γ S K n k (.exit id) s := Eq.trans rfl rfl
theorem r_cond {x : Operand} {a b : Code} : go P Γ S K (n + 1) (.code (.cond x a b) :: k) .normal s = cndK s x (go P Γ S K n (.code a :: k) .normal) (go P Γ S K n (.code b :: k) .normal) := Eq.trans rfl rfl
theorem r_reg {id : Nat} {l : List Oper} : go P Γ S K (n + 1) (.code (.region id l.toArray false) :: k) .normal s = go P Γ S K n (.ops l l :: k) .normal s := Eq.trans rfl rfl
theorem r_regd {id : Nat} {l : List Oper} : go P Γ S K (n + 1) (.code (.region id l.toArray true) :: k) .normal s = regS P Γ K (go P Γ S K n) id l k s (calmN S l) (calmN S l == l.length) (plainL S (l.drop (calmN S l))) (memN (id + 1000) S) := by simp only [go, regD]
theorem d_stop {f : List It → Exit → St → Prop} {id : Nat} {l : List Oper} {m : Nat} {b c : Bool} : regS P Γ K f id l k s m b c true = VdT P (.code (.region id l.toArray true) :: k) .normal s K := Eq.trans rfl rfl
theorem d_run {f : List It → Exit → St → Prop} {id : Nat} {l : List Oper} {m : Nat} {b c : Bool} : regS P Γ K f id l k s m b c false = regK Γ f l k s m b c := Eq.trans rfl rfl
theorem r_rg {C : World → Prop} {all : List Oper} {done : List Nat} : go P Γ S K (n + 1) (.reg C all done :: k) .normal s = VdT P (.reg C all done :: k) .normal s K := Eq.trans rfl rfl
theorem r_chk {C : World → Prop} : go P Γ S K (n + 1) (.chk C :: k) .normal s = ((∀ w, SatH s w → C w) ∧ go P Γ S K n k .normal s) := Eq.trans rfl rfl
theorem d_true {f : List It → Exit → St → Prop} {l : List Oper} {m : Nat} {c : Bool} : regK Γ f l k s m true c = (LexB l ∧ headK Γ l m l (f k .normal) s) := Eq.trans rfl rfl
theorem d_false {f : List It → Exit → St → Prop} {l : List Oper} {m : Nat} : regK Γ f l k s m false false = (LexTailB l m ∧ headK Γ l m l (f (.ops l (l.drop m) :: k) .normal) s) := Eq.trans rfl rfl
theorem d_held {f : List It → Exit → St → Prop} {l : List Oper} {m : Nat} : regK Γ f l k s m false true = (LexHeldB l m ∧ heldK Γ l m (f k .normal) s) := Eq.trans rfl rfl
theorem r_loop {b : Code} : go P Γ S K (n + 1) (.code (.loop b) :: k) .normal s = VdT P (.code (.loop b) :: k) .normal s K := Eq.trans rfl rfl
theorem r_code_ret {c : Code} : go P Γ S K (n + 1) (.code c :: k) .ret s = go P Γ S K n k .ret s := Eq.trans rfl rfl
theorem r_code_exit {c : Code} {j : Nat} : go P Γ S K (n + 1) (.code c :: k) (.exit j) s = go P Γ S K n k (.exit j) s := Eq.trans rfl rfl
theorem r_ops_nil {all : List Oper} : go P Γ S K (n + 1) (.ops all [] :: k) .normal s = go P Γ S K n k .normal s := Eq.trans rfl rfl
def opK (P : Program) (Γ : Ty) (S : List Nat) (K : Exit → St → Prop) (n : Nat) (all : List Oper) (o : Oper) (r : List Oper) (k : List It) (s : St) (b : Bool) : Prop :=
  match b with
  | true => dstOk s o.dst ∧ gdK all s o.guard (rawC P all o.dst o.op o.type o.pos o.after r k K) (skC o.dst (go P Γ S K n (.ops all r :: k) .normal))
  | false => dstOk s o.dst ∧ gdK all s o.guard (stC Γ o.op o.dst (go P Γ S K n (.ops all r :: k) .normal)) (skC o.dst (go P Γ S K n (.ops all r :: k) .normal))
theorem r_ops {all r : List Oper} {o : Oper} : go P Γ S K (n + 1) (.ops all (o :: r) :: k) .normal s = opK P Γ S K n all o r k s (rawOp o.op || stopAt S o) := by
  simp only [go, opK]
  cases rawOp o.op || stopAt S o <;> rfl
theorem o_true {all r : List Oper} {d : Option Tmp} {op : Op} {t : TypeId} {pos : String} {af : Array Edge} {g : Option (Nat × Bool)} : opK P Γ S K n all ⟨d, op, t, pos, af, g⟩ r k s true = (dstOk s d ∧ gdK all s g (rawC P all d op t pos af r k K) (skC d (go P Γ S K n (.ops all r :: k) .normal))) := Eq.trans rfl rfl
theorem o_false {all r : List Oper} {d : Option Tmp} {op : Op} {t : TypeId} {pos : String} {af : Array Edge} {g : Option (Nat × Bool)} : opK P Γ S K n all ⟨d, op, t, pos, af, g⟩ r k s false = (dstOk s d ∧ gdK all s g (stC Γ op d (go P Γ S K n (.ops all r :: k) .normal)) (skC d (go P Γ S K n (.ops all r :: k) .normal))) := Eq.trans rfl rfl
theorem r_ops_ret {all r : List Oper} : go P Γ S K (n + 1) (.ops all r :: k) .ret s = go P Γ S K n k .ret s := Eq.trans rfl rfl
theorem r_ops_exit {all r : List Oper} {j : Nat} : go P Γ S K (n + 1) (.ops all r :: k) (.exit j) s = go P Γ S K n k (.exit j) s := Eq.trans rfl rfl
theorem r_blk_normal {id : Nat} : go P Γ S K (n + 1) (.blk id :: k) .normal s = go P Γ S K n k .normal s := Eq.trans rfl rfl
theorem r_blk_ret {id : Nat} : go P Γ S K (n + 1) (.blk id :: k) .ret s = go P Γ S K n k .ret s := Eq.trans rfl rfl
theorem r_blk_hit {id : Nat} : go P Γ S K (n + 1) (.blk id :: k) (.exit id) s = go P Γ S K n k .normal s := by simp [go]
theorem r_blk_miss {id j : Nat} (h : (j = id) = False) : go P Γ S K (n + 1) (.blk id :: k) (.exit j) s = go P Γ S K n k (.exit j) s := by
  have h' : ¬ j = id := by simp [h]
  simp only [go]
  rw [if_neg h']
theorem h_zero {all r : List Oper} {kk : St → Prop} : headK Γ all 0 r kk s = kk s := by simp only [headK]
theorem h_cons {all r : List Oper} {kk : St → Prop} {d : Option Tmp} {op : Op} {t : TypeId} {pos : String} {af : Array Edge} {g : Option (Nat × Bool)} : headK Γ all (n + 1) (⟨d, op, t, pos, af, g⟩ :: r) kk s = (dstOk s d ∧ gdK all s g (pureC Γ op d (headK Γ all n r kk)) (skC d (headK Γ all n r kk))) := Eq.trans rfl rfl
end
end Go.Proofs.RX
