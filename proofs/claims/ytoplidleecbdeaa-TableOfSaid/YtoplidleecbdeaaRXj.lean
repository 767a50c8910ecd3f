/- Equations for the run, to be used as rules. -/
import Derived.Test.YtoplidleecbdeaaRXi
set_option linter.unusedVariables false
set_option linter.unusedSimpArgs false
namespace Go.Proofs.RX
open Go Go.RowKit

section
variable {P : Program} {Γ : Ty} {S : List Nat} {n : Nat} {k : List It} {s : St} {K : Exit → St → Prop}
theorem r_nil {e : Exit} : go P Γ S K (n + 1) [] e s = K e s := rfl
theorem r_skip : go P Γ S K (n + 1) (.code .skip :: k) .normal s = go P Γ S K n k .normal s := rfl
theorem r_seq {a b : Code} : go P Γ S K (n + 1) (.code (.seq a b) :: k) .normal s = go P Γ S K n (.code a :: .code b :: k) .normal s := rfl
theorem r_block {id : Nat} {b : Code} : go P Γ S K (n + 1) (.code (.block id b) :: k) .normal s = go P Γ S K n (.code b :: .blk id :: k) .normal s := rfl
theorem r_ret : go P Γ S K (n + 1) (.code .ret :: k) .normal s = go P Γ S K n k .ret s := rfl
theorem r_exit {id : Nat} : go P Γ S K (n + 1) (.code (.exit id) :: k) .normal s = go P Γ S K n k (.exit id) s := rfl
theorem r_cond {x : Operand} {a b : Code} : go P Γ S K (n + 1) (.code (.cond x a b) :: k) .normal s = cndK s x (go P Γ S K n (.code a :: k) .normal) (go P Γ S K n (.code b :: k) .normal) := rfl
theorem r_reg {id : Nat} {l : List Oper} : go P Γ S K (n + 1) (.code (.region id l.toArray false) :: k) .normal s = go P Γ S K n (.ops l l :: k) .normal s := rfl
def regK (P : Program) (Γ : Ty) (S : List Nat) (K : Exit → St → Prop) (n : Nat) (l : List Oper) (k : List It) (s : St) (m : Nat) (b : Bool) : Prop :=
  match b with
  | true => LexB l ∧ headK Γ l m l (go P Γ S K n k .normal) s
  | false => LexTailB l m ∧ headK Γ l m l (go P Γ S K n (.ops l (l.drop m) :: k) .normal) s
theorem r_regd {id : Nat} {l : List Oper} : go P Γ S K (n + 1) (.code (.region id l.toArray true) :: k) .normal s = regK P Γ S K n l k s (calmN S l) (calmN S l == l.length) := by
  simp only [go, regK]
  by_cases h : calmN S l = l.length
  · rw [if_pos h, show (calmN S l == l.length) = true from by simp [h]]
  · rw [if_neg h, show (calmN S l == l.length) = false from by simp [h]]
theorem d_true {l : List Oper} {m : Nat} : regK P Γ S K n l k s m true = (LexB l ∧ headK Γ l m l (go P Γ S K n k .normal) s) := rfl
theorem d_false {l : List Oper} {m : Nat} : regK P Γ S K n l k s m false = (LexTailB l m ∧ headK Γ l m l (go P Γ S K n (.ops l (l.drop m) :: k) .normal) s) := rfl
theorem r_loop {b : Code} : go P Γ S K (n + 1) (.code (.loop b) :: k) .normal s = VdT P (.code (.loop b) :: k) .normal s K := rfl
theorem r_code_ret {c : Code} : go P Γ S K (n + 1) (.code c :: k) .ret s = go P Γ S K n k .ret s := rfl
theorem r_code_exit {c : Code} {j : Nat} : go P Γ S K (n + 1) (.code c :: k) (.exit j) s = go P Γ S K n k (.exit j) s := rfl
theorem r_ops_nil {all : List Oper} : go P Γ S K (n + 1) (.ops all [] :: k) .normal s = go P Γ S K n k .normal s := rfl
def opK (P : Program) (Γ : Ty) (S : List Nat) (K : Exit → St → Prop) (n : Nat) (all : List Oper) (o : Oper) (r : List Oper) (k : List It) (s : St) (b : Bool) : Prop :=
  match b with
  | true => dstOk s o.dst ∧ gdK all s o.guard (rawC P all o.dst o.op o.type o.pos o.after r k K) (skC o.dst (go P Γ S K n (.ops all r :: k) .normal))
  | false => dstOk s o.dst ∧ gdK all s o.guard (stC Γ o.op o.dst (go P Γ S K n (.ops all r :: k) .normal)) (skC o.dst (go P Γ S K n (.ops all r :: k) .normal))
theorem r_ops {all r : List Oper} {o : Oper} : go P Γ S K (n + 1) (.ops all (o :: r) :: k) .normal s = opK P Γ S K n all o r k s (rawOp o.op || stopAt S o) := by
  simp only [go, opK]
  cases rawOp o.op || stopAt S o <;> rfl
theorem o_true {all r : List Oper} {d : Option Tmp} {op : Op} {t : TypeId} {pos : String} {af : Array Edge} {g : Option (Nat × Bool)} : opK P Γ S K n all ⟨d, op, t, pos, af, g⟩ r k s true = (dstOk s d ∧ gdK all s g (rawC P all d op t pos af r k K) (skC d (go P Γ S K n (.ops all r :: k) .normal))) := rfl
theorem o_false {all r : List Oper} {d : Option Tmp} {op : Op} {t : TypeId} {pos : String} {af : Array Edge} {g : Option (Nat × Bool)} : opK P Γ S K n all ⟨d, op, t, pos, af, g⟩ r k s false = (dstOk s d ∧ gdK all s g (stC Γ op d (go P Γ S K n (.ops all r :: k) .normal)) (skC d (go P Γ S K n (.ops all r :: k) .normal))) := rfl
theorem r_ops_ret {all r : List Oper} : go P Γ S K (n + 1) (.ops all r :: k) .ret s = go P Γ S K n k .ret s := rfl
theorem r_ops_exit {all r : List Oper} {j : Nat} : go P Γ S K (n + 1) (.ops all r :: k) (.exit j) s = go P Γ S K n k (.exit j) s := rfl
theorem r_blk_normal {id : Nat} : go P Γ S K (n + 1) (.blk id :: k) .normal s = go P Γ S K n k .normal s := rfl
theorem r_blk_ret {id : Nat} : go P Γ S K (n + 1) (.blk id :: k) .ret s = go P Γ S K n k .ret s := rfl
theorem r_blk_hit {id : Nat} : go P Γ S K (n + 1) (.blk id :: k) (.exit id) s = go P Γ S K n k .normal s := by simp [go]
theorem r_blk_miss {id j : Nat} (h : (j = id) = False) : go P Γ S K (n + 1) (.blk id :: k) (.exit j) s = go P Γ S K n k (.exit j) s := by
  have h' : ¬ j = id := by simp [h]
  simp only [go]
  rw [if_neg h']
theorem h_zero {all r : List Oper} {kk : St → Prop} : headK Γ all 0 r kk s = kk s := by simp only [headK]
theorem h_cons {all r : List Oper} {kk : St → Prop} {d : Option Tmp} {op : Op} {t : TypeId} {pos : String} {af : Array Edge} {g : Option (Nat × Bool)} : headK Γ all (n + 1) (⟨d, op, t, pos, af, g⟩ :: r) kk s = (dstOk s d ∧ gdK all s g (pureC Γ op d (headK Γ all n r kk)) (skC d (headK Γ all n r kk))) := rfl
end
end Go.Proofs.RX
