/- Structs built; the run over what is left to do; it is sound. -/
import Derived.Test.YtoplidleecbdeaaRXe
set_option linter.unusedVariables false
set_option linter.unusedSimpArgs false
namespace Go.Proofs.RX
open Go Go.RowKit

def partsL (s : St) : List (Nat × Operand) → List (Nat × SV)
  | [] => []
  | (i, x) :: r => (i, evO s x) :: partsL s r
def buildK (pl : List (Nat × Nat)) : List SV → List (Nat × SV) → (List SV → Prop) → Prop
  | cells, [], kk => kk cells
  | cells, (f, v) :: r, kk => match nthP pl f with
    | some (off, sz) => v.flat ∧ v.cells.length = sz ∧ off + sz ≤ cells.length ∧ buildK pl (putL cells off v.cells) r kk
    | none => False
def aggC (kk : SV → Prop) (cs : List SV) : Prop := kk (.agg cs)
def buildOpK (Γ : Ty) (s : St) (t : TypeId) (parts : List (Nat × Operand)) (kk : SV → Prop) : Prop :=
  match findT Γ.ts t, findS Γ.fs t with
  | some ti, some pl => buildK pl (litL ti.zero) (partsL s parts) (aggC kk)
  | _, _ => False

theorem fold_put (off : Nat) : ∀ (l : List Value) (k : Nat) (arr : Array Value), off + k + l.length ≤ arr.size →
    (l.zipIdx k).foldl (fun cs p => cs.setIfInBounds (off + p.2) p.1) arr = (arr.toList.take (off + k) ++ l ++ arr.toList.drop (off + k + l.length)).toArray
  | [], k, arr, h => by simp
  | v :: r, k, arr, h => by
    have hk : off + k < arr.size := by simp at h; omega
    have ih := fold_put off r (k + 1) (arr.setIfInBounds (off + k) v) (by simp at h ⊢; omega)
    simp only [List.zipIdx_cons, List.foldl_cons, ih]
    congr 1
    have e := list_seg_step arr.toList (off + k) v r (by simp at h ⊢; omega)
    simpa [Array.toList_setIfInBounds, Nat.add_assoc] using e
theorem putL_length : ∀ (l : List SV) (o : Nat) (vs : List SV), (putL l o vs).length = l.length
  | [], o, vs => by cases vs <;> simp [putL]
  | x :: r, 0, [] => by simp [putL]
  | x :: r, 0, v :: vs => by simp [putL, putL_length r 0 vs]
  | x :: r, o + 1, [] => by simp [putL]
  | x :: r, o + 1, v :: vs => by simp [putL, putL_length r o (v :: vs)]

theorem flat_known {v : SV} (h : v.flat) : v.known = true := by cases v <;> first | rfl | exact h.elim

theorem buildK_ok {pl : List (Nat × Nat)} {kk : List SV → Prop} : ∀ {r : List (Nat × SV)} {cells : List SV}, buildK pl cells r kk →
    (∃ cs, kk cs ∧ Instr.fill (pl.toArray[·]?) (denL cells).toArray (r.map fun p => (p.1, p.2.den)) = some (denL cs).toArray) ∧ ∀ p ∈ r, p.2.known = true
  | [], cells, h => ⟨⟨cells, h, by simp [Instr.fill]⟩, by simp⟩
  | (f, v) :: r, cells, h => by
    unfold buildK at h
    split at h
    · rename_i off sz hf
      obtain ⟨h1, h2, h3, h4⟩ := h
      obtain ⟨⟨cs, hk, hfill⟩, hkn⟩ := buildK_ok h4
      obtain ⟨_, hcl⟩ := SV.flat_cells h1
      refine ⟨⟨cs, hk, ?_⟩, ?_⟩
      · simp only [List.map_cons, Instr.fill]
        rw [nthP_get] at hf
        have hsz : v.den.cells.size = sz := by rw [hcl]; simp [denL_length, h2]
        have hput : v.den.cells.zipIdx.foldl (fun cs p => cs.setIfInBounds (off + p.2) p.1) (denL cells).toArray = (denL (putL cells off v.cells)).toArray := by
          rw [hcl, putL_den _ _ _ (by omega)]
          have := fold_put off (denL v.cells) 0 (denL cells).toArray (by simp [denL_length]; omega)
          simpa [denL_length] using this
        simp only [List.getElem?_toArray, hf, hsz]
        rw [if_neg (by simp [denL_length]; omega)]
        rw [← hfill]
        congr 1
        funext x
        simp
      · intro p hp
        rcases List.mem_cons.1 hp with rfl | hp
        · exact flat_known h1
        · exact hkn p hp
    · exact h.elim

section
variable {P : Program} {s : St}
theorem partsL_eval {a : Act} {w : World} (hs : Sat s a w) : ∀ (l : List (Nat × Operand)), (∀ p ∈ partsL s l, p.2.known = true) → l.map (fun p => (p.1, a.eval p.2)) = (partsL s l).map fun p => (p.1, p.2.den)
  | [], _ => rfl
  | (i, x) :: r, h => by
    simp only [List.map_cons, partsL]
    rw [ev_ok hs x (h (i, evO s x) (by simp [partsL])), partsL_eval hs r (fun p hp => h p (by simp [partsL, hp]))]
theorem buildOpK_ok {Γ : Ty} (hΓ : Γ.ok P) {t : TypeId} {parts : Array (Nat × Operand)} {kk : SV → Prop} (h : buildOpK Γ s t parts.toList kk) : ∃ sv, kk sv ∧ sv.known = true ∧ Yld P s (.build t parts) sv := by
  unfold buildOpK at h
  split at h
  · rename_i ti pl hti hpl
    have hok := findT_ok hΓ.ts hti
    have hsk := findS_ok hΓ.fs hpl
    obtain ⟨⟨cs, hk, hfill⟩, hkn⟩ := buildK_ok h
    refine ⟨_, hk, rfl, fun o a w ho hs => ?_⟩
    obtain ⟨ii, zv, hi, _, hz, hc⟩ := info_of hok.2
    unfold sOk at hsk
    cases hu : P.underlying t with
    | none => simp [hu] at hsk
    | some d =>
      cases d <;> simp only [hu] at hsk <;> try (cases hsk; done)
      rename_i fs
      have hb : P.built t ((parts.map fun p => (p.1, a.eval p.2)).toList) = some (denL cs).toArray := by
        unfold Program.built
        simp only [hi, hu, hz, hsk, Array.toList_map]
        rw [partsL_eval hs parts.toList hkn, hc]
        have := hfill
        rw [denL_litL] at this
        exact this
      have := run_build (P := P) w t (parts.map fun p => (p.1, a.eval p.2)) _ hb
      simp only [execOp, ho]
      simp only [SV.den]
      rw [Sem.run_bind]
      erw [this]
      rfl
  · exact h.elim
end

/-! ### A slice out of parts -/
def catC (v : SV) (kk : List SV → Prop) (cs : List SV) : Prop := kk (v.cells ++ cs)
def catK (sz : Nat) : Nat → List (Nat × SV) → (List SV → Prop) → Prop
  | _, [], kk => kk []
  | i, (j, v) :: r, kk => j = i ∧ v.flat ∧ v.cells.length = sz ∧ catK sz (i + 1) r (catC v kk)
def bslC (s : St) (e : TypeId) (n : Nat) (kk : St → SV → Prop) (cs : List SV) : Prop := ∀ b : Nat, kk { s with hp := s.hp ++ [(b, .cells cs e)] } (.sl s.hp.length b 0 n n)
def bslK (Γ : Ty) (s : St) (t : TypeId) (n : Nat) (parts : List (Nat × Operand)) (kk : St → SV → Prop) : Prop :=
  match findT Γ.ts t with
  | none => False
  | some ti => match ti.kd with
    | .slc e => match findT Γ.ts e with
      | none => False
      | some te => parts.length = n ∧ 0 < n ∧ 0 < te.size ∧ n * te.size ≤ 16777216 ∧ catK te.size 0 (partsL s parts) (bslC s e n kk)
    | _ => False

theorem catK_ok {sz : Nat} : ∀ {r : List (Nat × SV)} {i : Nat} {kk : List SV → Prop}, catK sz i r kk → ∃ cs : List SV, kk cs ∧ cs.length = r.length * sz ∧ (∀ p ∈ r, p.2.known = true) ∧
    ∀ arr : Array Value, (i + r.length) * sz ≤ arr.size → Instr.fill (fun i => some (i * sz, sz)) arr (r.map fun p => (p.1, p.2.den)) = some (arr.toList.take (i * sz) ++ denL cs ++ arr.toList.drop ((i + r.length) * sz)).toArray
  | [], i, kk, h => ⟨[], h, by simp, by simp, fun arr ha => by simp [Instr.fill, denL]⟩
  | (j, v) :: r, i, kk, h => by
    obtain ⟨rfl, h1, h2, h3⟩ := h
    obtain ⟨cs, hk, hl, hkn, hfill⟩ := catK_ok h3
    obtain ⟨_, hcl⟩ := SV.flat_cells h1
    refine ⟨v.cells ++ cs, hk, by simp [hl, h2, Nat.succ_mul, Nat.add_comm], ?_, fun arr ha => ?_⟩
    · intro p hp
      rcases List.mem_cons.1 hp with rfl | hp
      · exact flat_known h1
      · exact hkn p hp
    · have hsz : v.den.cells.size = sz := by rw [hcl]; simp [denL_length, h2]
      have e1 : (j + (r.length + 1)) * sz = j * sz + sz + r.length * sz := by rw [Nat.add_mul, Nat.add_mul, Nat.one_mul]; omega
      simp only [List.length_cons] at ha ⊢
      rw [e1] at ha
      have hput : v.den.cells.zipIdx.foldl (fun cs p => cs.setIfInBounds (j * sz + p.2) p.1) arr = (arr.toList.take (j * sz) ++ denL v.cells ++ arr.toList.drop (j * sz + sz)).toArray := by
        rw [hcl]
        have := fold_put (j * sz) (denL v.cells) 0 arr (by simp [denL_length]; omega)
        simpa [denL_length, h2] using this
      simp only [List.map_cons, Instr.fill, hsz]
      rw [if_neg (by simp; omega)]
      erw [hput]
      have hz2 : (arr.toList.take (j * sz) ++ denL v.cells ++ arr.toList.drop (j * sz + sz)).length = arr.size := by
        simp [denL_length, h2]; omega
      rw [hfill _ (by simp [denL_length, h2]; rw [Nat.add_mul, Nat.add_mul, Nat.one_mul]; omega)]
      congr 2
      have e2 : (j + 1) * sz = j * sz + sz := by rw [Nat.add_mul, Nat.one_mul]
      have e3 : (j + 1 + r.length) * sz = j * sz + sz + r.length * sz := by rw [Nat.add_mul, Nat.add_mul, Nat.one_mul]
      rw [e2, e3, e1]
      have hl1 : (arr.toList.take (j * sz) ++ denL v.cells).length = j * sz + sz := by simp [denL_length, h2]; omega
      rw [denL_append]
      rw [List.take_left' hl1, ← List.drop_drop, List.drop_left' hl1, List.drop_drop]
      simp [List.append_assoc]
end Go.Proofs.RX
