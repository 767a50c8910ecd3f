import Derived.Test.YtoplidleecbdeaaDl
import Derived.DeepKeys5
set_option linter.unusedVariables false
set_option linter.unusedSimpArgs false
namespace Go.Proofs.Ytoplidleecbdeaa
open Go Go.RowKit Go.Proofs.RX Go.Maps

theorem laidOut : laidOutB Try.prog = true := by kernel_rfl
theorem K38 : Keyed Try.prog 38 := Keyed.of_law (deep_law_gate laidOut (Nat.le_of_ble_eq_true (by kernel_rfl)) (Nat.le_of_ble_eq_true (by kernel_rfl)) (by kernel_rfl) (by kernel_rfl))
structure okE (e : E) : Prop where
  r : (Lit.int .i64 e.route).wf = true
  k : (Lit.int .i64 e.kind).wf = true
  n : e.name.size ≤ maxLen
theorem u38b : (match Try.prog.underlying 38 with | some (.struct fs) => decide (fs.toList.map (fun f => (f.type, f.offset)) = [(3, 0), (3, 1), (9, 2)]) && fs.all (·.name != "_") | _ => false) = true := by kernel_rfl
theorem u38 : ∃ fs, Try.prog.underlying 38 = some (.struct fs) ∧ fs.toList.map (fun f => (f.type, f.offset)) = [(3, 0), (3, 1), (9, 2)] ∧ fs.all (·.name != "_") = true := by
  have h := u38b
  split at h
  · rename_i fs e
    simp only [Bool.and_eq_true, decide_eq_true_eq] at h
    exact ⟨fs, e, h.1, h.2⟩
  · simp at h
theorem isK_who {e : E} (h : okE e) : IsK Try.prog 38 (whoV e) := by
  unfold IsK keyOf
  obtain ⟨fs, hu, hf, hn⟩ := u38
  have hc : Try.prog.cellsOf 38 = 3 := by kernel_rfl
  have hc3 : Try.prog.cellsOf 3 = 1 := by kernel_rfl
  have hc9 : Try.prog.cellsOf 9 = 1 := by kernel_rfl
  have u3 : Try.prog.underlying 3 = some (.int .i64) := by kernel_rfl
  have u9 : Try.prog.underlying 9 = some .string := by kernel_rfl
  simp only [hu]
  rw [show Try.prog.keyType 38 = true from by kernel_rfl]
  have hfm : (whoV e).formed Try.prog 38 = true := by
    simp [whoV, Value.formed, hu, hc]
  rw [hfm, show Try.prog.types.size + 1 = 111 + 2 from by kernel_rfl]
  have hm : fs.toList.mapM (fun f => Try.prog.keyLits (111 + 1) f.type (((whoV e).cells.toList.drop f.offset).take (Try.prog.cellsOf f.type))) = (fs.toList.map (fun f => (f.type, f.offset))).mapM (fun q => Try.prog.keyLits (111 + 1) q.1 (((whoV e).cells.toList.drop q.2).take (Try.prog.cellsOf q.1))) := by
    rw [List.mapM_map]; rfl
  have hk : Try.prog.keyLits (111 + 2) 38 (whoV e).cells.toList = some [.int .i64 e.route, .int .i64 e.kind, .string e.name.data.toList] := by
    rw [Program.keyLits.eq_def]
    simp only [hu]
    rw [if_pos ⟨by simp [whoV, Value.cells, hc], hn⟩, hm, hf]
    have k3 : ∀ n : Int, (Lit.int .i64 n).wf = true → Try.prog.keyLits (111 + 1) 3 [.int .i64 n] = some [.int .i64 n] := fun n hn => by
      rw [Program.keyLits.eq_def]; simp only [u3]; rw [if_pos (by simp [hn])]
    have k9 : Try.prog.keyLits (111 + 1) 9 [.string e.name] = some [.string e.name.data.toList] := by
      rw [Program.keyLits.eq_def]; simp only [u9]; rw [if_pos h.n]
    simp only [List.mapM_cons, List.mapM_nil, hc3, hc9, whoV, Value.cells, List.drop_zero, List.drop_succ_cons, List.take_succ_cons, List.take_zero, k3 _ h.r, k3 _ h.k, k9]
    rfl
  rw [hk]
  simp
theorem whoV_inj {a b : E} : whoV a = whoV b ↔ a.route = b.route ∧ a.kind = b.kind ∧ a.name = b.name := by simp [whoV]
theorem isK_pre {w : Value} {e : E} (h : IsK Try.prog 38 w) (he : w = whoV e) : IsK Try.prog 38 (whoV e) := he ▸ h
end Go.Proofs.Ytoplidleecbdeaa
