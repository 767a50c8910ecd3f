import Derived.Test.YtoplidleecbdeaaK
import Derived.Test.YtoplidleecbdeaaRXr
import Derived.Laws.StructEq
set_option linter.unusedVariables false
set_option linter.unusedSimpArgs false
namespace Go.Proofs.Ytoplidleecbdeaa
open Go Go.RowKit Go.Proofs.RX Go.Maps
theorem part0 (a b : Int) (c : ByteArray) : ∀ w, (part 3 #[.int .i64 a, .int .i64 b, .string c] 0).run Try.prog w = .ok (.int .i64 a) w := fun _ => by kernel_rfl
theorem part1 (a b : Int) (c : ByteArray) : ∀ w, (part 3 #[.int .i64 a, .int .i64 b, .string c] 1).run Try.prog w = .ok (.int .i64 b) w := fun _ => by kernel_rfl
theorem part2 (a b : Int) (c : ByteArray) : ∀ w, (part 9 #[.int .i64 a, .int .i64 b, .string c] 2).run Try.prog w = .ok (.string c) w := fun _ => by kernel_rfl
def sameB (a b : E) : Bool := a.route == b.route && (a.kind == b.kind && (a.name.toList == b.name.toList))
theorem sameB_iff (a b : E) : sameB a b = true ↔ whoV a = whoV b := by
  rw [whoV_inj]
  simp only [sameB, Bool.and_eq_true, beq_iff_eq]
  refine and_congr_right fun _ => and_congr_right fun _ => ⟨fun h => ?_, fun h => by rw [h]⟩
  have h1 : (a.name.toList == b.name.toList) = true := by simpa using h
  rw [← beq_toListBytes] at h1
  have h2 : ∀ u v : ByteArray, (u == v) = true → u = v := by
    rintro ⟨x⟩ ⟨y⟩ h
    have h3 : (x == y) = true := h
    rw [eq_of_beq h3]
  exact h2 _ _ h1
theorem eqIn38 (a b : E) (d : Nat) (w : World) : (Op.equalIn (d + 2) 38 (whoV a) (whoV b)).run Try.prog w = .ok (sameB a b) w := by
  obtain ⟨fs, hu, hf, hn⟩ := u38
  have hfd : Try.prog.fieldsOf 38 = fs := by simp [Program.fieldsOf, hu]
  unfold whoV
  rw [run_equalIn_struct (P := Try.prog) w (d + 1) 38 _ _ (by rw [hfd]; exact hu) (by kernel_rfl), hfd]
  have u3 : Try.prog.underlying 3 = some (.int .i64) := by kernel_rfl
  have u9 : Try.prog.underlying 9 = some .string := by kernel_rfl
  rw [← Array.all_toList] at hn
  generalize fs.toList = l at hf hn
  obtain ⟨f1, l, rfl⟩ : ∃ x r, l = x :: r := by cases l <;> simp_all
  obtain ⟨f2, l, rfl⟩ : ∃ x r, l = x :: r := by cases l <;> simp_all
  obtain ⟨f3, l, rfl⟩ : ∃ x r, l = x :: r := by cases l <;> simp_all
  obtain rfl : l = [] := by cases l <;> simp_all
  simp only [List.map_cons, List.map_nil, List.cons.injEq, Prod.mk.injEq, and_true] at hf
  obtain ⟨⟨t1, o1⟩, ⟨t2, o2⟩, t3, o3⟩ := hf
  simp only [List.all_cons, List.all_nil, Bool.and_true, Bool.and_eq_true, bne_iff_ne, ne_eq] at hn
  obtain ⟨n1, n2, n3⟩ := hn
  have e1 := run_equalIn_int (P := Try.prog) w d 3 .i64 .i64 a.route b.route u3
  have e2 := run_equalIn_int (P := Try.prog) w d 3 .i64 .i64 a.kind b.kind u3
  have e3 := run_equalIn_string (P := Try.prog) w d 9 a.name b.name u9
  unfold sameB
  generalize (a.route == b.route) = r1 at e1 ⊢
  generalize (a.kind == b.kind) = r2 at e2 ⊢
  generalize (a.name.toList == b.name.toList) = r3 at e3 ⊢
  simp only [Op.eqFields, ne_eq, n1, n2, n3, not_false_eq_true, if_true, t1, t2, t3, o1, o2, o3, Sem.run_bind, part0, part1, part2, Result.andThen_ok, e1, e2, e3]
  cases r1 <;> cases r2 <;> cases r3 <;> simp [part0, part1, part2, e1, e2, e3]
theorem eq38 (x y : Operand) (a b : E) (w : World) : (binF .eql 38 x y (whoV a) (whoV b)).run Try.prog w = .ok (.bool (sameB a b)) w := by
  have h1 := run_eqGuard_agg (P := Try.prog) w .eql 38 x y #[.int .i64 a.route, .int .i64 a.kind, .string a.name] #[.int .i64 b.route, .int .i64 b.kind, .string b.name] (by kernel_rfl)
  have h2 := run_eql_struct (P := Try.prog) w 38 #[.int .i64 a.route, .int .i64 a.kind, .string a.name] #[.int .i64 b.route, .int .i64 b.kind, .string b.name]
  have h3 := eqIn38 a b 9998 w
  unfold whoV at h3 ⊢
  simp only [binF, Sem.run_bind, h1, Result.andThen_ok, h2, h3]
theorem ne38 (x y : Operand) (a b : E) (w : World) : (binF .neq 38 x y (whoV a) (whoV b)).run Try.prog w = .ok (.bool (!sameB a b)) w := by
  have h1 := run_eqGuard_agg (P := Try.prog) w .neq 38 x y #[.int .i64 a.route, .int .i64 a.kind, .string a.name] #[.int .i64 b.route, .int .i64 b.kind, .string b.name] (by kernel_rfl)
  have h2 := run_neq_struct (P := Try.prog) w 38 #[.int .i64 a.route, .int .i64 a.kind, .string a.name] #[.int .i64 b.route, .int .i64 b.kind, .string b.name]
  have h3 := eqIn38 a b 9998 w
  unfold whoV at h3 ⊢
  simp only [binF, Sem.run_bind, h1, Result.andThen_ok, h2, h3]
end Go.Proofs.Ytoplidleecbdeaa
