import Derived.Test.YtoplidleecbdeaaProg
import Derived.Test.YtoplidleecbdeaaWWords
import Derived.Outline
import Derived.LoopN
set_option linter.unusedVariables false
set_option linter.unusedSimpArgs false
namespace Go.Proofs.Ytoplidleecbdeaa
open Go.RowKit Go.Proofs.YtoplidleecbdeaaW.PrintWords

def ev : Option Int → Value
  | none => .nilIface
  | some c => .iface 58 (.int .i64 c)

def okN (n : Int) : Prop := 1 ≤ n ∧ n ≤ 1048576
instance (n : Int) : Decidable (okN n) := inferInstanceAs (Decidable (_ ∧ _))
def okT (n : Int) : Prop := 0 ≤ n ∧ n ≤ 1099511627776
instance (n : Int) : Decidable (okT n) := inferInstanceAs (Decidable (_ ∧ _))

theorem idx0 (a b c : Int) : ∀ w, (Instr.index 95 (.agg #[.int .i64 a, .int .i64 b, .int .i64 c]) (.int .i64 0)).run Try.prog w = .ok (.int .i64 a) w := fun _ => by kernel_rfl
theorem idx1 (a b c : Int) : ∀ w, (Instr.index 95 (.agg #[.int .i64 a, .int .i64 b, .int .i64 c]) (.int .i64 1)).run Try.prog w = .ok (.int .i64 b) w := fun _ => by kernel_rfl
theorem idx2 (a b c : Int) : ∀ w, (Instr.index 95 (.agg #[.int .i64 a, .int .i64 b, .int .i64 c]) (.int .i64 2)).run Try.prog w = .ok (.int .i64 c) w := fun _ => by kernel_rfl

/-- The world behind 'Valid': the parameter's box has come. -/
theorem valid_ok (g r p b : Int) (w : World) (h1 : okN r) (h2 : okN p) (h3 : okN b) :
    Calls Try.prog 42 #[.agg #[.int .i64 g, .int .i64 r, .int .i64 p, .int .i64 b]] w fun e w' => e = .returned .nilIface ∧ w.alloc (.cells #[.int .i64 g, .int .i64 r, .int .i64 p, .int .i64 b] 40) = w' := by
  obtain ⟨h1, h1'⟩ := h1
  obtain ⟨h2, h2'⟩ := h2
  obtain ⟨h3, h3'⟩ := h3
  have i0 := idx0 r p b
  have i1 := idx1 r p b
  have i2 := idx2 r p b
  go_enter Try.func42, Try.ntmps42
  go_wp2
  refine wp_loop_rounds 4 ?_
  rw [rounds_succ]
  go_wp2
  rw [rounds_succ]
  go_wp2
  rw [rounds_succ]
  go_wp2
  rw [rounds_succ]
  go_wp2
  go_ret
  exact ⟨rfl, rfl⟩

theorem valid_bad (g r p b : Int) (w : World) (h : ¬ (okN r ∧ okN p ∧ okN b)) :
    Calls Try.prog 42 #[.agg #[.int .i64 g, .int .i64 r, .int .i64 p, .int .i64 b]] w fun e w' => e = .returned (.iface 58 (.int .i64 4)) ∧ w.alloc (.cells #[.int .i64 g, .int .i64 r, .int .i64 p, .int .i64 b] 40) = w' := by
  have i0 := idx0 r p b
  have i1 := idx1 r p b
  have i2 := idx2 r p b
  by_cases h1 : okN r
  · obtain ⟨h1, h1'⟩ := h1
    by_cases h2 : okN p
    · have h3 : ¬ okN b := fun h3 => h ⟨⟨h1, h1'⟩, h2, h3⟩
      obtain ⟨h2, h2'⟩ := h2
      clear h
      unfold okN at h3
      by_cases h4 : b < 1
      · go_enter Try.func42, Try.ntmps42
        go_wp2
        refine wp_loop_rounds 4 ?_
        rw [rounds_succ]
        go_wp2
        rw [rounds_succ]
        go_wp2
        rw [rounds_succ]
        go_wp2
        go_ret
        exact ⟨rfl, rfl⟩
      · have h5 : 1048576 < b := by omega
        clear h3
        go_enter Try.func42, Try.ntmps42
        go_wp2
        refine wp_loop_rounds 4 ?_
        rw [rounds_succ]
        go_wp2
        rw [rounds_succ]
        go_wp2
        rw [rounds_succ]
        go_wp2
        go_ret
        exact ⟨rfl, rfl⟩
    · clear h
      unfold okN at h2
      by_cases h4 : p < 1
      · clear h2
        go_enter Try.func42, Try.ntmps42
        go_wp2
        refine wp_loop_rounds 4 ?_
        rw [rounds_succ]
        go_wp2
        rw [rounds_succ]
        go_wp2
        go_ret
        exact ⟨rfl, rfl⟩
      · have h5 : 1048576 < p := by omega
        clear h2
        go_enter Try.func42, Try.ntmps42
        go_wp2
        refine wp_loop_rounds 4 ?_
        rw [rounds_succ]
        go_wp2
        rw [rounds_succ]
        go_wp2
        go_ret
        exact ⟨rfl, rfl⟩
  · clear h
    unfold okN at h1
    by_cases h4 : r < 1
    · clear h1
      go_enter Try.func42, Try.ntmps42
      go_wp2
      refine wp_loop_rounds 4 ?_
      rw [rounds_succ]
      go_wp2
      go_ret
      exact ⟨rfl, rfl⟩
    · have h5 : 1048576 < r := by omega
      clear h1
      go_enter Try.func42, Try.ntmps42
      go_wp2
      refine wp_loop_rounds 4 ?_
      rw [rounds_succ]
      go_wp2
      go_ret
      exact ⟨rfl, rfl⟩

theorem tick_any (n : Int) (w : World) : Calls Try.prog 43 #[.int .i64 n] w fun e w' => e = .returned (.bool (decide (okT n))) ∧ w = w' := by
  by_cases h : 0 ≤ n
  · by_cases h2 : n ≤ 1099511627776
    · rw [decide_eq_true (show okT n from ⟨h, h2⟩)]
      go_enter Try.func43, Try.ntmps43
      go_wp2
      go_ret
      exact ⟨by simp, rfl⟩
    · rw [decide_eq_false (show ¬ okT n from fun h3 => h2 h3.2)]
      go_enter Try.func43, Try.ntmps43
      go_wp2
      go_ret
      exact ⟨by simp, rfl⟩
  · rw [decide_eq_false (show ¬ okT n from fun h3 => h h3.1)]
    go_enter Try.func43, Try.ntmps43
    go_wp2
    go_ret
    exact ⟨by simp, rfl⟩

end Go.Proofs.Ytoplidleecbdeaa
