import Derived.Test.YtoplidleecbdeaaRows
import Derived.Test.YtoplidleecbdeaaT22
import Derived.Deep.Slices
import Derived.WalkKit
import Derived.ProofKit
import Derived.OpenShut
import Derived.ShutString
import Derived.ChangeOld
import Derived.Below
import Derived.SizedLaws
namespace Go.Proofs.Ytoplidleecbdeaa
open Go.ChangeShapes Go.WideShapes Go.ChangeAt Go.RowKit Go Go.Proofs.RX
open Go.ChangeMaps (open_string shut_string)
set_option linter.unusedVariables false
theorem tryOwn : ownKnob Try.prog.godebug = none := by kernel_rfl
theorem tryLaid : laidOutB Try.prog = true := by kernel_rfl
noncomputable def stF (t : TypeId) (l : List (Nat × Nat)) : Bool := match Try.prog.underlying t with | some (.struct fs) => decide (fs.toList.map (fun f => (f.type, f.offset)) = l) | _ => false
theorem stF_of {t : TypeId} {l : List (Nat × Nat)} (h : stF t l = true) : ∃ fs, Try.prog.underlying t = some (.struct fs) ∧ fs.toList.map (fun f => (f.type, f.offset)) = l := by
  unfold stF at h
  split at h
  · rename_i fs e
    exact ⟨fs, e, of_decide_eq_true h⟩
  · simp at h
section
variable {H : Type} {enc : TypeId × Value → H} {w : World} {base : Nat} {spare : Nat → Bool} {held : Bool} {cs : List Value}
theorem trod_fields {t : TypeId} {l : List (Nat × Nat)} (hs : stF t l = true) {fuel : Nat} {x : DataW H × List MemPlace} (h : DataW.trod enc Try.prog w base spare held fuel t cs = some x) :
    cs.length = Try.prog.cellsOf t ∧ ∃ n, ∀ (i ty off : Nat), l[i]? = some (ty, off) → ∃ y, DataW.trod enc Try.prog w base spare held n ty ((cs.drop off).take (Try.prog.cellsOf ty)) = some y := by
  obtain ⟨fs, hu, hf⟩ := stF_of hs
  obtain ⟨xs, n, _, _, hl, hxl, hx⟩ := DataW.trod_struct hu h
  refine ⟨hl, n, fun i ty off hi => ?_⟩
  rw [← hf, List.getElem?_map] at hi
  obtain ⟨f, hfi, he⟩ := Option.map_eq_some_iff.1 hi
  simp only [Prod.mk.injEq] at he
  rw [Array.getElem?_toList] at hfi
  have h1 := hx i f hfi
  rw [he.1, he.2] at h1
  have hlt : i < xs.length := by rw [hxl]; exact (Array.getElem?_eq_some_iff.1 hfi).1
  exact ⟨xs[i], by rw [h1, List.getElem?_eq_getElem hlt]⟩
theorem trod_who {fuel : Nat} {x : DataW H × List MemPlace} (h : DataW.trod enc Try.prog w base spare held fuel 38 cs = some x) : ∃ q : E, okE q ∧ q.pt = 0 ∧ q.at_ = 0 ∧ cs = [.int .i64 q.route, .int .i64 q.kind, .string q.name] := by
  obtain ⟨hl, n, hf⟩ := trod_fields (l := [(3, 0), (3, 1), (9, 2)]) (by kernel_rfl) h
  have u3 : Try.prog.underlying 3 = some (.int .i64) := by kernel_rfl
  have u9 : Try.prog.underlying 9 = some .string := by kernel_rfl
  have c3 : Try.prog.cellsOf 3 = 1 := by kernel_rfl
  have c9 : Try.prog.cellsOf 9 = 1 := by kernel_rfl
  rw [show Try.prog.cellsOf 38 = 3 from by kernel_rfl] at hl
  obtain ⟨a, b, c, rfl⟩ : ∃ a b c, cs = [a, b, c] := by
    match cs, hl with
    | [a, b, c], _ => exact ⟨a, b, c, rfl⟩
  obtain ⟨y0, h0⟩ := hf 0 3 0 rfl
  obtain ⟨y1, h1⟩ := hf 1 3 1 rfl
  obtain ⟨y2, h2⟩ := hf 2 9 2 rfl
  rw [c3] at h0 h1
  rw [c9] at h2
  obtain ⟨a', e0, _, w0⟩ := DataW.trod_int u3 h0
  obtain ⟨b', e1, _, w1⟩ := DataW.trod_int u3 h1
  obtain ⟨c', e2, _, w2⟩ := DataW.trod_string u9 h2
  simp at e0 e1 e2
  exact ⟨⟨a', b', c', 0, 0⟩, ⟨w0, w1, w2⟩, rfl, rfl, by rw [e0, e1, e2]⟩
theorem trod_lim {fuel : Nat} {x : DataW H × List MemPlace} (h : DataW.trod enc Try.prog w base spare held fuel 40 cs = some x) : ∃ g r p b : Int, cs = [.int .i64 g, .int .i64 r, .int .i64 p, .int .i64 b] := by
  obtain ⟨hl, n, hf⟩ := trod_fields (l := [(3, 0), (3, 1), (3, 2), (3, 3)]) (by kernel_rfl) h
  have u3 : Try.prog.underlying 3 = some (.int .i64) := by kernel_rfl
  have c3 : Try.prog.cellsOf 3 = 1 := by kernel_rfl
  rw [show Try.prog.cellsOf 40 = 4 from by kernel_rfl] at hl
  obtain ⟨a, b, c, d, rfl⟩ : ∃ a b c d, cs = [a, b, c, d] := by
    match cs, hl with
    | [a, b, c, d], _ => exact ⟨a, b, c, d, rfl⟩
  obtain ⟨y0, h0⟩ := hf 0 3 0 rfl
  obtain ⟨y1, h1⟩ := hf 1 3 1 rfl
  obtain ⟨y2, h2⟩ := hf 2 3 2 rfl
  obtain ⟨y3, h3⟩ := hf 3 3 3 rfl
  rw [c3] at h0 h1 h2 h3
  obtain ⟨a', e0, _⟩ := DataW.trod_int u3 h0
  obtain ⟨b', e1, _⟩ := DataW.trod_int u3 h1
  obtain ⟨c', e2, _⟩ := DataW.trod_int u3 h2
  obtain ⟨d', e3, _⟩ := DataW.trod_int u3 h3
  simp at e0 e1 e2 e3
  exact ⟨a', b', c', d', by rw [e0, e1, e2, e3]⟩
theorem trod_act {fuel : Nat} {x : DataW H × List MemPlace} (h : DataW.trod enc Try.prog w base spare held fuel 42 cs = some x) :
    ∃ (kd : Int) (q : E) (g r p b now : Int), okE q ∧ cs = [.int .i64 kd, .int .i64 q.route, .int .i64 q.kind, .string q.name, .int .i64 g, .int .i64 r, .int .i64 p, .int .i64 b, .int .i64 now] := by
  obtain ⟨hl, n, hf⟩ := trod_fields (l := [(3, 0), (38, 1), (40, 4), (3, 8)]) (by kernel_rfl) h
  have u3 : Try.prog.underlying 3 = some (.int .i64) := by kernel_rfl
  have c3 : Try.prog.cellsOf 3 = 1 := by kernel_rfl
  rw [show Try.prog.cellsOf 42 = 9 from by kernel_rfl] at hl
  obtain ⟨a0, a1, a2, a3, a4, a5, a6, a7, a8, rfl⟩ : ∃ a0 a1 a2 a3 a4 a5 a6 a7 a8, cs = [a0, a1, a2, a3, a4, a5, a6, a7, a8] := by
    match cs, hl with
    | [a0, a1, a2, a3, a4, a5, a6, a7, a8], _ => exact ⟨a0, a1, a2, a3, a4, a5, a6, a7, a8, rfl⟩
  obtain ⟨y0, h0⟩ := hf 0 3 0 rfl
  obtain ⟨y1, h1⟩ := hf 1 38 1 rfl
  obtain ⟨y2, h2⟩ := hf 2 40 4 rfl
  obtain ⟨y3, h3⟩ := hf 3 3 8 rfl
  rw [c3] at h0 h3
  rw [show Try.prog.cellsOf 38 = 3 from by kernel_rfl] at h1
  rw [show Try.prog.cellsOf 40 = 4 from by kernel_rfl] at h2
  obtain ⟨kd, e0, _⟩ := DataW.trod_int u3 h0
  obtain ⟨now, e3, _⟩ := DataW.trod_int u3 h3
  obtain ⟨q, hq, _, _, e1⟩ := trod_who h1
  obtain ⟨g, r, p, b, e2⟩ := trod_lim h2
  simp at e0 e1 e2 e3
  exact ⟨kd, q, g, r, p, b, now, hq, by simp [e0, e1, e2, e3]⟩
end
instance : Inhabited Ac := ⟨⟨0, ⟨0, 0, ⟨#[]⟩, 0, 0⟩, 0, 0, 0, 0, 0⟩⟩
theorem has_spot {e : TypeId} (hu : Try.prog.underlying 22 = some (.slice e)) {W : World} {base : Nat} {a : Addr} {len cap : Nat} (h : Value.okWide Try.prog W .any base 22 (.slice (some a) len cap)) : a.spot = none := by
  simp only [Value.okWide, hu, Cell.okWide, Cell.ok, World.has] at h
  exact h.2.2.2.1
set_option maxRecDepth 100000 in
theorem tableRuns_lifted (os : Os) (started : os.Started) (H : Type) (enc : TypeId × Value → H) :
    ReturnsInHanded {} Try.checked os 3 .any (Rows.tableRunsSpec.pre6 enc Try.prog Try.f3 Rows.tableRunsRow.domain false) (Rows.tableRunsSpec.post enc Try.prog Try.f3 false true false false) := by
  refine returnsInHanded_of_change_sized (C := Try.checked) tryOwn started (by kernel_rfl) Try.func3
    (ChangeSpec.witness6 (enc := enc) (C := Try.checked) false ⟨#[], #[.int .i64 0, .slice none 0 0], []⟩ 8 (by kernel_rfl) (by kernel_rfl) (by kernel_rfl) (by kernel_rfl)) ?_
  intro W base args ds gs before hval0 hW hcnd hsz0 _
  have hval : ∀ (j : Nat) t v, Try.f3.params[j]? = some t → args[j]? = some v → Value.okWide Try.prog W .any base t v := hval0
  have hW' := hW
  obtain ⟨p, q, hA0, hV, rfl, hfz, hnd⟩ := hW
  have hA : DataW.TrodAll enc Try.prog W 0 (fun _ => true) true Try.f3.params.toList args.toList ds p := hA0
  rw [Try.params3] at hA hval
  obtain ⟨v0, vs0, d0, ds0, p0, q0, hargs, rfl, rfl, h0, r0⟩ := trodAll_cons hA
  obtain ⟨v1, vs1, d1, ds1, p1, q1, rfl, rfl, rfl, h1, r1⟩ := trodAll_cons r0
  obtain ⟨rfl, rfl, rfl⟩ := trodAll_nil r1
  obtain rfl : args = #[v0, v1] := by cases args; simp_all
  obtain ⟨rfl, rfl⟩ := trodVars_none hV
  have u3 : Try.prog.underlying 3 = some (.int .i64) := by kernel_rfl
  have u22 : Try.prog.underlying 22 = some (.slice 42) := by kernel_rfl
  have c42 : Try.prog.cellsOf 42 = 9 := by kernel_rfl
  obtain ⟨room, rfl, rfl, rfl, y0⟩ := open_int u3 (hval 0 3 v0 rfl rfl) h0
  have k1 := h1
  have lt1 : ∀ x ∈ p1, x.block < W.heap.size := by obtain ⟨m, hm⟩ := k1; exact DataW.trod_lt m _ _ _ hm
  have key : ∃ (n : Nat) (oA : Option (Nat × Nat)) (cA : Nat) (A : Nat → Ac), n ≤ 9223372036854775807 ∧ v1 = (SV.vec oA n cA fun j => actS (A j)).den ∧ (∀ j, j < n → okE (A j).q) ∧
      ∀ j, j < n → oA ≠ none ∧ (oA.getD (0, 0)).1 < W.heap.size ∧ cellsAt W (oA.getD (0, 0)).1 ((oA.getD (0, 0)).2 + j * 9) (actS (A j)) := by
    obtain ⟨a0, len0, cap0, rfl⟩ := okWide_slice u22 (hval 1 22 v1 rfl rfl)
    obtain ⟨fuel, hf⟩ := h1
    rcases Go.Deep.open_slice u22 hf with ⟨hcs, _⟩ | ⟨a, len, cap, m, n, D, Pl, hcs, hb, hl, hm, hmm, hx, hel⟩
    · simp [Value.cells] at hcs
      obtain ⟨rfl, rfl, rfl⟩ := hcs
      exact ⟨0, none, 0, fun _ => ⟨0, ⟨0, 0, ⟨#[]⟩, 0, 0⟩, 0, 0, 0, 0, 0⟩, by omega, rfl, fun j hj => absurd hj (by omega), fun j hj => absurd hj (by omega)⟩
    · simp [Value.cells] at hcs
      obtain ⟨rfl, rfl, rfl⟩ := hcs
      have hsp := has_spot u22 (hval 1 22 _ rfl rfl)
      obtain ⟨b, off, spot⟩ := a
      simp only at hsp
      subst hsp
      simp only [if_true] at hmm
      have hsel : ∀ i, i < len0 → ∃ ac : Ac, okE ac.q ∧ b < W.heap.size ∧ cellsAt W b (off + i * 9) (actS ac) := by
        intro i hi
        obtain ⟨cs', g1, g2⟩ := hel i (by omega)
        rw [c42] at g1
        obtain ⟨_, glen, gc⟩ := World.cells?_some g1
        obtain ⟨kd, qq, g, r, pp, bb, now, hq, rfl⟩ := trod_act g2
        refine ⟨⟨kd, qq, g, r, pp, bb, now⟩, hq, ?_, ?_⟩
        · have g3 := gc 0 (by omega)
          rw [add_none, add_none] at g3
          unfold World.cell? at g3
          simp only at g3
          split at g3
          · rename_i c t' fr hb'
            exact (Array.getElem?_eq_some_iff.1 hb').1
          · simp at g3
        · intro j v hv
          have hj : j < 9 := by
            rw [getL_get] at hv
            exact (List.getElem?_eq_some_iff.1 hv).1
          have g3 := gc j hj
          rw [add_none, add_none] at g3
          rw [g3]
          have : ([.int .i64 kd, .int .i64 qq.route, .int .i64 qq.kind, .string qq.name, .int .i64 g, .int .i64 r, .int .i64 pp, .int .i64 bb, .int .i64 now] : List Value) = denL (actS ⟨kd, qq, g, r, pp, bb, now⟩) := rfl
          rw [this, denL_get, ← getL_get, hv]
          rfl
      obtain ⟨A, hAc⟩ := Go.Deep.choose_lt (α := Ac) (p := fun i ac => okE ac.q ∧ b < W.heap.size ∧ cellsAt W b (off + i * 9) (actS ac)) hsel
      refine ⟨len0, some (b, off), cap0, A, ?_, rfl, fun j hj => (hAc j hj).1, fun j hj => ⟨by simp, (hAc j hj).2.1, (hAc j hj).2.2⟩⟩
      unfold maxLen at hm
      omega
  obtain ⟨n, oA, cA, A, hn, rfl, hq, hAA⟩ := key
  clear hA0 hval0 hsz0
  refine (runs_calls room n hn oA cA A W hq hAA).mono fun e W' ⟨he, bel⟩ => ?_
  subst he
  exact ⟨_, rfl, _, _, _, [], _, [], hW', trodAll_mk1 (shut_bool (show Try.prog.underlying 4 = some .bool by kernel_rfl) _), (trodAll_cons_mk (shut_int u3 y0) (trodAll_cons_mk (Below.trod tryLaid (by kernel_rfl) (of_decide_eq_true (by kernel_rfl)) k1 bel lt1) trodAll_mk0)), rfl, bel.frame _, fun h => by cases h⟩
theorem tableRuns_holds : Rows.TableRunsSaid :=
  OpenClaim.holds_of_wide 3 Try.f3 rfl rfl rfl rfl rfl rfl rfl ⟨rfl, rfl, rfl, rfl, rfl⟩ rfl rfl rfl rfl rfl (by kernel_rfl) Try.func3 (by kernel_rfl)
    (of_decide_eq_true (by kernel_rfl)) (by unfold Func.isWrapper; first | (rw [if_pos (by decide +kernel)]; kernel_rfl) | (rw [if_neg (by decide +kernel)]; exact ⟨rfl, rfl⟩))
    (fun os started H enc _ => tableRuns_lifted os started H enc)
end Go.Proofs.Ytoplidleecbdeaa
