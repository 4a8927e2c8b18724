/-
  FnExactIsWeekRow answers true for every row and leaves its argument alone. Conditions: none.
-/
import Derived.Test.YtnoknihkmfbdbaaWk1
import Derived.Test.YtnoknihkmfbdbaaLvQ
import Derived.Test.YtnoknihkmfbdbaaRows
import Derived.WalkKit
import Derived.ProofKit
import Derived.OpenShut
import Derived.ShutString
import Derived.ChangeOld
import Derived.Below
set_option linter.unusedSimpArgs false
set_option linter.unusedVariables false
namespace Go.Proofs.Ytnoknihkmfbdbaa.lawIsWeekRow
open Go.ChangeShapes Go.WideShapes Go.ChangeAt Go.RowKit
open Go.ChangeMaps (open_string shut_string)
open Go.Lv

theorem own : ownKnob Try.prog.godebug = none := by kernel_rfl
theorem laidOut : laidOutB Try.prog = true := by kernel_rfl

theorem shC_struct {P : Program} {t : TypeId} {n : Nat} {xs : List V} {fs : Array Field} (hs : P.underlying t = some (.struct fs)) (h : ShC P (n + 1) t xs) : xs.length = P.cellsOf t ∧ ∀ f ∈ fs.toList, ShC P n f.type ((xs.drop f.offset).take (P.cellsOf f.type)) := by
  simp only [ShC, hs] at h
  exact h

theorem shC_int {P : Program} {t : TypeId} {n : Nat} {xs : List V} {k : IntKind} (hs : P.underlying t = some (.int k)) (h : ShC P (n + 1) t xs) : ∃ z, xs = [.int k z] ∧ (Lit.int k z).wf = true := by
  simp only [ShC, hs] at h
  exact h

set_option maxRecDepth 100000 in
set_option linter.constructorNameAsVariable false in
theorem shape (xs : List V) (h : ShC Try.prog 3 23 xs) : ∃ r : WeekRow, V.agg xs = r.v := by
  obtain ⟨hl, hf⟩ := shC_struct Try.underlying23 h
  rw [Try.cz23] at hl
  simp only [List.mem_cons, List.not_mem_nil, or_false, forall_eq_or_imp, forall_eq, Try.cz3] at hf
  obtain ⟨h0, h1, h2, h3, h4⟩ := hf
  obtain ⟨z0, e0, _⟩ := shC_int Try.underlying3 h0
  obtain ⟨z1, e1, _⟩ := shC_int Try.underlying3 h1
  obtain ⟨z2, e2, _⟩ := shC_int Try.underlying3 h2
  obtain ⟨z3, e3, _⟩ := shC_int Try.underlying3 h3
  obtain ⟨z4, e4, _⟩ := shC_int Try.underlying3 h4
  match xs, hl with
  | [a, b, c, d, e], _ =>
    simp at e0 e1 e2 e3 e4
    subst e0 e1 e2 e3 e4
    exact ⟨⟨z0, z1, z2, z3, z4⟩, rfl⟩

set_option maxRecDepth 100000 in
theorem lifted (os : Os) (started : os.Started) (H : Type) (enc : TypeId × Value → H) :
    ReturnsInHanded {} Try.checked os 3 .any (Rows.fnExactIsWeekRowSpec.pre6 enc Try.prog Try.f3 Rows.fnExactIsWeekRowRow.domain false) (Rows.fnExactIsWeekRowSpec.post enc Try.prog Try.f3 false true false false) := by
  refine returnsInHanded_of_change (C := Try.checked) own started (by kernel_rfl) Try.func3
    (ChangeSpec.witness6 (enc := enc) (C := Try.checked) false ⟨#[], #[.agg #[.int .i64 0, .int .i64 0, .int .i64 0, .int .i64 0, .int .i64 0]], []⟩ 8 (by kernel_rfl) (by kernel_rfl) (by kernel_rfl) (by kernel_rfl)) ?_
  intro W base args ds gs before hval0 hW hcnd _
  have hval : ∀ (j : Nat) t v, Try.f3.params[j]? = some t → args[j]? = some v → Value.okWide Try.prog W .any base t v := hval0
  have hW' := hW
  obtain ⟨p, q, hA0, hV, rfl, hfz, hnd⟩ := hW
  have hA : DataW.TrodAll enc Try.prog W 0 (fun _ => true) true Try.f3.params.toList args.toList ds p := hA0
  rw [Try.params3] at hA hval
  obtain ⟨v0, vs0, d0, ds0, p0, q0, hargs, rfl, rfl, h0, r0⟩ := trodAll_cons hA
  obtain ⟨rfl, rfl, rfl⟩ := trodAll_nil r0
  obtain rfl : args = #[v0] := by cases args; simp_all
  obtain ⟨rfl, rfl⟩ := trodVars_none hV
  have k0 := h0
  have lt0 : ∀ x ∈ p0, x.block < W.heap.size := by obtain ⟨m, hm⟩ := k0; exact DataW.trod_lt m _ _ _ hm
  obtain ⟨xs0, w0, s0⟩ := arg_agg (n := 3) (fun _ => 0) Try.underlying23 (hval 0 23 v0 rfl rfl) h0 (by kernel_rfl)
  obtain ⟨r, hr⟩ := shape xs0 s0
  rw [hr] at w0
  clear hA0 hval0
  refine (law_walk (fun _ => 0) (fnIsWeekRow_ok r) rfl (fun i hi => by
      obtain rfl : i = 0 := by simp at hi; omega
      exact w0)).mono fun e W' ⟨he, bel⟩ => ?_
  subst he
  exact ⟨_, rfl, _, _, _, [], _, [], hW', trodAll_mk1 (shut_bool Try.underlying4 _), (trodAll_cons_mk (Below.trod laidOut (by kernel_rfl) (of_decide_eq_true (by kernel_rfl)) k0 bel lt0) trodAll_mk0), rfl, bel.frame _, fun h => by cases h⟩

theorem over : Rows.fnExactIsWeekRowRow.holds Try.pinned (OpenSpec.ofChange Rows.fnExactIsWeekRowSpec) :=
  OpenClaim.holds_of_wide 3 Try.f3 rfl rfl rfl rfl rfl rfl rfl ⟨rfl, rfl, rfl, rfl, rfl⟩ rfl rfl rfl rfl rfl (by kernel_rfl) Try.func3 (by kernel_rfl)
    (of_decide_eq_true (by kernel_rfl)) (by unfold Func.isWrapper; first | (rw [if_pos (by decide +kernel)]; kernel_rfl) | (rw [if_neg (by decide +kernel)]; exact ⟨rfl, rfl⟩))
    (fun os started H enc _ => lifted os started H enc)

theorem proved : Rows.FnExactIsWeekRowSaid := over
end Go.Proofs.Ytnoknihkmfbdbaa.lawIsWeekRow
