/-
  FnExactIsValidRecord answers true for every input and leaves its arguments alone. Conditions: none.
-/
import Derived.Test.YtjdfmhjgboomcaaXIsValidRecord
import Derived.Test.YtjdfmhjgboomcaaLvU
import Derived.Test.YtjdfmhjgboomcaaRows
import Derived.Test.YtjdfmhjgboomcaaPf
import Derived.WalkKit
import Derived.ProofKit
import Derived.OpenShut
import Derived.ShutString
import Derived.ChangeOld
import Derived.Below
set_option linter.unusedSimpArgs false
set_option linter.unusedVariables false
set_option maxRecDepth 100000
namespace Go.Proofs.Ytjdfmhjgboomcaa.lawIsValidRecord
open Go.ChangeShapes Go.WideShapes Go.ChangeAt Go.RowKit
open Go.ChangeMaps (open_string shut_string)
open Go.Lv
theorem laidOut : laidOutB Try.prog = true := pf1
theorem sh_LogRecord (n : Nat) (xs : List V) (h : ShC Try.prog (n + 2) 118 xs) : ∃ r : LogRecord, xs = r.cs ∧ r.ok := by
  obtain ⟨hl, hf⟩ := shC_struct Try.underlying118 h
  rw [Try.cz118] at hl
  simp only [List.mem_cons, List.not_mem_nil, or_false, forall_eq_or_imp, forall_eq, Try.cz9] at hf
  obtain ⟨h0, h1⟩ := hf
  obtain ⟨z0, e0, o0⟩ := shC_str Try.underlying9 h0
  obtain ⟨z1, e1, o1⟩ := shC_str Try.underlying9 h1
  match xs, hl with
  | [a0, a1], _ =>
    simp at e0 e1
    subst e0
    subst e1
    exact ⟨⟨z0, z1⟩, rfl, ⟨o0, o1⟩⟩
theorem lifted (os : Os) (started : os.Started) (H : Type) (enc : TypeId × Value → H) :
    ReturnsInHanded {} Try.checked os 13 .any (Rows.fnExactIsValidRecordSpec.pre6 enc Try.prog Try.f13 Rows.fnExactIsValidRecordRow.domain false) (Rows.fnExactIsValidRecordSpec.post enc Try.prog Try.f13 false true false false) := by
  refine returnsInHanded_of_change (C := Try.checked) own started (by kernel_rfl) Try.func13
    (ChangeSpec.witness6 (enc := enc) (C := Try.checked) false ⟨#[], #[.agg #[.string ByteArray.empty, .string ByteArray.empty]], []⟩ 8 (by kernel_rfl) (by kernel_rfl) (by kernel_rfl) (by kernel_rfl)) ?_
  intro W base args ds gs before hval0 hW hcnd _
  have hval : ∀ (j : Nat) t v, Try.f13.params[j]? = some t → args[j]? = some v → Value.okWide Try.prog W .any base t v := hval0
  have hW' := hW
  obtain ⟨p, q, hA0, hV, rfl, hfz, hnd⟩ := hW
  have hA : DataW.TrodAll enc Try.prog W 0 (fun _ => true) true Try.f13.params.toList args.toList ds p := hA0
  rw [Try.params13] at hA hval
  obtain ⟨v0, vs0, d0, ds0, p0, q0, hargs0, rfl, rfl, h0, r0⟩ := trodAll_cons hA
  obtain ⟨rfl, rfl, rfl⟩ := trodAll_nil r0
  obtain rfl : args = #[v0] := by cases args; simp_all
  obtain ⟨rfl, rfl⟩ := trodVars_none hV
  have k0 := h0
  have lt0 : ∀ x ∈ p0, x.block < W.heap.size := by obtain ⟨m, hm⟩ := k0; exact DataW.trod_lt m _ _ _ hm
  obtain ⟨x0, w0, s0⟩ := arg_agg (n := 2) (fun _ => 0) Try.underlying118 (hval 0 118 v0 rfl rfl) h0 (by kernel_rfl)
  obtain ⟨z0, e0, o0⟩ := sh_LogRecord 0 _ s0
  subst e0
  clear hA0 hval0
  refine (law_walk (fun _ => 0) (fnIsValidRecord_ok z0 o0) (fun p hp => by simp [tabs] at hp) rfl (fun i hi => by
      match i, hi with
      | 0, _ => exact w0)).mono fun e W' ⟨he, bel⟩ => ?_
  subst he
  exact ⟨_, rfl, _, _, _, [], _, [], hW', trodAll_mk1 (shut_bool Try.underlying4 _), (trodAll_cons_mk (Below.trod laidOut (by kernel_rfl) (of_decide_eq_true (by kernel_rfl)) k0 bel lt0) trodAll_mk0), rfl, bel.frame _, fun h => by cases h⟩
theorem k1 : (Rows.fnExactIsValidRecordRow.inPlace == Try.prog.inPlace 13) = true := by kernel_rfl
theorem k2 : (Rows.fnExactIsValidRecordRow.unfollowed == Try.prog.unfollowed 13) = true := by kernel_rfl
theorem k3 : (Rows.fnExactIsValidRecordRow.recurses == Try.prog.recurses 13) = true := by kernel_rfl
theorem k4 : (Rows.fnExactIsValidRecordRow.named == Try.prog.varsNamed 13) = true := by kernel_rfl
theorem k5 : namedTie Try.prog Rows.fnExactIsValidRecordRow.named Rows.fnExactIsValidRecordSpec.vars = true := by kernel_rfl
theorem k6 : Rows.fnExactIsValidRecordRow.wf (OpenSpec.ofChange Rows.fnExactIsValidRecordSpec) = true := by kernel_rfl
theorem k7 : Try.checked.prog.funcNamed Rows.fnExactIsValidRecordRow.func = some 13 := by kernel_rfl
theorem facts : joinedFacts Try.prog 13 Try.f13 Rows.fnExactIsValidRecordSpec Rows.fnExactIsValidRecordRow = true := by
  simp only [joinedFacts, Bool.and_eq_true]
  repeat' (refine And.intro ?_ ?_)
  all_goals first | with_reducible exact k6 | with_reducible exact pf1 | with_reducible exact pf2 | with_reducible exact pf3 | with_reducible exact pf4 | with_reducible exact pf5 | with_reducible exact pf6 | with_reducible exact k1 | with_reducible exact k2 | with_reducible exact k3 | with_reducible exact k4 | with_reducible exact k5 | (with_reducible show (_ == Try.prog.plainKeys) = true; exact pf7) | (with_reducible show (_ == Try.prog.liftsFinal) = true; exact pf8) | (with_reducible show (Try.prog.make == _) = true; exact pf9) | kernel_rfl
theorem over : Rows.fnExactIsValidRecordRow.holds Try.pinned (OpenSpec.ofChange Rows.fnExactIsValidRecordSpec) :=
  OpenClaim.holds_of_wide 13 Try.f13 rfl rfl rfl rfl rfl rfl rfl ⟨rfl, rfl, rfl, rfl, rfl⟩ rfl rfl rfl rfl rfl k7 Try.func13 facts
    (of_decide_eq_true (by kernel_rfl)) (by unfold Func.isWrapper; first | (rw [if_pos (by decide +kernel)]; kernel_rfl) | (rw [if_neg (by decide +kernel)]; exact ⟨rfl, rfl⟩))
    (fun os started H enc _ => lifted os started H enc)
theorem proved : Rows.FnExactIsValidRecordSaid := over
end Go.Proofs.Ytjdfmhjgboomcaa.lawIsValidRecord
