/-
  FnExactQuakesNear answers true for every input and leaves its arguments alone. Conditions: none.
-/
import Derived.Test.YtnoknihkmfbdbaaXQuakesNear
import Derived.Test.YtnoknihkmfbdbaaLvU
import Derived.Test.YtnoknihkmfbdbaaRows
import Derived.WalkKit
import Derived.ProofKit
import Derived.OpenShut
import Derived.ShutString
import Derived.ChangeOld
import Derived.Below
set_option linter.unusedSimpArgs false
set_option linter.unusedVariables false
set_option maxRecDepth 100000
namespace Go.Proofs.Ytnoknihkmfbdbaa.lawQuakesNear
open Go.ChangeShapes Go.WideShapes Go.ChangeAt Go.RowKit
open Go.ChangeMaps (open_string shut_string)
open Go.Lv
theorem own : ownKnob Try.prog.godebug = none := by kernel_rfl
theorem laidOut : laidOutB Try.prog = true := by kernel_rfl
theorem sh_QuakeRow (n : Nat) (xs : List V) (h : ShC Try.prog (n + 2) 118 xs) : ∃ r : QuakeRow, xs = r.cs ∧ r.ok := by
  obtain ⟨hl, hf⟩ := shC_struct Try.underlying118 h
  rw [Try.cz118] at hl
  simp only [List.mem_cons, List.not_mem_nil, or_false, forall_eq_or_imp, forall_eq, Try.cz3] at hf
  obtain ⟨h0, h1, h2, h3, h4, h5, h6⟩ := hf
  obtain ⟨z0, e0, o0⟩ := shC_int Try.underlying3 h0
  obtain ⟨z1, e1, o1⟩ := shC_int Try.underlying3 h1
  obtain ⟨z2, e2, o2⟩ := shC_int Try.underlying3 h2
  obtain ⟨z3, e3, o3⟩ := shC_int Try.underlying3 h3
  obtain ⟨z4, e4, o4⟩ := shC_int Try.underlying3 h4
  obtain ⟨z5, e5, o5⟩ := shC_int Try.underlying3 h5
  obtain ⟨z6, e6, o6⟩ := shC_int Try.underlying3 h6
  match xs, hl with
  | [a0, a1, a2, a3, a4, a5, a6], _ =>
    simp at e0 e1 e2 e3 e4 e5 e6
    subst e0
    subst e1
    subst e2
    subst e3
    subst e4
    subst e5
    subst e6
    exact ⟨⟨z0, z1, z2, z3, z4, z5, z6⟩, rfl, ⟨o0, o1, o2, o3, o4, o5, o6⟩⟩
theorem sh_L_QuakeRow (n : Nat) (xs : List V) (h : ShC Try.prog (n + 3) 37 xs) : ∃ L : List QuakeRow, xs = [.sl L.length 7 (rows QuakeRow.cs L)] ∧ lstR QuakeRow.ok L :=
  shC_list Try.underlying37 Try.cz118 (fun ys hy => sh_QuakeRow n ys hy) h
theorem lifted (os : Os) (started : os.Started) (H : Type) (enc : TypeId × Value → H) :
    ReturnsInHanded {} Try.checked os 12 .any (Rows.fnExactQuakesNearSpec.pre6 enc Try.prog Try.f12 Rows.fnExactQuakesNearRow.domain false) (Rows.fnExactQuakesNearSpec.post enc Try.prog Try.f12 false true false false) := by
  refine returnsInHanded_of_change (C := Try.checked) own started (by kernel_rfl) Try.func12
    (ChangeSpec.witness6 (enc := enc) (C := Try.checked) false ⟨#[], #[.slice none 0 0, .int .i64 0, .int .i64 0, .int .i64 0], []⟩ 8 (by kernel_rfl) (by kernel_rfl) (by kernel_rfl) (by kernel_rfl)) ?_
  intro W base args ds gs before hval0 hW hcnd _
  have hval : ∀ (j : Nat) t v, Try.f12.params[j]? = some t → args[j]? = some v → Value.okWide Try.prog W .any base t v := hval0
  have hW' := hW
  obtain ⟨p, q, hA0, hV, rfl, hfz, hnd⟩ := hW
  have hA : DataW.TrodAll enc Try.prog W 0 (fun _ => true) true Try.f12.params.toList args.toList ds p := hA0
  rw [Try.params12] at hA hval
  obtain ⟨v0, vs0, d0, ds0, p0, q0, hargs0, rfl, rfl, h0, r0⟩ := trodAll_cons hA
  obtain ⟨v1, vs1, d1, ds1, p1, q1, hargs1, rfl, rfl, h1, r1⟩ := trodAll_cons r0
  obtain ⟨v2, vs2, d2, ds2, p2, q2, hargs2, rfl, rfl, h2, r2⟩ := trodAll_cons r1
  obtain ⟨v3, vs3, d3, ds3, p3, q3, hargs3, rfl, rfl, h3, r3⟩ := trodAll_cons r2
  obtain ⟨rfl, rfl, rfl⟩ := trodAll_nil r3
  subst hargs1
  subst hargs2
  subst hargs3
  obtain rfl : args = #[v0, v1, v2, v3] := by cases args; simp_all
  obtain ⟨rfl, rfl⟩ := trodVars_none hV
  have k0 := h0
  have lt0 : ∀ x ∈ p0, x.block < W.heap.size := by obtain ⟨m, hm⟩ := k0; exact DataW.trod_lt m _ _ _ hm
  have k1 := h1
  have lt1 : ∀ x ∈ p1, x.block < W.heap.size := by obtain ⟨m, hm⟩ := k1; exact DataW.trod_lt m _ _ _ hm
  have k2 := h2
  have lt2 : ∀ x ∈ p2, x.block < W.heap.size := by obtain ⟨m, hm⟩ := k2; exact DataW.trod_lt m _ _ _ hm
  have k3 := h3
  have lt3 : ∀ x ∈ p3, x.block < W.heap.size := by obtain ⟨m, hm⟩ := k3; exact DataW.trod_lt m _ _ _ hm
  obtain ⟨a0, l0, c0, rfl⟩ := okWide_slice Try.underlying37 (hval 0 37 v0 rfl rfl)
  obtain ⟨x0, w0, s0⟩ := arg_one (n := 3) (fun _ => 0) rfl h0 (by kernel_rfl)
  obtain ⟨z0, e0, o0⟩ := sh_L_QuakeRow 0 _ s0
  obtain rfl := List.singleton_inj.1 e0
  obtain ⟨b1, rfl⟩ := okWide_int Try.underlying3 (hval 1 3 v1 rfl rfl)
  obtain ⟨x1, w1, s1⟩ := arg_one (n := 1) (fun _ => 0) rfl h1 (by kernel_rfl)
  obtain ⟨z1, e1, o1⟩ := shC_int (n := 0) Try.underlying3 s1
  obtain rfl := List.singleton_inj.1 e1
  obtain ⟨b2, rfl⟩ := okWide_int Try.underlying3 (hval 2 3 v2 rfl rfl)
  obtain ⟨x2, w2, s2⟩ := arg_one (n := 1) (fun _ => 0) rfl h2 (by kernel_rfl)
  obtain ⟨z2, e2, o2⟩ := shC_int (n := 0) Try.underlying3 s2
  obtain rfl := List.singleton_inj.1 e2
  obtain ⟨b3, rfl⟩ := okWide_int Try.underlying3 (hval 3 3 v3 rfl rfl)
  obtain ⟨x3, w3, s3⟩ := arg_one (n := 1) (fun _ => 0) rfl h3 (by kernel_rfl)
  obtain ⟨z3, e3, o3⟩ := shC_int (n := 0) Try.underlying3 s3
  obtain rfl := List.singleton_inj.1 e3
  clear hA0 hval0
  refine (law_walk (fun _ => 0) (fnQuakesNear_ok z0 z1 z2 z3 o0 o1 o2 o3) rfl (fun i hi => by
      match i, hi with
      | 0, _ => exact w0
      | 1, _ => exact w1
      | 2, _ => exact w2
      | 3, _ => exact w3)).mono fun e W' ⟨he, bel⟩ => ?_
  subst he
  exact ⟨_, rfl, _, _, _, [], _, [], hW', trodAll_mk1 (shut_bool Try.underlying4 _), (trodAll_cons_mk (Below.trod laidOut (by kernel_rfl) (of_decide_eq_true (by kernel_rfl)) k0 bel lt0) (trodAll_cons_mk (Below.trod laidOut (by kernel_rfl) (of_decide_eq_true (by kernel_rfl)) k1 bel lt1) (trodAll_cons_mk (Below.trod laidOut (by kernel_rfl) (of_decide_eq_true (by kernel_rfl)) k2 bel lt2) (trodAll_cons_mk (Below.trod laidOut (by kernel_rfl) (of_decide_eq_true (by kernel_rfl)) k3 bel lt3) trodAll_mk0)))), rfl, bel.frame _, fun h => by cases h⟩
theorem over : Rows.fnExactQuakesNearRow.holds Try.pinned (OpenSpec.ofChange Rows.fnExactQuakesNearSpec) :=
  OpenClaim.holds_of_wide 12 Try.f12 rfl rfl rfl rfl rfl rfl rfl ⟨rfl, rfl, rfl, rfl, rfl⟩ rfl rfl rfl rfl rfl (by kernel_rfl) Try.func12 (by kernel_rfl)
    (of_decide_eq_true (by kernel_rfl)) (by unfold Func.isWrapper; first | (rw [if_pos (by decide +kernel)]; kernel_rfl) | (rw [if_neg (by decide +kernel)]; exact ⟨rfl, rfl⟩))
    (fun os started H enc _ => lifted os started H enc)
theorem proved : Rows.FnExactQuakesNearSaid := over
end Go.Proofs.Ytnoknihkmfbdbaa.lawQuakesNear
