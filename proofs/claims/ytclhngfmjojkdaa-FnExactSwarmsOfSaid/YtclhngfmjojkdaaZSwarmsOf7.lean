/-
  The law: the program answers as the reference does. Conditions: none.
-/
import Derived.Test.YtclhngfmjojkdaaZSwarmsOf6
import Derived.Test.YtclhngfmjojkdaaRows
import Derived.WalkKit
import Derived.ProofKit
import Derived.OpenShut
import Derived.ShutString
import Derived.ChangeOld
import Derived.Below
set_option linter.unusedSimpArgs false
set_option linter.unusedVariables false
section
set_option maxRecDepth 100000
namespace Go.Proofs.Ytclhngfmjojkdaa.lawSwarmsOf
open Go.ChangeShapes Go.WideShapes Go.ChangeAt Go.RowKit
open Go.ChangeMaps (open_string shut_string)
open Go.Lv
theorem laidOut : laidOutB Try.prog = true := pf1
theorem sh_WeekRow (n : Nat) (xs : List V) (h : ShC Try.prog (n + 2) 53 xs) : ∃ r : WeekRow, xs = r.cs ∧ r.ok := by
 obtain ⟨hl, hf⟩ := shC_struct Try.underlying53 h
 rw [Try.cz53] at hl
 simp only [List.mem_cons, List.not_mem_nil, or_false, forall_eq_or_imp, forall_eq, Try.cz3] at hf
 obtain ⟨h0, h1, h2, h3, h4⟩ := hf
 obtain ⟨z0, e0, o0⟩ := shC_int Try.underlying3 h0
 obtain ⟨z1, e1, o1⟩ := shC_int Try.underlying3 h1
 obtain ⟨z2, e2, o2⟩ := shC_int Try.underlying3 h2
 obtain ⟨z3, e3, o3⟩ := shC_int Try.underlying3 h3
 obtain ⟨z4, e4, o4⟩ := shC_int Try.underlying3 h4
 match xs, hl with
 | [a0, a1, a2, a3, a4], _ =>
   simp at e0 e1 e2 e3 e4
   subst e0
   subst e1
   subst e2
   subst e3
   subst e4
   exact ⟨⟨z0, z1, z2, z3, z4⟩, rfl, ⟨o0, o1, o2, o3, o4⟩⟩
theorem sh_L_WeekRow (n : Nat) (xs : List V) (h : ShC Try.prog (n + 3) 22 xs) : ∃ L : List WeekRow, xs = [.sl L.length 5 (rows WeekRow.cs L)] ∧ lstR WeekRow.ok L :=
 shC_list Try.underlying22 Try.cz53 (fun ys hy => sh_WeekRow n ys hy) h
theorem lifted (os : Os) (started : os.Started) (H : Type) (enc : TypeId × Value → H) :
   ReturnsInHanded {} Try.checked os 3 .any (Rows.fnExactSwarmsOfSpec.pre6 enc Try.prog Try.f3 Rows.fnExactSwarmsOfRow.domain false) (Rows.fnExactSwarmsOfSpec.post enc Try.prog Try.f3 false true false false) := by
 refine returnsInHanded_of_change (C := Try.checked) own started (by kernel_rfl) Try.func3
   (ChangeSpec.witness6 (enc := enc) (C := Try.checked) false ⟨#[], #[.slice none 0 0, .int .i64 0], []⟩ 8 (by kernel_rfl) (by kernel_rfl) (by kernel_rfl) (by kernel_rfl)) ?_
 intro W base args ds gs before hval0 hW hcnd _
 have hval : ∀ (j : Nat) t v, Try.f3.params[j]? = some t → args[j]? = some v → Value.okWide Try.prog W .any base t v := hval0
 have hW' := hW
 obtain ⟨p, q, hA0, hV, rfl, hfz, hnd⟩ := hW
 have hA : DataW.TrodAll enc Try.prog W 0 (fun _ => true) true Try.f3.params.toList args.toList ds p := hA0
 rw [Try.params3] at hA hval
 obtain ⟨v0, vs0, d0, ds0, p0, q0, hargs0, rfl, rfl, h0, r0⟩ := trodAll_cons hA
 obtain ⟨v1, vs1, d1, ds1, p1, q1, hargs1, rfl, rfl, h1, r1⟩ := trodAll_cons r0
 obtain ⟨rfl, rfl, rfl⟩ := trodAll_nil r1
 subst hargs1
 obtain rfl : args = #[v0, v1] := by cases args; simp_all
 obtain ⟨rfl, rfl⟩ := trodVars_none hV
 have k0 := h0
 have lt0 : ∀ x ∈ p0, x.block < W.heap.size := by obtain ⟨m, hm⟩ := k0; exact DataW.trod_lt m _ _ _ hm
 have k1 := h1
 have lt1 : ∀ x ∈ p1, x.block < W.heap.size := by obtain ⟨m, hm⟩ := k1; exact DataW.trod_lt m _ _ _ hm
 obtain ⟨a0, l0, c0, rfl⟩ := okWide_slice Try.underlying22 (hval 0 22 v0 rfl rfl)
 obtain ⟨x0, w0, s0⟩ := arg_one (n := 3) (fun _ => 0) rfl h0 (by kernel_rfl)
 obtain ⟨z0, e0, o0⟩ := sh_L_WeekRow 0 _ s0
 obtain rfl := List.singleton_inj.1 e0
 obtain ⟨b1, rfl⟩ := okWide_int Try.underlying3 (hval 1 3 v1 rfl rfl)
 obtain ⟨x1, w1, s1⟩ := arg_one (n := 1) (fun _ => 0) rfl h1 (by kernel_rfl)
 obtain ⟨z1, e1, o1⟩ := shC_int (n := 0) Try.underlying3 s1
 obtain rfl := List.singleton_inj.1 e1
 clear hA0 hval0
 refine (law_walk (fun _ => 0) (fnSwarmsOf_ok z0 z1 o0 o1) (fun p hp => by simp [tabs] at hp) rfl (fun i hi => by
     match i, hi with
     | 0, _ => exact w0
     | 1, _ => exact w1)).mono fun e W' ⟨he, bel⟩ => ?_
 subst he
 exact ⟨_, rfl, _, _, _, [], _, [], hW', trodAll_mk1 (shut_bool Try.underlying4 _), (trodAll_cons_mk (Below.trod laidOut (by kernel_rfl) (of_decide_eq_true (by kernel_rfl)) k0 bel lt0) (trodAll_cons_mk (Below.trod laidOut (by kernel_rfl) (of_decide_eq_true (by kernel_rfl)) k1 bel lt1) trodAll_mk0)), rfl, bel.frame _, fun h => by cases h⟩
theorem k1 : (Rows.fnExactSwarmsOfRow.inPlace == Try.prog.inPlace 3) = true := by kernel_rfl
theorem k2 : (Rows.fnExactSwarmsOfRow.unfollowed == Try.prog.unfollowed 3) = true := by kernel_rfl
theorem k3 : (Rows.fnExactSwarmsOfRow.recurses == Try.prog.recurses 3) = true := by kernel_rfl
theorem k4 : (Rows.fnExactSwarmsOfRow.named == Try.prog.varsNamed 3) = true := by kernel_rfl
theorem k5 : namedTie Try.prog Rows.fnExactSwarmsOfRow.named Rows.fnExactSwarmsOfSpec.vars = true := by kernel_rfl
theorem k6 : Rows.fnExactSwarmsOfRow.wf (OpenSpec.ofChange Rows.fnExactSwarmsOfSpec) = true := by kernel_rfl
theorem k7 : Try.checked.prog.funcNamed Rows.fnExactSwarmsOfRow.func = some 3 := by kernel_rfl
theorem facts : joinedFacts Try.prog 3 Try.f3 Rows.fnExactSwarmsOfSpec Rows.fnExactSwarmsOfRow = true := by
 simp only [joinedFacts, Bool.and_eq_true]
 repeat' (refine And.intro ?_ ?_)
 all_goals first | with_reducible (first | exact k6 | exact pf1 | exact pf2 | exact pf3 | exact pf4 | exact pf5 | exact pf6 | exact k1 | exact k2 | exact k3 | exact k4 | exact k5) | (with_reducible show (_ == Try.prog.plainKeys) = true; exact pf7) | (with_reducible show (_ == Try.prog.liftsFinal) = true; exact pf8) | (with_reducible show (Try.prog.make == _) = true; exact pf9) | kernel_rfl
theorem over : Rows.fnExactSwarmsOfRow.holds Try.pinned (OpenSpec.ofChange Rows.fnExactSwarmsOfSpec) :=
 OpenClaim.holds_of_wide 3 Try.f3 rfl rfl rfl rfl rfl rfl rfl ⟨rfl, rfl, rfl, rfl, rfl⟩ rfl rfl rfl rfl rfl k7 Try.func3 facts
   (of_decide_eq_true (by kernel_rfl)) (by unfold Func.isWrapper; first | (rw [if_pos (by decide +kernel)]; kernel_rfl) | (rw [if_neg (by decide +kernel)]; exact ⟨rfl, rfl⟩))
   (fun os started H enc _ => lifted os started H enc)
theorem proved : Rows.FnExactSwarmsOfSaid := over
end Go.Proofs.Ytclhngfmjojkdaa.lawSwarmsOf
end
