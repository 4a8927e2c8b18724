/-
  The law: the program answers as the reference does. Conditions: none.
-/
import Derived.Test.YtfdikfpnkgglkaaZConnectFaults5
import Derived.Test.YtfdikfpnkgglkaaZConnectFaults6
import Derived.Test.YtfdikfpnkgglkaaRows
import Derived.WalkKit
import Derived.ProofKit
import Derived.OpenShut
import Derived.ShutString
import Derived.ChangeOld
import Derived.Below
set_option linter.unusedSimpArgs false
set_option linter.unusedVariables false
section
set_option maxRecDepth 100000
namespace Go.Proofs.Ytfdikfpnkgglkaa.lawConnectFaults
open Go.ChangeShapes Go.WideShapes Go.ChangeAt Go.RowKit
open Go.ChangeMaps (open_string shut_string)
open Go.Lv
theorem laidOut : laidOutB Try.prog = true := pf1
theorem sh_Bend (n : Nat) (xs : List V) (h : ShC Try.prog (n + 2) 65 xs) : ∃ r : Bend, xs = r.cs ∧ r.ok := by
 obtain ⟨hl, hf⟩ := shC_struct Try.underlying65 h
 rw [Try.cz65] at hl
 simp only [List.mem_cons, List.not_mem_nil, or_false, forall_eq_or_imp, forall_eq, Try.cz3] at hf
 obtain ⟨h0, h1⟩ := hf
 obtain ⟨z0, e0, o0⟩ := shC_int Try.underlying3 h0
 obtain ⟨z1, e1, o1⟩ := shC_int Try.underlying3 h1
 match xs, hl with
 | [a0, a1], _ =>
   simp at e0 e1
   subst e0
   subst e1
   exact ⟨⟨z0, z1⟩, rfl, ⟨o0, o1⟩⟩
theorem sh_L_Bend (n : Nat) (xs : List V) (h : ShC Try.prog (n + 3) 32 xs) : ∃ L : List Bend, xs = [.sl L.length 2 (rows Bend.cs L)] ∧ lstR Bend.ok L :=
 shC_list Try.underlying32 Try.cz65 (fun ys hy => sh_Bend n ys hy) h
theorem sh_Fault (n : Nat) (xs : List V) (h : ShC Try.prog (n + 4) 34 xs) : ∃ r : Fault, xs = r.cs ∧ r.ok := by
 obtain ⟨hl, hf⟩ := shC_struct Try.underlying34 h
 rw [Try.cz34] at hl
 simp only [List.mem_cons, List.not_mem_nil, or_false, forall_eq_or_imp, forall_eq, Try.cz32, Try.cz3, Try.cz9] at hf
 obtain ⟨h0, h1, h2, h3⟩ := hf
 obtain ⟨z0, e0, o0⟩ := shC_int Try.underlying3 h0
 obtain ⟨z1, e1, o1⟩ := shC_str Try.underlying9 h1
 obtain ⟨z2, e2, o2⟩ := sh_L_Bend (n + 0) _ h2
 obtain ⟨z3, e3, o3⟩ := shC_int Try.underlying3 h3
 match xs, hl with
 | [a0, a1, a2, a3], _ =>
   simp at e0 e1 e2 e3
   subst e0
   subst e1
   subst e2
   subst e3
   exact ⟨⟨z0, z1, z2, z3⟩, rfl, ⟨o0, o1, o2, o3⟩⟩
theorem sh_L_Fault (n : Nat) (xs : List V) (h : ShC Try.prog (n + 5) 22 xs) : ∃ L : List Fault, xs = [.sl L.length 4 (rows Fault.cs L)] ∧ lstR Fault.ok L :=
 shC_list Try.underlying22 Try.cz34 (fun ys hy => sh_Fault n ys hy) h
theorem lifted (os : Os) (started : os.Started) (H : Type) (enc : TypeId × Value → H) :
   ReturnsInHanded {} Try.checked os 3 .any (Rows.fnExactConnectFaultsSpec.pre6 enc Try.prog Try.f3 Rows.fnExactConnectFaultsRow.domain false) (Rows.fnExactConnectFaultsSpec.post enc Try.prog Try.f3 false true false false) := by
 refine returnsInHanded_of_change (C := Try.checked) own started (by kernel_rfl) Try.func3
   (ChangeSpec.witness6 (enc := enc) (C := Try.checked) false ⟨#[], #[.slice none 0 0, .int .i64 0, .int .i64 0], []⟩ 8 (by kernel_rfl) (by kernel_rfl) (by kernel_rfl) (by kernel_rfl)) ?_
 intro W base args ds gs before hval0 hW hcnd _
 have hval : ∀ (j : Nat) t v, Try.f3.params[j]? = some t → args[j]? = some v → Value.okWide Try.prog W .any base t v := hval0
 have hW' := hW
 obtain ⟨p, q, hA0, hV, rfl, hfz, hnd⟩ := hW
 have hA : DataW.TrodAll enc Try.prog W 0 (fun _ => true) true Try.f3.params.toList args.toList ds p := hA0
 rw [Try.params3] at hA hval
 obtain ⟨v0, vs0, d0, ds0, p0, q0, hargs0, rfl, rfl, h0, r0⟩ := trodAll_cons hA
 obtain ⟨v1, vs1, d1, ds1, p1, q1, hargs1, rfl, rfl, h1, r1⟩ := trodAll_cons r0
 obtain ⟨v2, vs2, d2, ds2, p2, q2, hargs2, rfl, rfl, h2, r2⟩ := trodAll_cons r1
 obtain ⟨rfl, rfl, rfl⟩ := trodAll_nil r2
 subst hargs1
 subst hargs2
 obtain rfl : args = #[v0, v1, v2] := by cases args; simp_all
 obtain ⟨rfl, rfl⟩ := trodVars_none hV
 have k0 := h0
 have lt0 : ∀ x ∈ p0, x.block < W.heap.size := by obtain ⟨m, hm⟩ := k0; exact DataW.trod_lt m _ _ _ hm
 have k1 := h1
 have lt1 : ∀ x ∈ p1, x.block < W.heap.size := by obtain ⟨m, hm⟩ := k1; exact DataW.trod_lt m _ _ _ hm
 have k2 := h2
 have lt2 : ∀ x ∈ p2, x.block < W.heap.size := by obtain ⟨m, hm⟩ := k2; exact DataW.trod_lt m _ _ _ hm
 obtain ⟨a0, l0, c0, rfl⟩ := okWide_slice Try.underlying22 (hval 0 22 v0 rfl rfl)
 obtain ⟨x0, w0, s0⟩ := arg_one (n := 5) (fun _ => 0) rfl h0 (by kernel_rfl)
 obtain ⟨z0, e0, o0⟩ := sh_L_Fault 0 _ s0
 obtain rfl := List.singleton_inj.1 e0
 obtain ⟨b1, rfl⟩ := okWide_int Try.underlying3 (hval 1 3 v1 rfl rfl)
 obtain ⟨x1, w1, s1⟩ := arg_one (n := 1) (fun _ => 0) rfl h1 (by kernel_rfl)
 obtain ⟨z1, e1, o1⟩ := shC_int (n := 0) Try.underlying3 s1
 obtain rfl := List.singleton_inj.1 e1
 obtain ⟨b2, rfl⟩ := okWide_int Try.underlying3 (hval 2 3 v2 rfl rfl)
 obtain ⟨x2, w2, s2⟩ := arg_one (n := 1) (fun _ => 0) rfl h2 (by kernel_rfl)
 obtain ⟨z2, e2, o2⟩ := shC_int (n := 0) Try.underlying3 s2
 obtain rfl := List.singleton_inj.1 e2
 clear hA0 hval0
 refine (law_walk (fun _ => 0) (fnConnectFaults_ok z0 z1 z2 o0 o1 o2) ⟨fun p hp => by simp [tabs] at hp, fun p hp => by simp [gvars] at hp⟩ rfl (fun i hi => by
     match i, hi with
     | 0, _ => exact w0
     | 1, _ => exact w1
     | 2, _ => exact w2)).mono fun e W' ⟨he, bel⟩ => ?_
 subst he
 exact ⟨_, rfl, _, _, _, [], _, [], hW', trodAll_mk1 (shut_bool Try.underlying4 _), (trodAll_cons_mk (Below.trod laidOut (by kernel_rfl) (of_decide_eq_true (by kernel_rfl)) k0 bel lt0) (trodAll_cons_mk (Below.trod laidOut (by kernel_rfl) (of_decide_eq_true (by kernel_rfl)) k1 bel lt1) (trodAll_cons_mk (Below.trod laidOut (by kernel_rfl) (of_decide_eq_true (by kernel_rfl)) k2 bel lt2) trodAll_mk0))), rfl, bel.frame _, fun h => by cases h⟩
theorem k1 : (Rows.fnExactConnectFaultsRow.inPlace == Try.prog.inPlace 3) = true := by kernel_rfl
theorem k2 : (Rows.fnExactConnectFaultsRow.unfollowed == Try.prog.unfollowed 3) = true := by kernel_rfl
theorem k3 : (Rows.fnExactConnectFaultsRow.recurses == Try.prog.recurses 3) = true := by kernel_rfl
theorem k4 : (Rows.fnExactConnectFaultsRow.named == Try.prog.varsNamed 3) = true := by kernel_rfl
theorem k5 : namedTie Try.prog Rows.fnExactConnectFaultsRow.named Rows.fnExactConnectFaultsSpec.vars = true := by kernel_rfl
theorem k6 : Rows.fnExactConnectFaultsRow.wf (OpenSpec.ofChange Rows.fnExactConnectFaultsSpec) = true := by kernel_rfl
theorem k7 : Try.checked.prog.funcNamed Rows.fnExactConnectFaultsRow.func = some 3 := by kernel_rfl
theorem facts : joinedFacts Try.prog 3 Try.f3 Rows.fnExactConnectFaultsSpec Rows.fnExactConnectFaultsRow = true := by
 simp only [joinedFacts, Bool.and_eq_true]
 repeat' (refine And.intro ?_ ?_)
 all_goals first | with_reducible (first | exact k6 | exact pf1 | exact pf2 | exact pf3 | exact pf4 | exact pf5 | exact pf6 | exact k1 | exact k2 | exact k3 | exact k4 | exact k5) | (with_reducible show (_ == Try.prog.plainKeys) = true; exact pf7) | (with_reducible show (_ == Try.prog.liftsFinal) = true; exact pf8) | (with_reducible show (Try.prog.make == _) = true; exact pf9) | kernel_rfl
theorem over : Rows.fnExactConnectFaultsRow.holds Try.pinned (OpenSpec.ofChange Rows.fnExactConnectFaultsSpec) :=
 OpenClaim.holds_of_wide 3 Try.f3 rfl rfl rfl rfl rfl rfl rfl ⟨rfl, rfl, rfl, rfl, rfl⟩ rfl rfl rfl rfl rfl k7 Try.func3 facts
   (of_decide_eq_true (by kernel_rfl)) (by unfold Func.isWrapper; first | (rw [if_pos (by decide +kernel)]; kernel_rfl) | (rw [if_neg (by decide +kernel)]; exact ⟨rfl, rfl⟩))
   (fun os started H enc _ => lifted os started H enc)
theorem proved : Rows.FnExactConnectFaultsSaid := over
end Go.Proofs.Ytfdikfpnkgglkaa.lawConnectFaults
end
