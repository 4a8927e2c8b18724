/-
  The law: the program answers as the reference does. Conditions: none.
-/
import Derived.Test.YtajpdjhjahobnaaZFaultsLaw6
import Derived.Test.YtajpdjhjahobnaaRows
import Derived.WalkKit
import Derived.ProofKit
import Derived.OpenShut
import Derived.ShutString
import Derived.ChangeOld
import Derived.Below
set_option linter.unusedSimpArgs false
set_option linter.unusedVariables false
section
set_option maxRecDepth 100000
namespace Go.Proofs.Ytajpdjhjahobnaa.lawFaultsLaw
open Go.ChangeShapes Go.WideShapes Go.ChangeAt Go.RowKit
open Go.ChangeMaps (open_string shut_string)
open Go.Lv
theorem laidOut : laidOutB Try.prog = true := pf1
theorem sh_L_byte (n : Nat) (xs : List V) (h : ShC Try.prog (n + 2) 31 xs) : ∃ L : List Int, xs = [.sl L.length 1 (rows ByteS.cs L)] ∧ lstR ByteS.ok L :=
 shC_list Try.underlying31 Try.cz5 (fun ys hy => shC_u8 Try.underlying5 hy) h
theorem lifted (os : Os) (started : os.Started) (H : Type) (enc : TypeId × Value → H) :
   ReturnsInHanded {} Try.checked os 4 .any (Rows.fnFaultsSpec.pre6 enc Try.prog Try.f4 Rows.fnFaultsRow.domain false) (Rows.fnFaultsSpec.post enc Try.prog Try.f4 false true false false) := by
 refine returnsInHanded_of_change (C := Try.checked) own started (by kernel_rfl) Try.func4
   (ChangeSpec.witness6 (enc := enc) (C := Try.checked) false ⟨#[], #[.slice none 0 0], []⟩ 8 (by kernel_rfl) (by kernel_rfl) (by kernel_rfl) (by kernel_rfl)) ?_
 intro W base args ds gs before hval0 hW hcnd _
 have hval : ∀ (j : Nat) t v, Try.f4.params[j]? = some t → args[j]? = some v → Value.okWide Try.prog W .any base t v := hval0
 have hW' := hW
 obtain ⟨p, q, hA0, hV, rfl, hfz, hnd⟩ := hW
 have hA : DataW.TrodAll enc Try.prog W 0 (fun _ => true) true Try.f4.params.toList args.toList ds p := hA0
 rw [Try.params4] at hA hval
 obtain ⟨v0, vs0, d0, ds0, p0, q0, hargs0, rfl, rfl, h0, r0⟩ := trodAll_cons hA
 obtain ⟨rfl, rfl, rfl⟩ := trodAll_nil r0
 obtain rfl : args = #[v0] := by cases args; simp_all
 obtain ⟨rfl, rfl⟩ := trodVars_none hV
 have k0 := h0
 have lt0 : ∀ x ∈ p0, x.block < W.heap.size := by obtain ⟨m, hm⟩ := k0; exact DataW.trod_lt m _ _ _ hm
 obtain ⟨a0, l0, c0, rfl⟩ := okWide_slice Try.underlying31 (hval 0 31 v0 rfl rfl)
 obtain ⟨x0, w0, s0⟩ := arg_one (n := 2) (fun _ => 0) rfl h0 (by kernel_rfl)
 obtain ⟨z0, e0, o0⟩ := sh_L_byte 0 _ s0
 obtain rfl := List.singleton_inj.1 e0
 clear hA0 hval0
 refine (law_walk (fun _ => 0) (fnFaultsLaw_ok z0 o0) (fun p hp => by simp [tabs] at hp) rfl (fun i hi => by
     match i, hi with
     | 0, _ => exact w0)).mono fun e W' ⟨he, bel⟩ => ?_
 subst he
 exact ⟨_, rfl, _, _, _, [], _, [], hW', trodAll_mk1 (shut_bool Try.underlying4 _), (trodAll_cons_mk (Below.trod laidOut (by kernel_rfl) (of_decide_eq_true (by kernel_rfl)) k0 bel lt0) trodAll_mk0), rfl, bel.frame _, fun h => by cases h⟩
theorem k1 : (Rows.fnFaultsRow.inPlace == Try.prog.inPlace 4) = true := by kernel_rfl
theorem k2 : (Rows.fnFaultsRow.unfollowed == Try.prog.unfollowed 4) = true := by kernel_rfl
theorem k3 : (Rows.fnFaultsRow.recurses == Try.prog.recurses 4) = true := by kernel_rfl
theorem k4 : (Rows.fnFaultsRow.named == Try.prog.varsNamed 4) = true := by kernel_rfl
theorem k5 : namedTie Try.prog Rows.fnFaultsRow.named Rows.fnFaultsSpec.vars = true := by kernel_rfl
theorem k6 : Rows.fnFaultsRow.wf (OpenSpec.ofChange Rows.fnFaultsSpec) = true := by kernel_rfl
theorem k7 : Try.checked.prog.funcNamed Rows.fnFaultsRow.func = some 4 := by kernel_rfl
theorem facts : joinedFacts Try.prog 4 Try.f4 Rows.fnFaultsSpec Rows.fnFaultsRow = true := by
 simp only [joinedFacts, Bool.and_eq_true]
 repeat' (refine And.intro ?_ ?_)
 all_goals first | with_reducible (first | exact k6 | exact pf1 | exact pf2 | exact pf3 | exact pf4 | exact pf5 | exact pf6 | exact k1 | exact k2 | exact k3 | exact k4 | exact k5) | (with_reducible show (_ == Try.prog.plainKeys) = true; exact pf7) | (with_reducible show (_ == Try.prog.liftsFinal) = true; exact pf8) | (with_reducible show (Try.prog.make == _) = true; exact pf9) | kernel_rfl
theorem over : Rows.fnFaultsRow.holds Try.pinned (OpenSpec.ofChange Rows.fnFaultsSpec) :=
 OpenClaim.holds_of_wide 4 Try.f4 rfl rfl rfl rfl rfl rfl rfl ⟨rfl, rfl, rfl, rfl, rfl⟩ rfl rfl rfl rfl rfl k7 Try.func4 facts
   (of_decide_eq_true (by kernel_rfl)) (by unfold Func.isWrapper; first | (rw [if_pos (by decide +kernel)]; kernel_rfl) | (rw [if_neg (by decide +kernel)]; exact ⟨rfl, rfl⟩))
   (fun os started H enc _ => lifted os started H enc)
theorem proved : Rows.FnFaultsSaid := over
end Go.Proofs.Ytajpdjhjahobnaa.lawFaultsLaw
end
