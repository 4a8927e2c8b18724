/-
  The law: the program answers as the reference does. Conditions: none.
-/
import Derived.Test.YtfdikfpnkgglkaaDoorZParseQuake6
import Derived.Test.YtfdikfpnkgglkaaDoorZParseQuake8
import Derived.Test.YtfdikfpnkgglkaaDoorZParseQuake9
import Derived.Test.YtfdikfpnkgglkaaDoorZParseQuake10
import Derived.Test.YtfdikfpnkgglkaaDoorRows
import Derived.WalkKit
import Derived.ProofKit
import Derived.OpenShut
import Derived.ShutString
import Derived.ChangeOld
import Derived.Below
import Derived.LaidMore
import Derived.SevenTiedAt
import Derived.Stop.Joined
import Derived.Stop.LaidErr
import Derived.Lib.LaidTab
import Derived.Test.YtfdikfpnkgglkaaDoorTie
import Derived.Test.YtfdikfpnkgglkaaDoorCards
set_option linter.unusedSimpArgs false
set_option linter.unusedVariables false
section
set_option maxRecDepth 100000
namespace Go.Proofs.YtfdikfpnkgglkaaDoor.lawParseQuake
open Go.ChangeShapes Go.WideShapes Go.ChangeAt Go.RowKit
open Go.ChangeMaps (open_string shut_string)
open Go.Lv
theorem laidOut : laidOutB Tryd.prog = true := pf1
theorem of_laid {W : World} (h : laidMet Tryd.prog Rows.fnExactParseQuakeRow.laid W) : Lib.TabIs Tryd.prog W "internal/strconv.uint64pow10" .u64 Lib.pow10Tab := by
 exact Lib.tabIs_of_head (g := 5) (t := 101) (e := 83) (n := 20) (by kernel_rfl) (by kernel_rfl) Tryd.underlying101 Tryd.underlying83 (by kernel_rfl) (by kernel_rfl) (laidMet.tail (laidMet.tail h))
theorem gl_of_z {W : World} (h : laidMet Tryd.prog Rows.fnExactParseQuakeRow.laid W) (hsh : W.ShapedOpen Tryd.prog) : GL W (fun _ => False) := by
 have t4 := laidMet.tail (laidMet.tail (laidMet.tail (laidMet.tail h)))
 first | exact gl_of_great (of_laid h) (laidMet.tail t4) t4 hsh | exact gl_of_great (of_laid h) t4 (laidMet.tail t4) hsh | exact gl_of_great (of_laid h) (laidMet.tail t4) (laidMet.tail (laidMet.tail t4)) hsh
theorem lifted (os : Os) (started : os.Started) (H : Type) (enc : TypeId × Value → H) :
   ReturnsInHanded {} Tryd.checked os 3 .any (fun w args => (Rows.fnExactParseQuakeSpec.pre enc Tryd.prog Tryd.f3 [] false w args ∧ laidMetH Tryd.prog Rows.fnExactParseQuakeRow.laid w) ∧ sizedMet enc Tryd.prog Tryd.f3 (OpenSpec.ofChange Rows.fnExactParseQuakeSpec) false w args) (Rows.fnExactParseQuakeSpec.post enc Tryd.prog Tryd.f3 false true false false) := by
 refine ret_and_shaped (C := Tryd.checked) (X := fun w _ => laidMetH Tryd.prog Rows.fnExactParseQuakeRow.laid w) (fun _ _ _ hh h => h.of_heap hh) own started (by kernel_rfl) Tryd.func3
   (ChangeSpec.witness_shaped (enc := enc) (C := Tryd.checked) (os := os) (X := fun w _ => laidMetH Tryd.prog Rows.fnExactParseQuakeRow.laid w) false (World.laidAll Tryd.prog os Rows.fnExactParseQuakeRow.laid) #[.string ByteArray.empty] 8 (World.laidAll_os _ _ _) (World.shaped_of_ZipB (by kernel_rfl) (by kernel_rfl)) (by kernel_rfl) (by kernel_rfl) (by kernel_rfl) (by rw [MakeChecks.laidMetH_plain _ _ _ (by kernel_rfl)]; exact laidMet_laidAll _ (by kernel_rfl) (by kernel_rfl))) ?_
 intro W base args ds gs before hval0 hW hcnd _ hL hsh _
 rw [MakeChecks.laidMetH_plain _ _ _ (by kernel_rfl)] at hL
 have hgl : GL W (fun _ => False) := gl_of_z hL hsh
 have hval : ∀ (j : Nat) t v, Tryd.f3.params[j]? = some t → args[j]? = some v → Value.okWide Tryd.prog W .any base t v := hval0
 have hW' := hW
 obtain ⟨p, q, hA0, hV, rfl, hfz, hnd⟩ := hW
 have hA : DataW.TrodAll enc Tryd.prog W 0 (fun _ => true) true Tryd.f3.params.toList args.toList ds p := hA0
 rw [Tryd.params3] at hA hval
 obtain ⟨v0, vs0, d0, ds0, p0, q0, hargs0, rfl, rfl, h0, r0⟩ := trodAll_cons hA
 obtain ⟨rfl, rfl, rfl⟩ := trodAll_nil r0
 obtain rfl : args = #[v0] := by cases args; simp_all
 obtain ⟨rfl, rfl⟩ := trodVars_none hV
 have k0 := h0
 have lt0 : ∀ x ∈ p0, x.block < W.heap.size := by obtain ⟨m, hm⟩ := k0; exact DataW.trod_lt m _ _ _ hm
 obtain ⟨b0, rfl⟩ := okWide_string Tryd.underlying9 (hval 0 9 v0 rfl rfl)
 obtain ⟨x0, w0, s0⟩ := arg_one (n := 1) (fun _ => 0) rfl h0 (by kernel_rfl)
 obtain ⟨z0, e0, o0⟩ := shC_str (n := 0) Tryd.underlying9 s0
 obtain rfl := List.singleton_inj.1 e0
 clear hA0 hval0
 refine (law_walk (fun _ => 0) (fnParseQuake_ok z0 o0) hgl rfl (fun i hi => by
     match i, hi with
     | 0, _ => exact w0)).mono fun e W' ⟨he, bel⟩ => ?_
 subst he
 exact ⟨_, rfl, _, _, _, [], _, [], hW', trodAll_mk1 (shut_bool Tryd.underlying4 _), (trodAll_cons_mk (Below.trod laidOut (by kernel_rfl) (of_decide_eq_true (by kernel_rfl)) k0 bel lt0) trodAll_mk0), rfl, bel.frame _, fun h => by cases h⟩
theorem k1 : (Rows.fnExactParseQuakeRow.inPlace == Tryd.prog.inPlace 3) = true := by kernel_rfl
theorem k2 : (Rows.fnExactParseQuakeRow.unfollowed == Tryd.prog.unfollowed 3) = true := by kernel_rfl
theorem k3 : (Rows.fnExactParseQuakeRow.recurses == Tryd.prog.recurses 3) = true := by kernel_rfl
theorem k4 : (Rows.fnExactParseQuakeRow.named == Tryd.prog.varsNamed 3) = true := by kernel_rfl
theorem k5 : namedTie Tryd.prog Rows.fnExactParseQuakeRow.named Rows.fnExactParseQuakeSpec.vars = true := by kernel_rfl
theorem k6 : Rows.fnExactParseQuakeRow.wf (OpenSpec.ofChange Rows.fnExactParseQuakeSpec) = true := by kernel_rfl
theorem k7 : Tryd.checked.prog.funcNamed Rows.fnExactParseQuakeRow.func = some 3 := by kernel_rfl
theorem facts : joinedFacts Tryd.prog 3 Tryd.f3 Rows.fnExactParseQuakeSpec Rows.fnExactParseQuakeRow = true := by
 simp only [joinedFacts, Bool.and_eq_true]
 repeat' (refine And.intro ?_ ?_)
 all_goals first | with_reducible (first | exact k6 | exact pf1 | exact pf2 | exact pf3 | exact pf4 | exact pf5 | exact pf6 | exact k1 | exact k2 | exact k3 | exact k4 | exact k5) | (with_reducible show (_ == Tryd.prog.plainKeys) = true; exact pf7) | (with_reducible show (_ == Tryd.prog.liftsFinal) = true; exact pf8) | (with_reducible show (Tryd.prog.make == _) = true; exact pf9) | kernel_rfl
theorem over : Rows.fnExactParseQuakeRow.holds Tryd.pinned (OpenSpec.ofChange Rows.fnExactParseQuakeSpec) :=
 OpenClaim.holds_of_wide 3 Tryd.f3 rfl rfl rfl rfl rfl rfl rfl ⟨rfl, rfl, rfl, rfl, rfl⟩ rfl rfl rfl rfl rfl k7 Tryd.func3 facts
   (of_decide_eq_true (by kernel_rfl)) (by unfold Func.isWrapper; first | (rw [if_pos (by decide +kernel)]; kernel_rfl) | (rw [if_neg (by decide +kernel)]; exact ⟨rfl, rfl⟩))
   (fun os started H enc _ => lifted os started H enc)
theorem proved : Rows.FnExactParseQuakeCardSaid :=
 Claim7.holds_tied_plain_at .later [] [.data, .data, .data, .data, .sentinel, .sentinel, .pinned] true Rows.fnExactParseQuakeCard.stood.harness Rows.fnExactParseQuakeCard.stood.looks
   over (fun _ h => by cases h) (by kernel_rfl) (fun _ h => by cases h) fnExactParseQuake_row_tie rfl ⟨rfl, rfl⟩ (by kernel_rfl) rfl
   (fun f fn hf hfn => by
     obtain rfl : f = 3 := Option.some.inj (k7.symm.trans hf) |>.symm
     obtain rfl : fn = Tryd.f3 := (Option.some.inj (Tryd.func3.symm.trans hfn)).symm
     exact ⟨by kernel_rfl, fun j t ht => by
       rw [Tryd.params3] at ht
       have hm : t ∈ [9] := by simpa using Array.mem_of_getElem? ht
       have hall : ([9].all fun u => !Tryd.prog.wantsStandIn u) = true := by kernel_rfl
       exact (show Tryd.prog.wantsStandIn t = false by simpa using List.all_eq_true.1 hall t hm)⟩)
   (by kernel_rfl)
end Go.Proofs.YtfdikfpnkgglkaaDoor.lawParseQuake
end
