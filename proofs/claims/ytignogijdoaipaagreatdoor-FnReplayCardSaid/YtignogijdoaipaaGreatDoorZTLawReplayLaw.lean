/-
  The law: the program answers as the reference does. Conditions: none.
-/
import Derived.Test.YtignogijdoaipaaGreatDoorZT7
import Derived.Test.YtignogijdoaipaaGreatDoorZT9
import Derived.Test.YtignogijdoaipaaGreatDoorZT10
import Derived.Test.YtignogijdoaipaaGreatDoorZT11
import Derived.Test.YtignogijdoaipaaGreatDoorRows
import Derived.WalkKit
import Derived.ProofKit
import Derived.OpenShut
import Derived.ShutString
import Derived.ChangeOld
import Derived.Below
import Derived.LaidMore
import Derived.SevenTiedAt
import Derived.Stop.Joined
import Derived.Stop.LaidErr
import Derived.Lib.LaidTab
import Derived.Test.YtignogijdoaipaaGreatDoorTie
import Derived.Test.YtignogijdoaipaaGreatDoorCards
set_option linter.unusedSimpArgs false
set_option linter.unusedVariables false
section
set_option maxRecDepth 100000
namespace Go.Proofs.YtignogijdoaipaaGreatDoor.lawReplayLaw
open Go.ChangeShapes Go.WideShapes Go.ChangeAt Go.RowKit
open Go.ChangeMaps (open_string shut_string)
open Go.Lv
theorem laidOut : laidOutB Tryz.prog = true := pf1
theorem aic {W : World} (h : laidMet Tryz.prog Rows.fnReplayRow.laid W) : Lib.TabIs Tryz.prog W "internal/strconv.uint64pow10" .u64 Lib.pow10Tab := by
 exact Lib.tabIs_of_head (g := 5) (t := 224) (e := 59) (n := 20) (by kernel_rfl) (by kernel_rfl) Tryz.underlying224 Tryz.underlying59 (by kernel_rfl) (by kernel_rfl) (laidMet.tail (laidMet.tail h))
theorem au9 {W : World} (h : laidMet Tryz.prog Rows.fnReplayRow.laid W) (hsh : W.ShapedOpen Tryz.prog) : GL W (fun _ => False) := by
 have t4 := laidMet.tail (laidMet.tail (laidMet.tail (laidMet.tail h)))
 first | exact wo (aic h) (laidMet.tail t4) t4 hsh | exact wo (aic h) t4 (laidMet.tail t4) hsh | exact wo (aic h) (laidMet.tail t4) (laidMet.tail (laidMet.tail t4)) hsh
theorem aoo (n : Nat) (xs : List V) (h : ShC Tryz.prog (n + 2) 22 xs) : ∃ L : List Int, xs = [.sl L.length 1 (rows ByteS.cs L)] ∧ afz ByteS.ok L :=
 ate Tryz.underlying22 Tryz.cz5 (fun ys hy => a0p Tryz.underlying5 hy) h
theorem lifted (os : Os) (started : os.Started) (H : Type) (enc : TypeId × Value → H) :
 ReturnsInHanded {} Tryz.checked os 5 .any (fun w args => (Rows.fnReplaySpec.pre enc Tryz.prog Tryz.f5 [] false w args ∧ laidMetH Tryz.prog Rows.fnReplayRow.laid w) ∧ sizedMet enc Tryz.prog Tryz.f5 (OpenSpec.ofChange Rows.fnReplaySpec) false w args) (Rows.fnReplaySpec.post enc Tryz.prog Tryz.f5 false true false false) := by
 refine ae4 (C := Tryz.checked) (X := fun w _ => laidMetH Tryz.prog Rows.fnReplayRow.laid w) (fun _ _ _ hh h => h.of_heap hh) own started (by kernel_rfl) Tryz.func5
  (ChangeSpec.witness_shaped (enc := enc) (C := Tryz.checked) (os := os) (X := fun w _ => laidMetH Tryz.prog Rows.fnReplayRow.laid w) false (World.laidAll Tryz.prog os Rows.fnReplayRow.laid) #[.slice none 0 0] 8 (World.laidAll_os _ _ _) (World.shaped_of_ZipB (by kernel_rfl) (by kernel_rfl)) (by kernel_rfl) (by kernel_rfl) (by kernel_rfl) (by rw [MakeChecks.laidMetH_plain _ _ _ (by kernel_rfl)]; exact laidMet_laidAll _ (by kernel_rfl) (by kernel_rfl))) ?_
 intro W base args ds gs before hval0 hW hcnd _ hL hsh _
 rw [MakeChecks.laidMetH_plain _ _ _ (by kernel_rfl)] at hL
 have hgl : GL W (fun _ => False) := au9 hL hsh
 have hval : ∀ (j : Nat) t v, Tryz.f5.params[j]? = some t → args[j]? = some v → Value.okWide Tryz.prog W .any base t v := hval0
 have hW' := hW
 obtain ⟨p, q, hA0, hV, rfl, hfz, hnd⟩ := hW
 have hA : DataW.TrodAll enc Tryz.prog W 0 (fun _ => true) true Tryz.f5.params.toList args.toList ds p := hA0
 rw [Tryz.params5] at hA hval
 obtain ⟨v0, vs0, d0, ds0, p0, q0, hargs0, rfl, rfl, h0, r0⟩ := trodAll_cons hA
 obtain ⟨rfl, rfl, rfl⟩ := trodAll_nil r0
 obtain rfl : args = #[v0] := by cases args; simp_all
 obtain ⟨rfl, rfl⟩ := trodVars_none hV
 have k0 := h0
 have lt0 : ∀ x ∈ p0, x.block < W.heap.size := by obtain ⟨m, hm⟩ := k0; exact DataW.trod_lt m _ _ _ hm
 obtain ⟨a0, l0, c0, rfl⟩ := okWide_slice Tryz.underlying22 (hval 0 22 v0 rfl rfl)
 obtain ⟨x0, w0, s0⟩ := aun (n := 2) (fun _ => 0) rfl h0 (by kernel_rfl)
 obtain ⟨z0, e0, o0⟩ := aoo 0 _ s0
 obtain rfl := List.singleton_inj.1 e0
 clear hA0 hval0
 refine (law_walk (fun _ => 0) (aei z0 o0) hgl rfl (fun i hi => by
  match i, hi with
  | 0, _ => exact w0)).mono fun e W' ⟨he, bel⟩ => ?_
 subst he
 exact ⟨_, rfl, _, _, _, [], _, [], hW', trodAll_mk1 (shut_bool Tryz.underlying4 _), (trodAll_cons_mk (Below.trod laidOut (by kernel_rfl) (of_decide_eq_true (by kernel_rfl)) k0 bel lt0) trodAll_mk0), rfl, bel.frame _, fun h => by cases h⟩
theorem k1 : (Rows.fnReplayRow.inPlace == Tryz.prog.inPlace 5) = true := by kernel_rfl
theorem k2 : (Rows.fnReplayRow.unfollowed == Tryz.prog.unfollowed 5) = true := by kernel_rfl
theorem k3 : (Rows.fnReplayRow.recurses == Tryz.prog.recurses 5) = true := by kernel_rfl
theorem k4 : (Rows.fnReplayRow.named == Tryz.prog.varsNamed 5) = true := by kernel_rfl
theorem k5 : namedTie Tryz.prog Rows.fnReplayRow.named Rows.fnReplaySpec.vars = true := by kernel_rfl
theorem k6 : Rows.fnReplayRow.wf (OpenSpec.ofChange Rows.fnReplaySpec) = true := by kernel_rfl
theorem k7 : Tryz.checked.prog.funcNamed Rows.fnReplayRow.func = some 5 := by kernel_rfl
theorem facts : joinedFacts Tryz.prog 5 Tryz.f5 Rows.fnReplaySpec Rows.fnReplayRow = true := by
 simp only [joinedFacts, Bool.and_eq_true]
 repeat' (refine And.intro ?_ ?_)
 all_goals first | with_reducible (first | exact k6 | exact pf1 | exact pf2 | exact pf3 | exact pf4 | exact pf5 | exact pf6 | exact k1 | exact k2 | exact k3 | exact k4 | exact k5) | (with_reducible show (_ == Tryz.prog.plainKeys) = true; exact pf7) | (with_reducible show (_ == Tryz.prog.liftsFinal) = true; exact pf8) | (with_reducible show (Tryz.prog.make == _) = true; exact pf9) | kernel_rfl
theorem over : Rows.fnReplayRow.holds Tryz.pinned (OpenSpec.ofChange Rows.fnReplaySpec) :=
 OpenClaim.holds_of_wide 5 Tryz.f5 rfl rfl rfl rfl rfl rfl rfl ⟨rfl, rfl, rfl, rfl, rfl⟩ rfl rfl rfl rfl rfl k7 Tryz.func5 facts
  (of_decide_eq_true (by kernel_rfl)) (by unfold Func.isWrapper; first | (rw [if_pos (by decide +kernel)]; kernel_rfl) | (rw [if_neg (by decide +kernel)]; exact ⟨rfl, rfl⟩))
  (fun os started H enc _ => lifted os started H enc)
theorem proved : Rows.FnReplayCardSaid :=
 Claim7.holds_tied_plain_at .later [] [.data, .data, .data, .data, .sentinel, .sentinel, .pinned] true Rows.fnReplayCard.stood.harness Rows.fnReplayCard.stood.looks
  over (fun _ h => by cases h) (by kernel_rfl) (fun _ h => by cases h) fnReplay_row_tie rfl ⟨rfl, rfl⟩ (by kernel_rfl) rfl
  (fun f fn hf hfn => by
   obtain rfl : f = 5 := Option.some.inj (k7.symm.trans hf) |>.symm
   obtain rfl : fn = Tryz.f5 := (Option.some.inj (Tryz.func5.symm.trans hfn)).symm
   exact ⟨by kernel_rfl, fun j t ht => by
    rw [Tryz.params5] at ht
    have hm : t ∈ [22] := by simpa using Array.mem_of_getElem? ht
    have hall : ([22].all fun u => !Tryz.prog.wantsStandIn u) = true := by kernel_rfl
    exact (show Tryz.prog.wantsStandIn t = false by simpa using List.all_eq_true.1 hall t hm)⟩)
  (by kernel_rfl)
end Go.Proofs.YtignogijdoaipaaGreatDoor.lawReplayLaw
end
