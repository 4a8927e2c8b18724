/-
  The law: the program answers as the reference does. Conditions: none.
-/
import Derived.Test.YtgnnoacaghelhaaDoorZShocksLaw10
import Derived.Test.YtgnnoacaghelhaaDoorRows
import Derived.WalkKit
import Derived.ProofKit
import Derived.OpenShut
import Derived.ShutString
import Derived.ChangeOld
import Derived.Below
import Derived.LaidMore
import Derived.SevenTiedAt
import Derived.Stop.Joined
import Derived.Stop.LaidErr
import Derived.Lib.LaidTab
import Derived.Test.YtgnnoacaghelhaaDoorTie
import Derived.Test.YtgnnoacaghelhaaDoorCards
set_option linter.unusedSimpArgs false
set_option linter.unusedVariables false
section
set_option maxRecDepth 100000
namespace Go.Proofs.YtgnnoacaghelhaaDoor.lawShocksLaw
open Go.ChangeShapes Go.WideShapes Go.ChangeAt Go.RowKit
open Go.ChangeMaps (open_string shut_string)
open Go.Lv
theorem laidOut : laidOutB Tryd.prog = true := pf1
theorem door_met (os : Os) (args : Array Value) : laidMetH Tryd.prog Rows.fnShocksRow.laid ((World.doorLaid Tryd.prog 400 os).forCall (fun _ _ => 0) ⟨#[], args, []⟩).memory :=
 laidMetH_of_parts3 (fuel := 8) (laidMet_of_run' 8 (by kernel_rfl) (by kernel_rfl)) (by kernel_rfl) (by kernel_rfl)
theorem of_laid {W : World} (h : laidMetH Tryd.prog Rows.fnShocksRow.laid W) : Lib.TabIs Tryd.prog W "internal/strconv.uint64pow10" .u64 Lib.pow10Tab := by
 rw [MakeChecks.laidMetH_plain _ _ _ (by kernel_rfl)] at h
 exact Lib.tabIs_of_head (g := 5) (t := 252) (e := 88) (n := 20) (by kernel_rfl) (by kernel_rfl) Tryd.underlying252 Tryd.underlying88 (by kernel_rfl) (by kernel_rfl) (laidMet.tail (laidMet.tail h))
theorem sh_L_byte (n : Nat) (xs : List V) (h : ShC Tryd.prog (n + 2) 22 xs) : ∃ L : List Int, xs = [.sl L.length 1 (rows ByteS.cs L)] ∧ lstR ByteS.ok L :=
 shC_list Tryd.underlying22 Tryd.cz5 (fun ys hy => shC_u8 Tryd.underlying5 hy) h
theorem lifted (os : Os) (started : os.Started) (H : Type) (enc : TypeId × Value → H) :
   ReturnsInHanded {} Tryd.checked os 4 .any (fun w args => (Rows.fnShocksSpec.pre enc Tryd.prog Tryd.f4 [] false w args ∧ laidMetH Tryd.prog Rows.fnShocksRow.laid w) ∧ sizedMet enc Tryd.prog Tryd.f4 (OpenSpec.ofChange Rows.fnShocksSpec) false w args) (Rows.fnShocksSpec.post enc Tryd.prog Tryd.f4 false true false false) := by
 refine returnsInHanded_of_change_and (C := Tryd.checked) (X := fun w _ => laidMetH Tryd.prog Rows.fnShocksRow.laid w) (fun _ _ _ hh h => h.of_heap hh) own started (by kernel_rfl) Tryd.func4
   (ChangeSpec.witness_shaped (enc := enc) (C := Tryd.checked) (os := os) (X := fun w _ => laidMetH Tryd.prog Rows.fnShocksRow.laid w) false (World.doorLaid Tryd.prog 400 os) #[.slice none 0 0] 8 rfl (World.shaped_of_RefB (by kernel_rfl) (by kernel_rfl)) (by kernel_rfl) (by kernel_rfl) (by kernel_rfl) (door_met os _)) ?_
 intro W base args ds gs before hval0 hW hcnd _ hL _
 have hgl : GL W (fun _ => False) := gl_of_tab (of_laid hL)
 have hval : ∀ (j : Nat) t v, Tryd.f4.params[j]? = some t → args[j]? = some v → Value.okWide Tryd.prog W .any base t v := hval0
 have hW' := hW
 obtain ⟨p, q, hA0, hV, rfl, hfz, hnd⟩ := hW
 have hA : DataW.TrodAll enc Tryd.prog W 0 (fun _ => true) true Tryd.f4.params.toList args.toList ds p := hA0
 rw [Tryd.params4] at hA hval
 obtain ⟨v0, vs0, d0, ds0, p0, q0, hargs0, rfl, rfl, h0, r0⟩ := trodAll_cons hA
 obtain ⟨rfl, rfl, rfl⟩ := trodAll_nil r0
 obtain rfl : args = #[v0] := by cases args; simp_all
 obtain ⟨rfl, rfl⟩ := trodVars_none hV
 have k0 := h0
 have lt0 : ∀ x ∈ p0, x.block < W.heap.size := by obtain ⟨m, hm⟩ := k0; exact DataW.trod_lt m _ _ _ hm
 obtain ⟨a0, l0, c0, rfl⟩ := okWide_slice Tryd.underlying22 (hval 0 22 v0 rfl rfl)
 obtain ⟨x0, w0, s0⟩ := arg_one (n := 2) (fun _ => 0) rfl h0 (by kernel_rfl)
 obtain ⟨z0, e0, o0⟩ := sh_L_byte 0 _ s0
 obtain rfl := List.singleton_inj.1 e0
 clear hA0 hval0
 refine (law_walk (fun _ => 0) (fnShocksLaw_ok z0 o0) hgl rfl (fun i hi => by
     match i, hi with
     | 0, _ => exact w0)).mono fun e W' ⟨he, bel⟩ => ?_
 subst he
 exact ⟨_, rfl, _, _, _, [], _, [], hW', trodAll_mk1 (shut_bool Tryd.underlying4 _), (trodAll_cons_mk (Below.trod laidOut (by kernel_rfl) (of_decide_eq_true (by kernel_rfl)) k0 bel lt0) trodAll_mk0), rfl, bel.frame _, fun h => by cases h⟩
theorem k1 : (Rows.fnShocksRow.inPlace == Tryd.prog.inPlace 4) = true := by kernel_rfl
theorem k2 : (Rows.fnShocksRow.unfollowed == Tryd.prog.unfollowed 4) = true := by kernel_rfl
theorem k3 : (Rows.fnShocksRow.recurses == Tryd.prog.recurses 4) = true := by kernel_rfl
theorem k4 : (Rows.fnShocksRow.named == Tryd.prog.varsNamed 4) = true := by kernel_rfl
theorem k5 : namedTie Tryd.prog Rows.fnShocksRow.named Rows.fnShocksSpec.vars = true := by kernel_rfl
theorem k6 : Rows.fnShocksRow.wf (OpenSpec.ofChange Rows.fnShocksSpec) = true := by kernel_rfl
theorem k7 : Tryd.checked.prog.funcNamed Rows.fnShocksRow.func = some 4 := by kernel_rfl
theorem facts : joinedFacts Tryd.prog 4 Tryd.f4 Rows.fnShocksSpec Rows.fnShocksRow = true := by
 simp only [joinedFacts, Bool.and_eq_true]
 repeat' (refine And.intro ?_ ?_)
 all_goals first | with_reducible (first | exact k6 | exact pf1 | exact pf2 | exact pf3 | exact pf4 | exact pf5 | exact pf6 | exact k1 | exact k2 | exact k3 | exact k4 | exact k5) | (with_reducible show (_ == Tryd.prog.plainKeys) = true; exact pf7) | (with_reducible show (_ == Tryd.prog.liftsFinal) = true; exact pf8) | (with_reducible show (Tryd.prog.make == _) = true; exact pf9) | kernel_rfl
theorem over : Rows.fnShocksRow.holds Tryd.pinned (OpenSpec.ofChange Rows.fnShocksSpec) :=
 OpenClaim.holds_of_wide 4 Tryd.f4 rfl rfl rfl rfl rfl rfl rfl ⟨rfl, rfl, rfl, rfl, rfl⟩ rfl rfl rfl rfl rfl k7 Tryd.func4 facts
   (of_decide_eq_true (by kernel_rfl)) (by unfold Func.isWrapper; first | (rw [if_pos (by decide +kernel)]; kernel_rfl) | (rw [if_neg (by decide +kernel)]; exact ⟨rfl, rfl⟩))
   (fun os started H enc _ => lifted os started H enc)
theorem proved : Rows.FnShocksCardSaid :=
 Claim7.holds_tied_plain_at .later [] [.data, .data, .data] true Rows.fnShocksCard.stood.harness Rows.fnShocksCard.stood.looks
   over (fun _ h => by cases h) (by kernel_rfl) (fun _ h => by cases h) fnShocks_row_tie rfl ⟨rfl, rfl⟩ (by kernel_rfl) rfl
   (fun f fn hf hfn => by
     obtain rfl : f = 4 := Option.some.inj (k7.symm.trans hf) |>.symm
     obtain rfl : fn = Tryd.f4 := (Option.some.inj (Tryd.func4.symm.trans hfn)).symm
     exact ⟨by kernel_rfl, fun j t ht => by
       rw [Tryd.params4] at ht
       have hm : t ∈ [22] := by simpa using Array.mem_of_getElem? ht
       have hall : ([22].all fun u => !Tryd.prog.wantsStandIn u) = true := by kernel_rfl
       exact (show Tryd.prog.wantsStandIn t = false by simpa using List.all_eq_true.1 hall t hm)⟩)
   (by kernel_rfl)
end Go.Proofs.YtgnnoacaghelhaaDoor.lawShocksLaw
end
