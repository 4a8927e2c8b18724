/-
  FnExactQuakeLine answers true for every input and leaves its arguments alone. Conditions: none.
-/
import Derived.Test.YtjdfmhjgboomcaaDoorXQuakeLine
import Derived.Test.YtjdfmhjgboomcaaDoorLvU
import Derived.Test.YtjdfmhjgboomcaaDoorRows
import Derived.Test.YtjdfmhjgboomcaaDoorPf
import Derived.WalkKit
import Derived.ProofKit
import Derived.OpenShut
import Derived.ShutString
import Derived.ChangeOld
import Derived.Below
import Derived.LaidMore
import Derived.SevenTiedAt
import Derived.Stop.Joined
import Derived.Stop.LaidErr
import Derived.Lib.LaidTab
import Derived.Test.YtjdfmhjgboomcaaDoorTie
import Derived.Test.YtjdfmhjgboomcaaDoorCards
import Derived.Test.YtjdfmhjgboomcaaDoorItoa
set_option linter.unusedSimpArgs false
set_option linter.unusedVariables false
set_option maxRecDepth 100000
namespace Go.Proofs.YtjdfmhjgboomcaaDoor.lawQuakeLine
open Go.ChangeShapes Go.WideShapes Go.ChangeAt Go.RowKit
open Go.ChangeMaps (open_string shut_string)
open Go.Lv
theorem laidOut : laidOutB Tryd.prog = true := pf1
theorem door_met (os : Os) (args : Array Value) : laidMetH Tryd.prog Rows.fnExactQuakeLineRow.laid ((World.doorLaid Tryd.prog 400 os).forCall (fun _ _ => 0) ⟨#[], args, []⟩).memory :=
  laidMetH_of_parts3 (fuel := 8) (laidMet_of_run' 8 (by kernel_rfl) (by kernel_rfl)) (by kernel_rfl) (by kernel_rfl)
theorem of_laid {W : World} (h : laidMetH Tryd.prog Rows.fnExactQuakeLineRow.laid W) : Lib.TabIs Tryd.prog W "internal/strconv.uint64pow10" .u64 Lib.pow10Tab := by
  rw [MakeChecks.laidMetH_plain _ _ _ (by kernel_rfl)] at h
  exact Lib.tabIs_of_head (g := 0) (t := 67) (e := 60) (n := 20) (by kernel_rfl) (by kernel_rfl) Tryd.underlying67 Tryd.underlying60 (by kernel_rfl) (by kernel_rfl) (laidMet.tail (laidMet.tail h))
theorem sh_QuakeRow (n : Nat) (xs : List V) (h : ShC Tryd.prog (n + 2) 30 xs) : ∃ r : QuakeRow, xs = r.cs ∧ r.ok := by
  obtain ⟨hl, hf⟩ := shC_struct Tryd.underlying30 h
  rw [Tryd.cz30] at hl
  simp only [List.mem_cons, List.not_mem_nil, or_false, forall_eq_or_imp, forall_eq, Tryd.cz3] at hf
  obtain ⟨h0, h1, h2, h3, h4, h5, h6⟩ := hf
  obtain ⟨z0, e0, o0⟩ := shC_int Tryd.underlying3 h0
  obtain ⟨z1, e1, o1⟩ := shC_int Tryd.underlying3 h1
  obtain ⟨z2, e2, o2⟩ := shC_int Tryd.underlying3 h2
  obtain ⟨z3, e3, o3⟩ := shC_int Tryd.underlying3 h3
  obtain ⟨z4, e4, o4⟩ := shC_int Tryd.underlying3 h4
  obtain ⟨z5, e5, o5⟩ := shC_int Tryd.underlying3 h5
  obtain ⟨z6, e6, o6⟩ := shC_int Tryd.underlying3 h6
  match xs, hl with
  | [a0, a1, a2, a3, a4, a5, a6], _ =>
    simp at e0 e1 e2 e3 e4 e5 e6
    subst e0
    subst e1
    subst e2
    subst e3
    subst e4
    subst e5
    subst e6
    exact ⟨⟨z0, z1, z2, z3, z4, z5, z6⟩, rfl, ⟨o0, o1, o2, o3, o4, o5, o6⟩⟩
theorem lifted (os : Os) (started : os.Started) (H : Type) (enc : TypeId × Value → H) :
    ReturnsInHanded {} Tryd.checked os 4 .any (fun w args => (Rows.fnExactQuakeLineSpec.pre enc Tryd.prog Tryd.f4 [] false w args ∧ laidMetH Tryd.prog Rows.fnExactQuakeLineRow.laid w) ∧ sizedMet enc Tryd.prog Tryd.f4 (OpenSpec.ofChange Rows.fnExactQuakeLineSpec) false w args) (Rows.fnExactQuakeLineSpec.post enc Tryd.prog Tryd.f4 false true false false) := by
  refine returnsInHanded_of_change_and (C := Tryd.checked) (X := fun w _ => laidMetH Tryd.prog Rows.fnExactQuakeLineRow.laid w) (fun _ _ _ hh h => h.of_heap hh) own started (by kernel_rfl) Tryd.func4
    (ChangeSpec.witness_shaped (enc := enc) (C := Tryd.checked) (os := os) (X := fun w _ => laidMetH Tryd.prog Rows.fnExactQuakeLineRow.laid w) false (World.doorLaid Tryd.prog 400 os) #[.agg #[.int .i64 0, .int .i64 0, .int .i64 0, .int .i64 0, .int .i64 0, .int .i64 0, .int .i64 0]] 8 rfl (World.shaped_of_RefB (by kernel_rfl) (by kernel_rfl)) (by kernel_rfl) (by kernel_rfl) (by kernel_rfl) (door_met os _)) ?_
  intro W base args ds gs before hval0 hW hcnd _ hL _
  have hgl : GL W (fun _ => False) := gl_of_tab (of_laid hL)
  have hval : ∀ (j : Nat) t v, Tryd.f4.params[j]? = some t → args[j]? = some v → Value.okWide Tryd.prog W .any base t v := hval0
  have hW' := hW
  obtain ⟨p, q, hA0, hV, rfl, hfz, hnd⟩ := hW
  have hA : DataW.TrodAll enc Tryd.prog W 0 (fun _ => true) true Tryd.f4.params.toList args.toList ds p := hA0
  rw [Tryd.params4] at hA hval
  obtain ⟨v0, vs0, d0, ds0, p0, q0, hargs0, rfl, rfl, h0, r0⟩ := trodAll_cons hA
  obtain ⟨rfl, rfl, rfl⟩ := trodAll_nil r0
  obtain rfl : args = #[v0] := by cases args; simp_all
  obtain ⟨rfl, rfl⟩ := trodVars_none hV
  have k0 := h0
  have lt0 : ∀ x ∈ p0, x.block < W.heap.size := by obtain ⟨m, hm⟩ := k0; exact DataW.trod_lt m _ _ _ hm
  obtain ⟨x0, w0, s0⟩ := arg_agg (n := 2) (fun _ => 0) Tryd.underlying30 (hval 0 30 v0 rfl rfl) h0 (by kernel_rfl)
  obtain ⟨z0, e0, o0⟩ := sh_QuakeRow 0 _ s0
  subst e0
  clear hA0 hval0
  refine (law_walk (fun _ => 0) (fnQuakeLine_ok z0 o0) hgl rfl (fun i hi => by
      match i, hi with
      | 0, _ => exact w0)).mono fun e W' ⟨he, bel⟩ => ?_
  subst he
  exact ⟨_, rfl, _, _, _, [], _, [], hW', trodAll_mk1 (shut_bool Tryd.underlying4 _), (trodAll_cons_mk (Below.trod laidOut (by kernel_rfl) (of_decide_eq_true (by kernel_rfl)) k0 bel lt0) trodAll_mk0), rfl, bel.frame _, fun h => by cases h⟩
theorem k1 : (Rows.fnExactQuakeLineRow.inPlace == Tryd.prog.inPlace 4) = true := by kernel_rfl
theorem k2 : (Rows.fnExactQuakeLineRow.unfollowed == Tryd.prog.unfollowed 4) = true := by kernel_rfl
theorem k3 : (Rows.fnExactQuakeLineRow.recurses == Tryd.prog.recurses 4) = true := by kernel_rfl
theorem k4 : (Rows.fnExactQuakeLineRow.named == Tryd.prog.varsNamed 4) = true := by kernel_rfl
theorem k5 : namedTie Tryd.prog Rows.fnExactQuakeLineRow.named Rows.fnExactQuakeLineSpec.vars = true := by kernel_rfl
theorem k6 : Rows.fnExactQuakeLineRow.wf (OpenSpec.ofChange Rows.fnExactQuakeLineSpec) = true := by kernel_rfl
theorem k7 : Tryd.checked.prog.funcNamed Rows.fnExactQuakeLineRow.func = some 4 := by kernel_rfl
theorem facts : joinedFacts Tryd.prog 4 Tryd.f4 Rows.fnExactQuakeLineSpec Rows.fnExactQuakeLineRow = true := by
  simp only [joinedFacts, Bool.and_eq_true]
  repeat' (refine And.intro ?_ ?_)
  all_goals first | with_reducible exact k6 | with_reducible exact pf1 | with_reducible exact pf2 | with_reducible exact pf3 | with_reducible exact pf4 | with_reducible exact pf5 | with_reducible exact pf6 | with_reducible exact k1 | with_reducible exact k2 | with_reducible exact k3 | with_reducible exact k4 | with_reducible exact k5 | (with_reducible show (_ == Tryd.prog.plainKeys) = true; exact pf7) | (with_reducible show (_ == Tryd.prog.liftsFinal) = true; exact pf8) | (with_reducible show (Tryd.prog.make == _) = true; exact pf9) | kernel_rfl
theorem over : Rows.fnExactQuakeLineRow.holds Tryd.pinned (OpenSpec.ofChange Rows.fnExactQuakeLineSpec) :=
  OpenClaim.holds_of_wide 4 Tryd.f4 rfl rfl rfl rfl rfl rfl rfl ⟨rfl, rfl, rfl, rfl, rfl⟩ rfl rfl rfl rfl rfl k7 Tryd.func4 facts
    (of_decide_eq_true (by kernel_rfl)) (by unfold Func.isWrapper; first | (rw [if_pos (by decide +kernel)]; kernel_rfl) | (rw [if_neg (by decide +kernel)]; exact ⟨rfl, rfl⟩))
    (fun os started H enc _ => lifted os started H enc)
theorem proved : Rows.FnExactQuakeLineCardSaid :=
  Claim7.holds_tied_plain_at .later [] [.data, .data, .data] true Rows.fnExactQuakeLineCard.stood.harness false
    over (fun _ h => by cases h) (by kernel_rfl) (fun _ h => by cases h) fnExactQuakeLine_row_tie rfl ⟨rfl, rfl⟩ (by kernel_rfl) rfl
    (fun f fn hf hfn => by
      obtain rfl : f = 4 := Option.some.inj (k7.symm.trans hf) |>.symm
      obtain rfl : fn = Tryd.f4 := (Option.some.inj (Tryd.func4.symm.trans hfn)).symm
      exact ⟨by kernel_rfl, fun j t ht => by
        rw [Tryd.params4] at ht
        have hm : t ∈ [30] := by simpa using Array.mem_of_getElem? ht
        have hall : ([30].all fun u => !Tryd.prog.wantsStandIn u) = true := by kernel_rfl
        exact (show Tryd.prog.wantsStandIn t = false by simpa using List.all_eq_true.1 hall t hm)⟩)
    (by kernel_rfl)
end Go.Proofs.YtjdfmhjgboomcaaDoor.lawQuakeLine
