/-
  FnExactAppendRecord answers true for every input and leaves its arguments alone. Conditions: none.
-/
import Derived.Test.YtknljabhieocgaaDoorXAppendRecord
import Derived.Test.YtknljabhieocgaaDoorLvU
import Derived.Test.YtknljabhieocgaaDoorRows
import Derived.Test.YtknljabhieocgaaDoorPf
import Derived.WalkKit
import Derived.ProofKit
import Derived.OpenShut
import Derived.ShutString
import Derived.ChangeOld
import Derived.Below
import Derived.LaidMore
import Derived.SevenTiedAt
import Derived.Stop.Joined
import Derived.Stop.LaidErr
import Derived.Lib.LaidTab
import Derived.Test.YtknljabhieocgaaDoorTie
import Derived.Test.YtknljabhieocgaaDoorCards
import Derived.Test.YtknljabhieocgaaDoorItoa
set_option linter.unusedSimpArgs false
set_option linter.unusedVariables false
set_option maxRecDepth 100000
namespace Go.Proofs.YtknljabhieocgaaDoor.lawAppendRecord
open Go.ChangeShapes Go.WideShapes Go.ChangeAt Go.RowKit
open Go.ChangeMaps (open_string shut_string)
open Go.Lv
theorem laidOut : laidOutB Tryd.prog = true := pf1
theorem door_met (os : Os) (args : Array Value) : laidMetH Tryd.prog Rows.fnExactAppendRecordRow.laid ((World.doorLaid Tryd.prog 400 os).forCall (fun _ _ => 0) ⟨#[], args, []⟩).memory :=
  laidMetH_of_parts3 (fuel := 8) (laidMet_of_run' 8 (by kernel_rfl) (by kernel_rfl)) (by kernel_rfl) (by kernel_rfl)
theorem of_laid {W : World} (h : laidMetH Tryd.prog Rows.fnExactAppendRecordRow.laid W) : Lib.TabIs Tryd.prog W "internal/strconv.uint64pow10" .u64 Lib.pow10Tab := by
  rw [MakeChecks.laidMetH_plain _ _ _ (by kernel_rfl)] at h
  exact Lib.tabIs_of_head (g := 1) (t := 102) (e := 91) (n := 20) (by kernel_rfl) (by kernel_rfl) Tryd.underlying102 Tryd.underlying91 (by kernel_rfl) (by kernel_rfl) (laidMet.tail (laidMet.tail h))
theorem sh_Log (n : Nat) (xs : List V) (h : ShC Tryd.prog (n + 2) 36 xs) : ∃ r : Log, xs = r.cs ∧ r.ok := by
  obtain ⟨hl, hf⟩ := shC_struct Tryd.underlying36 h
  rw [Tryd.cz36] at hl
  simp only [List.mem_cons, List.not_mem_nil, or_false, forall_eq_or_imp, forall_eq, Tryd.cz3, Tryd.cz9] at hf
  obtain ⟨h0, h1, h2⟩ := hf
  obtain ⟨z0, e0, o0⟩ := shC_str Tryd.underlying9 h0
  obtain ⟨z1, e1, o1⟩ := shC_str Tryd.underlying9 h1
  obtain ⟨z2, e2, o2⟩ := shC_int Tryd.underlying3 h2
  match xs, hl with
  | [a0, a1, a2], _ =>
    simp at e0 e1 e2
    subst e0
    subst e1
    subst e2
    exact ⟨⟨z0, z1, z2⟩, rfl, ⟨o0, o1, o2⟩⟩
theorem sh_LogRecord (n : Nat) (xs : List V) (h : ShC Tryd.prog (n + 2) 23 xs) : ∃ r : LogRecord, xs = r.cs ∧ r.ok := by
  obtain ⟨hl, hf⟩ := shC_struct Tryd.underlying23 h
  rw [Tryd.cz23] at hl
  simp only [List.mem_cons, List.not_mem_nil, or_false, forall_eq_or_imp, forall_eq, Tryd.cz9] at hf
  obtain ⟨h0, h1⟩ := hf
  obtain ⟨z0, e0, o0⟩ := shC_str Tryd.underlying9 h0
  obtain ⟨z1, e1, o1⟩ := shC_str Tryd.underlying9 h1
  match xs, hl with
  | [a0, a1], _ =>
    simp at e0 e1
    subst e0
    subst e1
    exact ⟨⟨z0, z1⟩, rfl, ⟨o0, o1⟩⟩
theorem lifted (os : Os) (started : os.Started) (H : Type) (enc : TypeId × Value → H) :
    ReturnsInHanded {} Tryd.checked os 8 .any (fun w args => (Rows.fnExactAppendRecordSpec.pre enc Tryd.prog Tryd.f8 [] false w args ∧ laidMetH Tryd.prog Rows.fnExactAppendRecordRow.laid w) ∧ sizedMet enc Tryd.prog Tryd.f8 (OpenSpec.ofChange Rows.fnExactAppendRecordSpec) false w args) (Rows.fnExactAppendRecordSpec.post enc Tryd.prog Tryd.f8 false true false false) := by
  refine returnsInHanded_of_change_and (C := Tryd.checked) (X := fun w _ => laidMetH Tryd.prog Rows.fnExactAppendRecordRow.laid w) (fun _ _ _ hh h => h.of_heap hh) own started (by kernel_rfl) Tryd.func8
    (ChangeSpec.witness_shaped (enc := enc) (C := Tryd.checked) (os := os) (X := fun w _ => laidMetH Tryd.prog Rows.fnExactAppendRecordRow.laid w) false (World.doorLaid Tryd.prog 400 os) #[.agg #[.string ByteArray.empty, .string ByteArray.empty, .int .i64 0], .agg #[.string ByteArray.empty, .string ByteArray.empty]] 8 rfl (World.shaped_of_RefB (by kernel_rfl) (by kernel_rfl)) (by kernel_rfl) (by kernel_rfl) (by kernel_rfl) (door_met os _)) ?_
  intro W base args ds gs before hval0 hW hcnd _ hL _
  have hgl : GL W (fun _ => False) := gl_of_tab (of_laid hL)
  have hval : ∀ (j : Nat) t v, Tryd.f8.params[j]? = some t → args[j]? = some v → Value.okWide Tryd.prog W .any base t v := hval0
  have hW' := hW
  obtain ⟨p, q, hA0, hV, rfl, hfz, hnd⟩ := hW
  have hA : DataW.TrodAll enc Tryd.prog W 0 (fun _ => true) true Tryd.f8.params.toList args.toList ds p := hA0
  rw [Tryd.params8] at hA hval
  obtain ⟨v0, vs0, d0, ds0, p0, q0, hargs0, rfl, rfl, h0, r0⟩ := trodAll_cons hA
  obtain ⟨v1, vs1, d1, ds1, p1, q1, hargs1, rfl, rfl, h1, r1⟩ := trodAll_cons r0
  obtain ⟨rfl, rfl, rfl⟩ := trodAll_nil r1
  subst hargs1
  obtain rfl : args = #[v0, v1] := by cases args; simp_all
  obtain ⟨rfl, rfl⟩ := trodVars_none hV
  have k0 := h0
  have lt0 : ∀ x ∈ p0, x.block < W.heap.size := by obtain ⟨m, hm⟩ := k0; exact DataW.trod_lt m _ _ _ hm
  have k1 := h1
  have lt1 : ∀ x ∈ p1, x.block < W.heap.size := by obtain ⟨m, hm⟩ := k1; exact DataW.trod_lt m _ _ _ hm
  obtain ⟨x0, w0, s0⟩ := arg_agg (n := 2) (fun _ => 0) Tryd.underlying36 (hval 0 36 v0 rfl rfl) h0 (by kernel_rfl)
  obtain ⟨z0, e0, o0⟩ := sh_Log 0 _ s0
  subst e0
  obtain ⟨x1, w1, s1⟩ := arg_agg (n := 2) (fun _ => 0) Tryd.underlying23 (hval 1 23 v1 rfl rfl) h1 (by kernel_rfl)
  obtain ⟨z1, e1, o1⟩ := sh_LogRecord 0 _ s1
  subst e1
  clear hA0 hval0
  refine (law_walk (fun _ => 0) (fnAppendRecord_ok z0 z1 o0 o1) hgl rfl (fun i hi => by
      match i, hi with
      | 0, _ => exact w0
      | 1, _ => exact w1)).mono fun e W' ⟨he, bel⟩ => ?_
  subst he
  exact ⟨_, rfl, _, _, _, [], _, [], hW', trodAll_mk1 (shut_bool Tryd.underlying4 _), (trodAll_cons_mk (Below.trod laidOut (by kernel_rfl) (of_decide_eq_true (by kernel_rfl)) k0 bel lt0) (trodAll_cons_mk (Below.trod laidOut (by kernel_rfl) (of_decide_eq_true (by kernel_rfl)) k1 bel lt1) trodAll_mk0)), rfl, bel.frame _, fun h => by cases h⟩
theorem k1 : (Rows.fnExactAppendRecordRow.inPlace == Tryd.prog.inPlace 8) = true := by kernel_rfl
theorem k2 : (Rows.fnExactAppendRecordRow.unfollowed == Tryd.prog.unfollowed 8) = true := by kernel_rfl
theorem k3 : (Rows.fnExactAppendRecordRow.recurses == Tryd.prog.recurses 8) = true := by kernel_rfl
theorem k4 : (Rows.fnExactAppendRecordRow.named == Tryd.prog.varsNamed 8) = true := by kernel_rfl
theorem k5 : namedTie Tryd.prog Rows.fnExactAppendRecordRow.named Rows.fnExactAppendRecordSpec.vars = true := by kernel_rfl
theorem k6 : Rows.fnExactAppendRecordRow.wf (OpenSpec.ofChange Rows.fnExactAppendRecordSpec) = true := by kernel_rfl
theorem k7 : Tryd.checked.prog.funcNamed Rows.fnExactAppendRecordRow.func = some 8 := by kernel_rfl
theorem facts : joinedFacts Tryd.prog 8 Tryd.f8 Rows.fnExactAppendRecordSpec Rows.fnExactAppendRecordRow = true := by
  simp only [joinedFacts, Bool.and_eq_true]
  repeat' (refine And.intro ?_ ?_)
  all_goals first | with_reducible exact k6 | with_reducible exact pf1 | with_reducible exact pf2 | with_reducible exact pf3 | with_reducible exact pf4 | with_reducible exact pf5 | with_reducible exact pf6 | with_reducible exact k1 | with_reducible exact k2 | with_reducible exact k3 | with_reducible exact k4 | with_reducible exact k5 | (with_reducible show (_ == Tryd.prog.plainKeys) = true; exact pf7) | (with_reducible show (_ == Tryd.prog.liftsFinal) = true; exact pf8) | (with_reducible show (Tryd.prog.make == _) = true; exact pf9) | kernel_rfl
theorem over : Rows.fnExactAppendRecordRow.holds Tryd.pinned (OpenSpec.ofChange Rows.fnExactAppendRecordSpec) :=
  OpenClaim.holds_of_wide 8 Tryd.f8 rfl rfl rfl rfl rfl rfl rfl ⟨rfl, rfl, rfl, rfl, rfl⟩ rfl rfl rfl rfl rfl k7 Tryd.func8 facts
    (of_decide_eq_true (by kernel_rfl)) (by unfold Func.isWrapper; first | (rw [if_pos (by decide +kernel)]; kernel_rfl) | (rw [if_neg (by decide +kernel)]; exact ⟨rfl, rfl⟩))
    (fun os started H enc _ => lifted os started H enc)
theorem proved : Rows.FnExactAppendRecordCardSaid :=
  Claim7.holds_tied_plain_at .later [] [.data, .data, .data] true Rows.fnExactAppendRecordCard.stood.harness false
    over (fun _ h => by cases h) (by kernel_rfl) (fun _ h => by cases h) fnExactAppendRecord_row_tie rfl ⟨rfl, rfl⟩ (by kernel_rfl) rfl
    (fun f fn hf hfn => by
      obtain rfl : f = 8 := Option.some.inj (k7.symm.trans hf) |>.symm
      obtain rfl : fn = Tryd.f8 := (Option.some.inj (Tryd.func8.symm.trans hfn)).symm
      exact ⟨by kernel_rfl, fun j t ht => by
        rw [Tryd.params8] at ht
        have hm : t ∈ [36, 23] := by simpa using Array.mem_of_getElem? ht
        have hall : ([36, 23].all fun u => !Tryd.prog.wantsStandIn u) = true := by kernel_rfl
        exact (show Tryd.prog.wantsStandIn t = false by simpa using List.all_eq_true.1 hall t hm)⟩)
    (by kernel_rfl)
end Go.Proofs.YtknljabhieocgaaDoor.lawAppendRecord
