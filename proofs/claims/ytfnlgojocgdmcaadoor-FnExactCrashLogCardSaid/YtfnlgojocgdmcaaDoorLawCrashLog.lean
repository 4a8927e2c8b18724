/-
  FnExactCrashLog answers true for every input and leaves its arguments alone. Conditions: none.
-/
import Derived.Test.YtfnlgojocgdmcaaDoorXCrashLog
import Derived.Test.YtfnlgojocgdmcaaDoorLvU
import Derived.Test.YtfnlgojocgdmcaaDoorRows
import Derived.Test.YtfnlgojocgdmcaaDoorPf
import Derived.WalkKit
import Derived.ProofKit
import Derived.OpenShut
import Derived.ShutString
import Derived.ChangeOld
import Derived.Below
import Derived.LaidMore
import Derived.SevenTiedAt
import Derived.Stop.Joined
import Derived.Stop.LaidErr
import Derived.Lib.LaidTab
import Derived.Test.YtfnlgojocgdmcaaDoorTie
import Derived.Test.YtfnlgojocgdmcaaDoorCards
import Derived.Test.YtfnlgojocgdmcaaDoorItoa
set_option linter.unusedSimpArgs false
set_option linter.unusedVariables false
set_option maxRecDepth 100000
namespace Go.Proofs.YtfnlgojocgdmcaaDoor.lawCrashLog
open Go.ChangeShapes Go.WideShapes Go.ChangeAt Go.RowKit
open Go.ChangeMaps (open_string shut_string)
open Go.Lv
theorem laidOut : laidOutB Tryd.prog = true := pf1
theorem door_met (os : Os) (args : Array Value) : laidMetH Tryd.prog Rows.fnExactCrashLogRow.laid ((World.doorLaid Tryd.prog 400 os).forCall (fun _ _ => 0) ⟨#[], args, []⟩).memory :=
  laidMetH_of_parts3 (fuel := 8) (laidMet_of_run' 8 (by kernel_rfl) (by kernel_rfl)) (by kernel_rfl) (by kernel_rfl)
theorem of_laid {W : World} (h : laidMetH Tryd.prog Rows.fnExactCrashLogRow.laid W) : Lib.TabIs Tryd.prog W "internal/strconv.uint64pow10" .u64 Lib.pow10Tab := by
  rw [MakeChecks.laidMetH_plain _ _ _ (by kernel_rfl)] at h
  exact Lib.tabIs_of_head (g := 1) (t := 156) (e := 72) (n := 20) (by kernel_rfl) (by kernel_rfl) Tryd.underlying156 Tryd.underlying72 (by kernel_rfl) (by kernel_rfl) (laidMet.tail (laidMet.tail h))
theorem sh_Log (n : Nat) (xs : List V) (h : ShC Tryd.prog (n + 2) 23 xs) : ∃ r : Log, xs = r.cs ∧ r.ok := by
  obtain ⟨hl, hf⟩ := shC_struct Tryd.underlying23 h
  rw [Tryd.cz23] at hl
  simp only [List.mem_cons, List.not_mem_nil, or_false, forall_eq_or_imp, forall_eq, Tryd.cz3, Tryd.cz9] at hf
  obtain ⟨h0, h1, h2⟩ := hf
  obtain ⟨z0, e0, o0⟩ := shC_str Tryd.underlying9 h0
  obtain ⟨z1, e1, o1⟩ := shC_str Tryd.underlying9 h1
  obtain ⟨z2, e2, o2⟩ := shC_int Tryd.underlying3 h2
  match xs, hl with
  | [a0, a1, a2], _ =>
    simp at e0 e1 e2
    subst e0
    subst e1
    subst e2
    exact ⟨⟨z0, z1, z2⟩, rfl, ⟨o0, o1, o2⟩⟩
theorem lifted (os : Os) (started : os.Started) (H : Type) (enc : TypeId × Value → H) :
    ReturnsInHanded {} Tryd.checked os 3 .any (fun w args => (Rows.fnExactCrashLogSpec.pre enc Tryd.prog Tryd.f3 [] false w args ∧ laidMetH Tryd.prog Rows.fnExactCrashLogRow.laid w) ∧ sizedMet enc Tryd.prog Tryd.f3 (OpenSpec.ofChange Rows.fnExactCrashLogSpec) false w args) (Rows.fnExactCrashLogSpec.post enc Tryd.prog Tryd.f3 false true false false) := by
  refine returnsInHanded_of_change_and (C := Tryd.checked) (X := fun w _ => laidMetH Tryd.prog Rows.fnExactCrashLogRow.laid w) (fun _ _ _ hh h => h.of_heap hh) own started (by kernel_rfl) Tryd.func3
    (ChangeSpec.witness_shaped (enc := enc) (C := Tryd.checked) (os := os) (X := fun w _ => laidMetH Tryd.prog Rows.fnExactCrashLogRow.laid w) false (World.doorLaid Tryd.prog 400 os) #[.agg #[.string ByteArray.empty, .string ByteArray.empty, .int .i64 0], .int .i64 0, .bool false] 8 rfl (World.shaped_of_RefB (by kernel_rfl) (by kernel_rfl)) (by kernel_rfl) (by kernel_rfl) (by kernel_rfl) (door_met os _)) ?_
  intro W base args ds gs before hval0 hW hcnd _ hL _
  have hgl : GL W (fun _ => False) := gl_of_tab (of_laid hL)
  have hval : ∀ (j : Nat) t v, Tryd.f3.params[j]? = some t → args[j]? = some v → Value.okWide Tryd.prog W .any base t v := hval0
  have hW' := hW
  obtain ⟨p, q, hA0, hV, rfl, hfz, hnd⟩ := hW
  have hA : DataW.TrodAll enc Tryd.prog W 0 (fun _ => true) true Tryd.f3.params.toList args.toList ds p := hA0
  rw [Tryd.params3] at hA hval
  obtain ⟨v0, vs0, d0, ds0, p0, q0, hargs0, rfl, rfl, h0, r0⟩ := trodAll_cons hA
  obtain ⟨v1, vs1, d1, ds1, p1, q1, hargs1, rfl, rfl, h1, r1⟩ := trodAll_cons r0
  obtain ⟨v2, vs2, d2, ds2, p2, q2, hargs2, rfl, rfl, h2, r2⟩ := trodAll_cons r1
  obtain ⟨rfl, rfl, rfl⟩ := trodAll_nil r2
  subst hargs1
  subst hargs2
  obtain rfl : args = #[v0, v1, v2] := by cases args; simp_all
  obtain ⟨rfl, rfl⟩ := trodVars_none hV
  have k0 := h0
  have lt0 : ∀ x ∈ p0, x.block < W.heap.size := by obtain ⟨m, hm⟩ := k0; exact DataW.trod_lt m _ _ _ hm
  have k1 := h1
  have lt1 : ∀ x ∈ p1, x.block < W.heap.size := by obtain ⟨m, hm⟩ := k1; exact DataW.trod_lt m _ _ _ hm
  have k2 := h2
  have lt2 : ∀ x ∈ p2, x.block < W.heap.size := by obtain ⟨m, hm⟩ := k2; exact DataW.trod_lt m _ _ _ hm
  obtain ⟨x0, w0, s0⟩ := arg_agg (n := 2) (fun _ => 0) Tryd.underlying23 (hval 0 23 v0 rfl rfl) h0 (by kernel_rfl)
  obtain ⟨z0, e0, o0⟩ := sh_Log 0 _ s0
  subst e0
  obtain ⟨b1, rfl⟩ := okWide_int Tryd.underlying3 (hval 1 3 v1 rfl rfl)
  obtain ⟨x1, w1, s1⟩ := arg_one (n := 1) (fun _ => 0) rfl h1 (by kernel_rfl)
  obtain ⟨z1, e1, o1⟩ := shC_int (n := 0) Tryd.underlying3 s1
  obtain rfl := List.singleton_inj.1 e1
  obtain ⟨b2, rfl⟩ := okWide_bool Tryd.underlying4 (hval 2 4 v2 rfl rfl)
  obtain ⟨x2, w2, s2⟩ := arg_one (n := 1) (fun _ => 0) rfl h2 (by kernel_rfl)
  obtain ⟨z2, e2⟩ := shC_bool (n := 0) Tryd.underlying4 s2
  obtain rfl := List.singleton_inj.1 e2
  clear hA0 hval0
  refine (law_walk (fun _ => 0) (fnCrashLog_ok z0 z1 z2 o0 o1) hgl rfl (fun i hi => by
      match i, hi with
      | 0, _ => exact w0
      | 1, _ => exact w1
      | 2, _ => exact w2)).mono fun e W' ⟨he, bel⟩ => ?_
  subst he
  exact ⟨_, rfl, _, _, _, [], _, [], hW', trodAll_mk1 (shut_bool Tryd.underlying4 _), (trodAll_cons_mk (Below.trod laidOut (by kernel_rfl) (of_decide_eq_true (by kernel_rfl)) k0 bel lt0) (trodAll_cons_mk (Below.trod laidOut (by kernel_rfl) (of_decide_eq_true (by kernel_rfl)) k1 bel lt1) (trodAll_cons_mk (Below.trod laidOut (by kernel_rfl) (of_decide_eq_true (by kernel_rfl)) k2 bel lt2) trodAll_mk0))), rfl, bel.frame _, fun h => by cases h⟩
theorem k1 : (Rows.fnExactCrashLogRow.inPlace == Tryd.prog.inPlace 3) = true := by kernel_rfl
theorem k2 : (Rows.fnExactCrashLogRow.unfollowed == Tryd.prog.unfollowed 3) = true := by kernel_rfl
theorem k3 : (Rows.fnExactCrashLogRow.recurses == Tryd.prog.recurses 3) = true := by kernel_rfl
theorem k4 : (Rows.fnExactCrashLogRow.named == Tryd.prog.varsNamed 3) = true := by kernel_rfl
theorem k5 : namedTie Tryd.prog Rows.fnExactCrashLogRow.named Rows.fnExactCrashLogSpec.vars = true := by kernel_rfl
theorem k6 : Rows.fnExactCrashLogRow.wf (OpenSpec.ofChange Rows.fnExactCrashLogSpec) = true := by kernel_rfl
theorem k7 : Tryd.checked.prog.funcNamed Rows.fnExactCrashLogRow.func = some 3 := by kernel_rfl
theorem facts : joinedFacts Tryd.prog 3 Tryd.f3 Rows.fnExactCrashLogSpec Rows.fnExactCrashLogRow = true := by
  simp only [joinedFacts, Bool.and_eq_true]
  repeat' (refine And.intro ?_ ?_)
  all_goals first | with_reducible exact k6 | with_reducible exact pf1 | with_reducible exact pf2 | with_reducible exact pf3 | with_reducible exact pf4 | with_reducible exact pf5 | with_reducible exact pf6 | with_reducible exact k1 | with_reducible exact k2 | with_reducible exact k3 | with_reducible exact k4 | with_reducible exact k5 | (with_reducible show (_ == Tryd.prog.plainKeys) = true; exact pf7) | (with_reducible show (_ == Tryd.prog.liftsFinal) = true; exact pf8) | (with_reducible show (Tryd.prog.make == _) = true; exact pf9) | kernel_rfl
theorem over : Rows.fnExactCrashLogRow.holds Tryd.pinned (OpenSpec.ofChange Rows.fnExactCrashLogSpec) :=
  OpenClaim.holds_of_wide 3 Tryd.f3 rfl rfl rfl rfl rfl rfl rfl ⟨rfl, rfl, rfl, rfl, rfl⟩ rfl rfl rfl rfl rfl k7 Tryd.func3 facts
    (of_decide_eq_true (by kernel_rfl)) (by unfold Func.isWrapper; first | (rw [if_pos (by decide +kernel)]; kernel_rfl) | (rw [if_neg (by decide +kernel)]; exact ⟨rfl, rfl⟩))
    (fun os started H enc _ => lifted os started H enc)
theorem proved : Rows.FnExactCrashLogCardSaid :=
  Claim7.holds_tied_plain_at .later [] [.data, .data, .data] true Rows.fnExactCrashLogCard.stood.harness false
    over (fun _ h => by cases h) (by kernel_rfl) (fun _ h => by cases h) fnExactCrashLog_row_tie rfl ⟨rfl, rfl⟩ (by kernel_rfl) rfl
    (fun f fn hf hfn => by
      obtain rfl : f = 3 := Option.some.inj (k7.symm.trans hf) |>.symm
      obtain rfl : fn = Tryd.f3 := (Option.some.inj (Tryd.func3.symm.trans hfn)).symm
      exact ⟨by kernel_rfl, fun j t ht => by
        rw [Tryd.params3] at ht
        have hm : t ∈ [23, 3, 4] := by simpa using Array.mem_of_getElem? ht
        have hall : ([23, 3, 4].all fun u => !Tryd.prog.wantsStandIn u) = true := by kernel_rfl
        exact (show Tryd.prog.wantsStandIn t = false by simpa using List.all_eq_true.1 hall t hm)⟩)
    (by kernel_rfl)
end Go.Proofs.YtfnlgojocgdmcaaDoor.lawCrashLog
