/-
  The law: the program answers as the reference does. Conditions: none.
-/
import Derived.Test.YtfnlgojocgdmcaaDoorZFormatConsole8
import Derived.Test.YtfnlgojocgdmcaaDoorRows
import Derived.WalkKit
import Derived.ProofKit
import Derived.OpenShut
import Derived.ShutString
import Derived.ChangeOld
import Derived.Below
import Derived.LaidMore
import Derived.SevenTiedAt
import Derived.Stop.Joined
import Derived.Stop.LaidErr
import Derived.Lib.LaidTab
import Derived.Test.YtfnlgojocgdmcaaDoorTie
import Derived.Test.YtfnlgojocgdmcaaDoorCards
set_option linter.unusedSimpArgs false
set_option linter.unusedVariables false
section
set_option linter.unusedSimpArgs false
set_option linter.unusedVariables false
set_option maxRecDepth 100000
namespace Go.Proofs.YtfnlgojocgdmcaaDoor.lawFormatConsole
open Go.ChangeShapes Go.WideShapes Go.ChangeAt Go.RowKit
open Go.ChangeMaps (open_string shut_string)
open Go.Lv
theorem laidOut : laidOutB Tryd.prog = true := pf1
theorem door_met (os : Os) (args : Array Value) : laidMetH Tryd.prog Rows.fnExactFormatConsoleRow.laid ((World.doorLaid Tryd.prog 400 os).forCall (fun _ _ => 0) ⟨#[], args, []⟩).memory :=
  laidMetH_of_parts3 (fuel := 8) (laidMet_of_run' 8 (by kernel_rfl) (by kernel_rfl)) (by kernel_rfl) (by kernel_rfl)
theorem of_laid {W : World} (h : laidMetH Tryd.prog Rows.fnExactFormatConsoleRow.laid W) : Lib.TabIs Tryd.prog W "internal/strconv.uint64pow10" .u64 Lib.pow10Tab := by
  rw [MakeChecks.laidMetH_plain _ _ _ (by kernel_rfl)] at h
  exact Lib.tabIs_of_head (g := 1) (t := 156) (e := 72) (n := 20) (by kernel_rfl) (by kernel_rfl) Tryd.underlying156 Tryd.underlying72 (by kernel_rfl) (by kernel_rfl) (laidMet.tail (laidMet.tail h))
theorem sh_Post (n : Nat) (xs : List V) (h : ShC Tryd.prog (n + 2) 142 xs) : ∃ r : Post, xs = r.cs ∧ r.ok := by
  obtain ⟨hl, hf⟩ := shC_struct Tryd.underlying142 h
  rw [Tryd.cz142] at hl
  simp only [List.mem_cons, List.not_mem_nil, or_false, forall_eq_or_imp, forall_eq, Tryd.cz4, Tryd.cz3] at hf
  obtain ⟨h0, h1, h2⟩ := hf
  obtain ⟨z0, e0, o0⟩ := shC_int Tryd.underlying3 h0
  obtain ⟨z1, e1⟩ := shC_bool Tryd.underlying4 h1
  obtain ⟨z2, e2, o2⟩ := shC_int Tryd.underlying3 h2
  match xs, hl with
  | [a0, a1, a2], _ =>
    simp at e0 e1 e2
    subst e0
    subst e1
    subst e2
    exact ⟨⟨z0, z1, z2⟩, rfl, ⟨o0, o2⟩⟩
theorem sh_L_Post (n : Nat) (xs : List V) (h : ShC Tryd.prog (n + 3) 52 xs) : ∃ L : List Post, xs = [.sl L.length 3 (rows Post.cs L)] ∧ lstR Post.ok L :=
  shC_list Tryd.underlying52 Tryd.cz142 (fun ys hy => sh_Post n ys hy) h
theorem sh_Shock (n : Nat) (xs : List V) (h : ShC Tryd.prog (n + 2) 144 xs) : ∃ r : Shock, xs = r.cs ∧ r.ok := by
  obtain ⟨hl, hf⟩ := shC_struct Tryd.underlying144 h
  rw [Tryd.cz144] at hl
  simp only [List.mem_cons, List.not_mem_nil, or_false, forall_eq_or_imp, forall_eq, Tryd.cz3] at hf
  obtain ⟨h0, h1, h2, h3, h4⟩ := hf
  obtain ⟨z0, e0, o0⟩ := shC_int Tryd.underlying3 h0
  obtain ⟨z1, e1, o1⟩ := shC_int Tryd.underlying3 h1
  obtain ⟨z2, e2, o2⟩ := shC_int Tryd.underlying3 h2
  obtain ⟨z3, e3, o3⟩ := shC_int Tryd.underlying3 h3
  obtain ⟨z4, e4, o4⟩ := shC_int Tryd.underlying3 h4
  match xs, hl with
  | [a0, a1, a2, a3, a4], _ =>
    simp at e0 e1 e2 e3 e4
    subst e0
    subst e1
    subst e2
    subst e3
    subst e4
    exact ⟨⟨z0, z1, z2, z3, z4⟩, rfl, ⟨o0, o1, o2, o3, o4⟩⟩
theorem sh_L_Shock (n : Nat) (xs : List V) (h : ShC Tryd.prog (n + 3) 53 xs) : ∃ L : List Shock, xs = [.sl L.length 5 (rows Shock.cs L)] ∧ lstR Shock.ok L :=
  shC_list Tryd.underlying53 Tryd.cz144 (fun ys hy => sh_Shock n ys hy) h
theorem sh_Watch (n : Nat) (xs : List V) (h : ShC Tryd.prog (n + 4) 55 xs) : ∃ r : Watch, xs = r.cs ∧ r.ok := by
  obtain ⟨hl, hf⟩ := shC_struct Tryd.underlying55 h
  rw [Tryd.cz55] at hl
  simp only [List.mem_cons, List.not_mem_nil, or_false, forall_eq_or_imp, forall_eq, Tryd.cz52, Tryd.cz53, Tryd.cz3] at hf
  obtain ⟨h0, h1, h2, h3, h4⟩ := hf
  obtain ⟨z0, e0, o0⟩ := shC_int Tryd.underlying3 h0
  obtain ⟨z1, e1, o1⟩ := sh_L_Post (n + 0) _ h1
  obtain ⟨z2, e2, o2⟩ := sh_L_Shock (n + 0) _ h2
  obtain ⟨z3, e3, o3⟩ := shC_int Tryd.underlying3 h3
  obtain ⟨z4, e4, o4⟩ := shC_int Tryd.underlying3 h4
  match xs, hl with
  | [a0, a1, a2, a3, a4], _ =>
    simp at e0 e1 e2 e3 e4
    subst e0
    subst e1
    subst e2
    subst e3
    subst e4
    exact ⟨⟨z0, z1, z2, z3, z4⟩, rfl, ⟨o0, o1, o2, o3, o4⟩⟩
theorem sh_Log (n : Nat) (xs : List V) (h : ShC Tryd.prog (n + 2) 23 xs) : ∃ r : Log, xs = r.cs ∧ r.ok := by
  obtain ⟨hl, hf⟩ := shC_struct Tryd.underlying23 h
  rw [Tryd.cz23] at hl
  simp only [List.mem_cons, List.not_mem_nil, or_false, forall_eq_or_imp, forall_eq, Tryd.cz3, Tryd.cz9] at hf
  obtain ⟨h0, h1, h2⟩ := hf
  obtain ⟨z0, e0, o0⟩ := shC_str Tryd.underlying9 h0
  obtain ⟨z1, e1, o1⟩ := shC_str Tryd.underlying9 h1
  obtain ⟨z2, e2, o2⟩ := shC_int Tryd.underlying3 h2
  match xs, hl with
  | [a0, a1, a2], _ =>
    simp at e0 e1 e2
    subst e0
    subst e1
    subst e2
    exact ⟨⟨z0, z1, z2⟩, rfl, ⟨o0, o1, o2⟩⟩
theorem sh_Console (n : Nat) (xs : List V) (h : ShC Tryd.prog (n + 5) 57 xs) : ∃ r : Console, xs = r.cs ∧ r.ok := by
  obtain ⟨hl, hf⟩ := shC_struct Tryd.underlying57 h
  rw [Tryd.cz57] at hl
  simp only [List.mem_cons, List.not_mem_nil, or_false, forall_eq_or_imp, forall_eq, Tryd.cz23, Tryd.cz55] at hf
  obtain ⟨h0, h1⟩ := hf
  obtain ⟨z0, e0, o0⟩ := sh_Watch (n + 0) _ h0
  obtain ⟨z1, e1, o1⟩ := sh_Log (n + 2) _ h1
  match xs, hl with
  | [a0, a1, a2, a3, a4, a5, a6, a7], _ =>
    simp [Watch.cs, Log.cs] at e0 e1
    obtain ⟨rfl, rfl, rfl, rfl, rfl⟩ := e0
    obtain ⟨rfl, rfl, rfl⟩ := e1
    exact ⟨⟨z0, z1⟩, rfl, ⟨o0, o1⟩⟩
theorem lifted (os : Os) (started : os.Started) (H : Type) (enc : TypeId × Value → H) :
    ReturnsInHanded {} Tryd.checked os 8 .any (fun w args => (Rows.fnExactFormatConsoleSpec.pre enc Tryd.prog Tryd.f8 [] false w args ∧ laidMetH Tryd.prog Rows.fnExactFormatConsoleRow.laid w) ∧ sizedMet enc Tryd.prog Tryd.f8 (OpenSpec.ofChange Rows.fnExactFormatConsoleSpec) false w args) (Rows.fnExactFormatConsoleSpec.post enc Tryd.prog Tryd.f8 false true false false) := by
  refine returnsInHanded_of_change_and (C := Tryd.checked) (X := fun w _ => laidMetH Tryd.prog Rows.fnExactFormatConsoleRow.laid w) (fun _ _ _ hh h => h.of_heap hh) own started (by kernel_rfl) Tryd.func8
    (ChangeSpec.witness_shaped (enc := enc) (C := Tryd.checked) (os := os) (X := fun w _ => laidMetH Tryd.prog Rows.fnExactFormatConsoleRow.laid w) false (World.doorLaid Tryd.prog 400 os) #[.agg #[.int .i64 0, .slice none 0 0, .slice none 0 0, .int .i64 0, .int .i64 0, .string ByteArray.empty, .string ByteArray.empty, .int .i64 0]] 8 rfl (World.shaped_of_RefB (by kernel_rfl) (by kernel_rfl)) (by kernel_rfl) (by kernel_rfl) (by kernel_rfl) (door_met os _)) ?_
  intro W base args ds gs before hval0 hW hcnd _ hL _
  have hgl : GL W (fun _ => False) := gl_of_tab (of_laid hL)
  have hval : ∀ (j : Nat) t v, Tryd.f8.params[j]? = some t → args[j]? = some v → Value.okWide Tryd.prog W .any base t v := hval0
  have hW' := hW
  obtain ⟨p, q, hA0, hV, rfl, hfz, hnd⟩ := hW
  have hA : DataW.TrodAll enc Tryd.prog W 0 (fun _ => true) true Tryd.f8.params.toList args.toList ds p := hA0
  rw [Tryd.params8] at hA hval
  obtain ⟨v0, vs0, d0, ds0, p0, q0, hargs0, rfl, rfl, h0, r0⟩ := trodAll_cons hA
  obtain ⟨rfl, rfl, rfl⟩ := trodAll_nil r0
  obtain rfl : args = #[v0] := by cases args; simp_all
  obtain ⟨rfl, rfl⟩ := trodVars_none hV
  have k0 := h0
  have lt0 : ∀ x ∈ p0, x.block < W.heap.size := by obtain ⟨m, hm⟩ := k0; exact DataW.trod_lt m _ _ _ hm
  obtain ⟨x0, w0, s0⟩ := arg_agg (n := 5) (fun _ => 0) Tryd.underlying57 (hval 0 57 v0 rfl rfl) h0 (by kernel_rfl)
  obtain ⟨z0, e0, o0⟩ := sh_Console 0 _ s0
  subst e0
  clear hA0 hval0
  refine (law_walk (fun _ => 0) (fnFormatConsole_ok z0 o0) hgl rfl (fun i hi => by
      match i, hi with
      | 0, _ => exact w0)).mono fun e W' ⟨he, bel⟩ => ?_
  subst he
  exact ⟨_, rfl, _, _, _, [], _, [], hW', trodAll_mk1 (shut_bool Tryd.underlying4 _), (trodAll_cons_mk (Below.trod laidOut (by kernel_rfl) (of_decide_eq_true (by kernel_rfl)) k0 bel lt0) trodAll_mk0), rfl, bel.frame _, fun h => by cases h⟩
theorem k1 : (Rows.fnExactFormatConsoleRow.inPlace == Tryd.prog.inPlace 8) = true := by kernel_rfl
theorem k2 : (Rows.fnExactFormatConsoleRow.unfollowed == Tryd.prog.unfollowed 8) = true := by kernel_rfl
theorem k3 : (Rows.fnExactFormatConsoleRow.recurses == Tryd.prog.recurses 8) = true := by kernel_rfl
theorem k4 : (Rows.fnExactFormatConsoleRow.named == Tryd.prog.varsNamed 8) = true := by kernel_rfl
theorem k5 : namedTie Tryd.prog Rows.fnExactFormatConsoleRow.named Rows.fnExactFormatConsoleSpec.vars = true := by kernel_rfl
theorem k6 : Rows.fnExactFormatConsoleRow.wf (OpenSpec.ofChange Rows.fnExactFormatConsoleSpec) = true := by kernel_rfl
theorem k7 : Tryd.checked.prog.funcNamed Rows.fnExactFormatConsoleRow.func = some 8 := by kernel_rfl
theorem facts : joinedFacts Tryd.prog 8 Tryd.f8 Rows.fnExactFormatConsoleSpec Rows.fnExactFormatConsoleRow = true := by
  simp only [joinedFacts, Bool.and_eq_true]
  repeat' (refine And.intro ?_ ?_)
  all_goals first | with_reducible exact k6 | with_reducible exact pf1 | with_reducible exact pf2 | with_reducible exact pf3 | with_reducible exact pf4 | with_reducible exact pf5 | with_reducible exact pf6 | with_reducible exact k1 | with_reducible exact k2 | with_reducible exact k3 | with_reducible exact k4 | with_reducible exact k5 | (with_reducible show (_ == Tryd.prog.plainKeys) = true; exact pf7) | (with_reducible show (_ == Tryd.prog.liftsFinal) = true; exact pf8) | (with_reducible show (Tryd.prog.make == _) = true; exact pf9) | kernel_rfl
theorem over : Rows.fnExactFormatConsoleRow.holds Tryd.pinned (OpenSpec.ofChange Rows.fnExactFormatConsoleSpec) :=
  OpenClaim.holds_of_wide 8 Tryd.f8 rfl rfl rfl rfl rfl rfl rfl ⟨rfl, rfl, rfl, rfl, rfl⟩ rfl rfl rfl rfl rfl k7 Tryd.func8 facts
    (of_decide_eq_true (by kernel_rfl)) (by unfold Func.isWrapper; first | (rw [if_pos (by decide +kernel)]; kernel_rfl) | (rw [if_neg (by decide +kernel)]; exact ⟨rfl, rfl⟩))
    (fun os started H enc _ => lifted os started H enc)
theorem proved : Rows.FnExactFormatConsoleCardSaid :=
  Claim7.holds_tied_plain_at .later [] [.data, .data, .data] true Rows.fnExactFormatConsoleCard.stood.harness false
    over (fun _ h => by cases h) (by kernel_rfl) (fun _ h => by cases h) fnExactFormatConsole_row_tie rfl ⟨rfl, rfl⟩ (by kernel_rfl) rfl
    (fun f fn hf hfn => by
      obtain rfl : f = 8 := Option.some.inj (k7.symm.trans hf) |>.symm
      obtain rfl : fn = Tryd.f8 := (Option.some.inj (Tryd.func8.symm.trans hfn)).symm
      exact ⟨by kernel_rfl, fun j t ht => by
        rw [Tryd.params8] at ht
        have hm : t ∈ [57] := by simpa using Array.mem_of_getElem? ht
        have hall : ([57].all fun u => !Tryd.prog.wantsStandIn u) = true := by kernel_rfl
        exact (show Tryd.prog.wantsStandIn t = false by simpa using List.all_eq_true.1 hall t hm)⟩)
    (by kernel_rfl)
end Go.Proofs.YtfnlgojocgdmcaaDoor.lawFormatConsole
end
