/-
  The law: the program answers as the reference does. Conditions: none.
-/
import Derived.Test.YtfpkiomipjmabaaGreatDoorZC11
import Derived.Test.YtfpkiomipjmabaaGreatDoorZC20
import Derived.Test.YtfpkiomipjmabaaGreatDoorZC22
import Derived.Test.YtfpkiomipjmabaaGreatDoorZC23
import Derived.Test.YtfpkiomipjmabaaGreatDoorZC26
import Derived.Test.YtfpkiomipjmabaaGreatDoorRows
import Derived.WalkKit
import Derived.ProofKit
import Derived.OpenShut
import Derived.ShutString
import Derived.ChangeOld
import Derived.Below
import Derived.LaidMore
import Derived.SevenTiedAt
import Derived.Stop.Joined
import Derived.Stop.LaidErr
import Derived.Lib.LaidTab
import Derived.Test.YtfpkiomipjmabaaGreatDoorTie
import Derived.Test.YtfpkiomipjmabaaGreatDoorCards
set_option linter.unusedSimpArgs false
set_option linter.unusedVariables false
section
set_option maxRecDepth 100000
namespace Go.Proofs.YtfpkiomipjmabaaGreatDoor.lawRunScript
open Go.ChangeShapes Go.WideShapes Go.ChangeAt Go.RowKit
open Go.ChangeMaps (open_string shut_string)
open Go.Lv
theorem laidOut : laidOutB Tryz.prog = true := pf1
theorem x4 {W : World} (h : laidMet Tryz.prog Rows.fnExactRunScriptRow.laid W) : Lib.TabIs Tryz.prog W "internal/strconv.uint64pow10" .u64 Lib.pow10Tab := by
 exact Lib.tabIs_of_head (g := 5) (t := 285) (e := 103) (n := 20) (by kernel_rfl) (by kernel_rfl) Tryz.underlying285 Tryz.underlying103 (by kernel_rfl) (by kernel_rfl) (laidMet.tail (laidMet.tail h))
theorem yw {W : World} (h : laidMet Tryz.prog Rows.fnExactRunScriptRow.laid W) (hsh : W.ShapedOpen Tryz.prog) : GL W (fun _ => False) := vn (x4 h) (laidMet.tail (laidMet.tail (laidMet.tail (laidMet.tail (laidMet.tail h))))) hsh
theorem ah2 (n : Nat) (xs : List V) (h : ShC Tryz.prog (n + 2) 223 xs) : ∃ r : az, xs = r.cs ∧ r.ok := by
 obtain ⟨hl, hf⟩ := gn Tryz.underlying223 h
 rw [Tryz.als] at hl
 simp only [List.mem_cons, List.not_mem_nil, or_false, forall_eq_or_imp, forall_eq, Tryz.cz4, Tryz.cz3] at hf
 obtain ⟨h0, h1, h2⟩ := hf
 obtain ⟨z0, e0, o0⟩ := ed Tryz.underlying3 h0
 obtain ⟨z1, e1⟩ := aj4 Tryz.underlying4 h1
 obtain ⟨z2, e2, o2⟩ := ed Tryz.underlying3 h2
 match xs, hl with
 | [a0, a1, a2], _ =>
   simp at e0 e1 e2
   subst e0
   subst e1
   subst e2
   exact ⟨⟨z0, z1, z2⟩, rfl, ⟨o0, o2⟩⟩
theorem aan (n : Nat) (xs : List V) (h : ShC Tryz.prog (n + 3) 72 xs) : ∃ L : List az, xs = [.sl L.length 3 (rows az.cs L)] ∧ agn az.ok L :=
 uw Tryz.underlying72 Tryz.als (fun ys hy => ah2 n ys hy) h
theorem adn (n : Nat) (xs : List V) (h : ShC Tryz.prog (n + 2) 225 xs) : ∃ r : an, xs = r.cs ∧ r.ok := by
 obtain ⟨hl, hf⟩ := gn Tryz.underlying225 h
 rw [Tryz.al2] at hl
 simp only [List.mem_cons, List.not_mem_nil, or_false, forall_eq_or_imp, forall_eq, Tryz.cz3] at hf
 obtain ⟨h0, h1, h2, h3, h4⟩ := hf
 obtain ⟨z0, e0, o0⟩ := ed Tryz.underlying3 h0
 obtain ⟨z1, e1, o1⟩ := ed Tryz.underlying3 h1
 obtain ⟨z2, e2, o2⟩ := ed Tryz.underlying3 h2
 obtain ⟨z3, e3, o3⟩ := ed Tryz.underlying3 h3
 obtain ⟨z4, e4, o4⟩ := ed Tryz.underlying3 h4
 match xs, hl with
 | [a0, a1, a2, a3, a4], _ =>
   simp at e0 e1 e2 e3 e4
   subst e0
   subst e1
   subst e2
   subst e3
   subst e4
   exact ⟨⟨z0, z1, z2, z3, z4⟩, rfl, ⟨o0, o1, o2, o3, o4⟩⟩
theorem xr (n : Nat) (xs : List V) (h : ShC Tryz.prog (n + 3) 73 xs) : ∃ L : List an, xs = [.sl L.length 5 (rows an.cs L)] ∧ agn an.ok L :=
 uw Tryz.underlying73 Tryz.al2 (fun ys hy => adn n ys hy) h
theorem aea (n : Nat) (xs : List V) (h : ShC Tryz.prog (n + 4) 75 xs) : ∃ r : ab, xs = r.cs ∧ r.ok := by
 obtain ⟨hl, hf⟩ := gn Tryz.underlying75 h
 rw [Tryz.ar9] at hl
 simp only [List.mem_cons, List.not_mem_nil, or_false, forall_eq_or_imp, forall_eq, Tryz.cz72, Tryz.cz73, Tryz.cz3] at hf
 obtain ⟨h0, h1, h2, h3, h4⟩ := hf
 obtain ⟨z0, e0, o0⟩ := ed Tryz.underlying3 h0
 obtain ⟨z1, e1, o1⟩ := aan (n + 0) _ h1
 obtain ⟨z2, e2, o2⟩ := xr (n + 0) _ h2
 obtain ⟨z3, e3, o3⟩ := ed Tryz.underlying3 h3
 obtain ⟨z4, e4, o4⟩ := ed Tryz.underlying3 h4
 match xs, hl with
 | [a0, a1, a2, a3, a4], _ =>
   simp at e0 e1 e2 e3 e4
   subst e0
   subst e1
   subst e2
   subst e3
   subst e4
   exact ⟨⟨z0, z1, z2, z3, z4⟩, rfl, ⟨o0, o1, o2, o3, o4⟩⟩
theorem acz (n : Nat) (xs : List V) (h : ShC Tryz.prog (n + 2) 43 xs) : ∃ r : Log, xs = r.cs ∧ r.ok := by
 obtain ⟨hl, hf⟩ := gn Tryz.underlying43 h
 rw [Tryz.aps] at hl
 simp only [List.mem_cons, List.not_mem_nil, or_false, forall_eq_or_imp, forall_eq, Tryz.cz3, Tryz.cz9] at hf
 obtain ⟨h0, h1, h2⟩ := hf
 obtain ⟨z0, e0, o0⟩ := qo Tryz.underlying9 h0
 obtain ⟨z1, e1, o1⟩ := qo Tryz.underlying9 h1
 obtain ⟨z2, e2, o2⟩ := ed Tryz.underlying3 h2
 match xs, hl with
 | [a0, a1, a2], _ =>
   simp at e0 e1 e2
   subst e0
   subst e1
   subst e2
   exact ⟨⟨z0, z1, z2⟩, rfl, ⟨o0, o1, o2⟩⟩
theorem xa (n : Nat) (xs : List V) (h : ShC Tryz.prog (n + 5) 77 xs) : ∃ r : ai, xs = r.cs ∧ r.ok := by
 obtain ⟨hl, hf⟩ := gn Tryz.underlying77 h
 rw [Tryz.cz77] at hl
 simp only [List.mem_cons, List.not_mem_nil, or_false, forall_eq_or_imp, forall_eq, Tryz.aps, Tryz.ar9] at hf
 obtain ⟨h0, h1⟩ := hf
 obtain ⟨z0, e0, o0⟩ := aea (n + 0) _ h0
 obtain ⟨z1, e1, o1⟩ := acz (n + 2) _ h1
 match xs, hl with
 | [a0, a1, a2, a3, a4, a5, a6, a7], _ =>
   simp [ab.cs, Log.cs] at e0 e1
   obtain ⟨rfl, rfl, rfl, rfl, rfl⟩ := e0
   obtain ⟨rfl, rfl, rfl⟩ := e1
   exact ⟨⟨z0, z1⟩, rfl, ⟨o0, o1⟩⟩
theorem lifted (os : Os) (started : os.Started) (H : Type) (enc : TypeId × Value → H) :
   ReturnsInHanded {} Tryz.checked os 8 .any (fun w args => (Rows.fnExactRunScriptSpec.pre enc Tryz.prog Tryz.f8 [] false w args ∧ laidMetH Tryz.prog Rows.fnExactRunScriptRow.laid w) ∧ sizedMet enc Tryz.prog Tryz.f8 (OpenSpec.ofChange Rows.fnExactRunScriptSpec) false w args) (Rows.fnExactRunScriptSpec.post enc Tryz.prog Tryz.f8 false true false false) := by
 refine qa (C := Tryz.checked) (X := fun w _ => laidMetH Tryz.prog Rows.fnExactRunScriptRow.laid w) (fun _ _ _ hh h => h.of_heap hh) own started (by kernel_rfl) Tryz.func8
   (ChangeSpec.witness_shaped (enc := enc) (C := Tryz.checked) (os := os) (X := fun w _ => laidMetH Tryz.prog Rows.fnExactRunScriptRow.laid w) false (World.laidAll Tryz.prog os Rows.fnExactRunScriptRow.laid) #[.agg #[.int .i64 0, .slice none 0 0, .slice none 0 0, .int .i64 0, .int .i64 0, .string ByteArray.empty, .string ByteArray.empty, .int .i64 0], .string ByteArray.empty] 8 (World.laidAll_os _ _ _) (World.shaped_of_ZipB (by kernel_rfl) (by kernel_rfl)) (by kernel_rfl) (by kernel_rfl) (by kernel_rfl) (by rw [MakeChecks.laidMetH_plain _ _ _ (by kernel_rfl)]; exact laidMet_laidAll _ (by kernel_rfl) (by kernel_rfl))) ?_
 intro W base args ds gs before hval0 hW hcnd _ hL hsh _
 rw [MakeChecks.laidMetH_plain _ _ _ (by kernel_rfl)] at hL
 have hgl : GL W (fun _ => False) := yw hL hsh
 have hval : ∀ (j : Nat) t v, Tryz.f8.params[j]? = some t → args[j]? = some v → Value.okWide Tryz.prog W .any base t v := hval0
 have hW' := hW
 obtain ⟨p, q, hA0, hV, rfl, hfz, hnd⟩ := hW
 have hA : DataW.TrodAll enc Tryz.prog W 0 (fun _ => true) true Tryz.f8.params.toList args.toList ds p := hA0
 rw [Tryz.params8] at hA hval
 obtain ⟨v0, vs0, d0, ds0, p0, q0, hargs0, rfl, rfl, h0, r0⟩ := trodAll_cons hA
 obtain ⟨v1, vs1, d1, ds1, p1, q1, hargs1, rfl, rfl, h1, r1⟩ := trodAll_cons r0
 obtain ⟨rfl, rfl, rfl⟩ := trodAll_nil r1
 subst hargs1
 obtain rfl : args = #[v0, v1] := by cases args; simp_all
 obtain ⟨rfl, rfl⟩ := trodVars_none hV
 have k0 := h0
 have lt0 : ∀ x ∈ p0, x.block < W.heap.size := by obtain ⟨m, hm⟩ := k0; exact DataW.trod_lt m _ _ _ hm
 have k1 := h1
 have lt1 : ∀ x ∈ p1, x.block < W.heap.size := by obtain ⟨m, hm⟩ := k1; exact DataW.trod_lt m _ _ _ hm
 obtain ⟨x0, w0, s0⟩ := agz (n := 5) (fun _ => 0) Tryz.underlying77 (hval 0 77 v0 rfl rfl) h0 (by kernel_rfl)
 obtain ⟨z0, e0, o0⟩ := xa 0 _ s0
 subst e0
 obtain ⟨b1, rfl⟩ := okWide_string Tryz.underlying9 (hval 1 9 v1 rfl rfl)
 obtain ⟨x1, w1, s1⟩ := ag4 (n := 1) (fun _ => 0) rfl h1 (by kernel_rfl)
 obtain ⟨z1, e1, o1⟩ := qo (n := 0) Tryz.underlying9 s1
 obtain rfl := List.singleton_inj.1 e1
 clear hA0 hval0
 refine (law_walk (fun _ => 0) (ado z0 z1 o0 o1) hgl rfl (fun i hi => by
     match i, hi with
     | 0, _ => exact w0
     | 1, _ => exact w1)).mono fun e W' ⟨he, bel⟩ => ?_
 subst he
 exact ⟨_, rfl, _, _, _, [], _, [], hW', trodAll_mk1 (shut_bool Tryz.underlying4 _), (trodAll_cons_mk (Below.trod laidOut (by kernel_rfl) (of_decide_eq_true (by kernel_rfl)) k0 bel lt0) (trodAll_cons_mk (Below.trod laidOut (by kernel_rfl) (of_decide_eq_true (by kernel_rfl)) k1 bel lt1) trodAll_mk0)), rfl, bel.frame _, fun h => by cases h⟩
theorem k1 : (Rows.fnExactRunScriptRow.inPlace == Tryz.prog.inPlace 8) = true := by kernel_rfl
theorem k2 : (Rows.fnExactRunScriptRow.unfollowed == Tryz.prog.unfollowed 8) = true := by kernel_rfl
theorem k3 : (Rows.fnExactRunScriptRow.recurses == Tryz.prog.recurses 8) = true := by kernel_rfl
theorem k4 : (Rows.fnExactRunScriptRow.named == Tryz.prog.varsNamed 8) = true := by kernel_rfl
theorem k5 : namedTie Tryz.prog Rows.fnExactRunScriptRow.named Rows.fnExactRunScriptSpec.vars = true := by kernel_rfl
theorem k6 : Rows.fnExactRunScriptRow.wf (OpenSpec.ofChange Rows.fnExactRunScriptSpec) = true := by kernel_rfl
theorem k7 : Tryz.checked.prog.funcNamed Rows.fnExactRunScriptRow.func = some 8 := by kernel_rfl
theorem facts : joinedFacts Tryz.prog 8 Tryz.f8 Rows.fnExactRunScriptSpec Rows.fnExactRunScriptRow = true := by
 simp only [joinedFacts, Bool.and_eq_true]
 repeat' (refine And.intro ?_ ?_)
 all_goals first | with_reducible (first | exact k6 | exact pf1 | exact pf2 | exact pf3 | exact pf4 | exact pf5 | exact pf6 | exact k1 | exact k2 | exact k3 | exact k4 | exact k5) | (with_reducible show (_ == Tryz.prog.plainKeys) = true; exact pf7) | (with_reducible show (_ == Tryz.prog.liftsFinal) = true; exact pf8) | (with_reducible show (Tryz.prog.make == _) = true; exact pf9) | kernel_rfl
theorem over : Rows.fnExactRunScriptRow.holds Tryz.pinned (OpenSpec.ofChange Rows.fnExactRunScriptSpec) :=
 OpenClaim.holds_of_wide 8 Tryz.f8 rfl rfl rfl rfl rfl rfl rfl ⟨rfl, rfl, rfl, rfl, rfl⟩ rfl rfl rfl rfl rfl k7 Tryz.func8 facts
   (of_decide_eq_true (by kernel_rfl)) (by unfold Func.isWrapper; first | (rw [if_pos (by decide +kernel)]; kernel_rfl) | (rw [if_neg (by decide +kernel)]; exact ⟨rfl, rfl⟩))
   (fun os started H enc _ => lifted os started H enc)
theorem proved : Rows.FnExactRunScriptCardSaid :=
 Claim7.holds_tied_plain_at .later [] [.data, .data, .data, .data, .sentinel, .sentinel, .pinned] true Rows.fnExactRunScriptCard.stood.harness Rows.fnExactRunScriptCard.stood.looks
   over (fun _ h => by cases h) (by kernel_rfl) (fun _ h => by cases h) fnExactRunScript_row_tie rfl ⟨rfl, rfl⟩ (by kernel_rfl) rfl
   (fun f fn hf hfn => by
     obtain rfl : f = 8 := Option.some.inj (k7.symm.trans hf) |>.symm
     obtain rfl : fn = Tryz.f8 := (Option.some.inj (Tryz.func8.symm.trans hfn)).symm
     exact ⟨by kernel_rfl, fun j t ht => by
       rw [Tryz.params8] at ht
       have hm : t ∈ [77, 9] := by simpa using Array.mem_of_getElem? ht
       have hall : ([77, 9].all fun u => !Tryz.prog.wantsStandIn u) = true := by kernel_rfl
       exact (show Tryz.prog.wantsStandIn t = false by simpa using List.all_eq_true.1 hall t hm)⟩)
   (by kernel_rfl)
end Go.Proofs.YtfpkiomipjmabaaGreatDoor.lawRunScript
end
