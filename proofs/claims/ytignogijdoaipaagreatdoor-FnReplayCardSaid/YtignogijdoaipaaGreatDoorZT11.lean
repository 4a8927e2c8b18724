/-
  A part of the proof: texts put together by a program of the prover. Conditions: none.
-/
import Derived.Test.YtignogijdoaipaaGreatDoorZT7
import Derived.Test.YtignogijdoaipaaGreatDoorRows
import Derived.Lay
import Derived.Handed
import Derived.Stop.LaidErr
import Derived.Stop.Joined
import Derived.Shelf.Vars
import Derived.ShapedOpen
set_option linter.unusedSimpArgs false
set_option linter.unusedVariables false
section
set_option maxRecDepth 100000
namespace Go
variable {H : Type} {enc : TypeId × Value → H}
theorem ae4 {a : Assume} {C : Checked} {os : Os} {f : FuncId} {fn : Func} {s : ChangeSpec} {conds : List PathCond} {apart fresh handsOn again : Bool} {X : World → Array Value → Prop}
 (hX : ∀ (w w' : World) (args : Array Value), w.heap = w'.heap → X w args → X w' args)
 (own : ownKnob C.prog.godebug = none) (started : os.Started) (noInit : C.prog.inits.idxOf? f = none) (hfn : C.prog.funcs[f]? = some fn)
 (witness : ∃ (w : World) (tape : Tape) (i : Input), w.os = os ∧ (w.forCall tape i).Shaped C.prog ∧ i.vars = [] ∧ Input.okWide C.prog (w.forCall tape i) .any w.heap.size f i ∧
  ((s.pre enc C.prog fn conds apart (w.forCall tape i).memory i.args ∧ X (w.forCall tape i).memory i.args) ∧ sizedMet enc C.prog fn (OpenSpec.ofChange s) apart (w.forCall tape i).memory i.args) ∧ a.holds C.prog (lone (Frame.enter C.prog f i.args .normal) [] (w.forCall tape i)))
 (contract : ∀ (W : World) (base : Nat) (args : Array Value) (ds gs : List (DataW H)) (before : List MemPlace),
  (∀ (j : Nat) t v, fn.params[j]? = some t → args[j]? = some v → Value.okWide C.prog W .any base t v) →
  DataW.Whole enc C.prog fn.params.toList s.vars apart W args.toList ds gs before →
  conds.all (PathCond.test C.prog ⟨fn.params.toList, ds, s.plain.varTypes C.prog, gs⟩) = true →
  (DataW.weightsEach C.prog (fn.params.toList ++ s.plain.varTypes C.prog) (ds ++ gs)).all (· ≤ reachBytes) = true → X W args → W.ShapedOpen C.prog →
  a.holds C.prog (lone (Frame.enter C.prog f args .normal) [] W) →
  Calls C.prog f args W fun e W' => ∃ v, e = .returned v ∧ s.post enc C.prog fn apart fresh handsOn again W args v W') :
 ReturnsInHanded a C os f .any (fun w args => (s.pre enc C.prog fn conds apart w args ∧ X w args) ∧ sizedMet enc C.prog fn (OpenSpec.ofChange s) apart w args) (s.post enc C.prog fn apart fresh handsOn again) := by
 refine returnsInHanded_of_calls own started noInit witness ?_
 intro w tape i _ hsh _ hok hpre hholds
 obtain ⟨_, _, _, fn', hfn', _, _, _, _, hval⟩ := hok
 have e : fn' = fn := Option.some.inj (hfn'.symm.trans hfn)
 subst e
 obtain ⟨⟨⟨ds, gs, before, hw, hc⟩, hx⟩, hz⟩ := hpre
 have hw' := DataW.Whole.of_heap (w' := w.forCall tape i) (by rfl) hw
 refine (contract (w.forCall tape i) w.heap.size i.args ds gs before hval hw' hc (hz.weights hw) (hX _ _ _ (by rfl) hx) hsh hholds).mono fun e W' ⟨v, he, hp⟩ => ?_
 subst he
 exact ChangeSpec.post_blind hp
end Go
namespace Go.Proofs
open Go.Lv
theorem ajp : "*" ++ "errors.errorString" = "*errors.errorString" := by decide
theorem aob (u : TypeId) (h : Tryz.prog.typeName? 3 u = some "*errors.errorString") : u = 228 :=
 typeName_ptr_named (nm := "errors.errorString") (by rw [ajp]; kernel_rfl) (by kernel_rfl) (by decide) u (by rw [ajp]; exact h)
theorem wo {W : World} {r r2 : List (String × DataW Unit)} (h : Lib.TabIs Tryz.prog W "internal/strconv.uint64pow10" .u64 Lib.pow10Tab)
 (he : laidMet Tryz.prog (("strconv.ErrSyntax", .iface "*errors.errorString" (.ptr (.agg [.lit (.string [105, 110, 118, 97, 108, 105, 100, 32, 115, 121, 110, 116, 97, 120])]))) :: r) W)
 (he2 : laidMet Tryz.prog (("strconv.ErrRange", .iface "*errors.errorString" (.ptr (.agg [.lit (.string [118, 97, 108, 117, 101, 32, 111, 117, 116, 32, 111, 102, 32, 114, 97, 110, 103, 101])]))) :: r2) W) (hsh : W.ShapedOpen Tryz.prog) : GL W (fun _ => False) := by
 refine amb h (fun p hp => ⟨fun h => h, ?_⟩)
 have hp' : p = (1, true) ∨ p = (2, true) ∨ p = (0, false) := by simpa [aho] using hp
 rcases hp' with rfl | rfl | rfl
 · obtain ⟨a, s, hv, _⟩ := laid_sentinel he (g := 1) (by kernel_rfl) (by kernel_rfl) Tryz.underlying137 aob Tryz.underlying228 Tryz.underlying230 rfl rfl Tryz.underlying9 (by kernel_rfl) (by kernel_rfl)
   have hg : Tryz.prog.globalNamed "strconv.ErrSyntax" = some 1 := by kernel_rfl
   unfold World.var? at hv
   rw [hg, Option.bind_some] at hv
   dsimp only at hv ⊢
   split at hv
   · rename_i cs T fr hc
     simp only [Option.some.injEq] at hv
     subst hv
     exact ⟨_, T, fr, _, hc, rfl, .inr ⟨_, _, rfl⟩⟩
   · cases hv
 · obtain ⟨a, s, hv, _⟩ := laid_sentinel he2 (g := 2) (by kernel_rfl) (by kernel_rfl) Tryz.underlying137 aob Tryz.underlying228 Tryz.underlying230 rfl rfl Tryz.underlying9 (by kernel_rfl) (by kernel_rfl)
   have hg : Tryz.prog.globalNamed "strconv.ErrRange" = some 2 := by kernel_rfl
   unfold World.var? at hv
   rw [hg, Option.bind_some] at hv
   dsimp only at hv ⊢
   split at hv
   · rename_i cs T fr hc
     simp only [Option.some.injEq] at hv
     subst hv
     exact ⟨_, T, fr, _, hc, rfl, .inr ⟨_, _, rfl⟩⟩
   · cases hv
 · obtain ⟨m, hm⟩ := cell_of_shapedOpen_int (g := 0) (zero := #[.int .i64 0]) (t := 3) hsh (of_decide_eq_true (by kernel_rfl)) (by kernel_rfl) rfl (by kernel_rfl) (by kernel_rfl) Tryz.underlying3
   unfold World.cell? at hm
   dsimp only at hm ⊢
   split at hm
   · rename_i cs T fr hc
     exact ⟨cs, T, fr, _, hc, by simpa using hm, m, rfl⟩
   · cases hm
end Go.Proofs
end
