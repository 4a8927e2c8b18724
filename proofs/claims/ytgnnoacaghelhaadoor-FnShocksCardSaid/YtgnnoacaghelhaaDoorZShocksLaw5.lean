/-
  A part of the proof: texts put together by a program of the prover. Conditions: none.
-/
import Derived.Test.YtgnnoacaghelhaaDoorZShocksLaw4
set_option linter.unusedSimpArgs false
set_option linter.unusedVariables false
section
set_option maxRecDepth 100000
namespace Go.Proofs
open Go.Lv
theorem Ctr.raw {P : Program} {f : FuncId} {args : List V} {hin : Hp} {r : V} {hout : Hp} (hok : okF P f = true)
   (h : ∀ (w : World) (vs : Array Value) (m : Nat → Nat) (av : Nat → Prop), Inv w m hin av ⟨args, hin, hin.length⟩ { tmps := vs, defers := [] } w m → vs.size = args.length →
     Calls P f vs w fun e w' => ∃ v m' s a, e = .returned v ∧ s.h = hout ∧ Inv w m hin av s a w' m' ∧ RV w' m' hout (avm av m' hout) true v r) : Ctr P f args hin r hout := by
 refine ⟨hok, fun w vs m av hH hav hgl hs ha => ?_⟩
 have hav' : ∀ b, avm av m hin b → av b := fun b hb => by
   rcases hb with hb | ⟨id, cs, h1, rfl⟩
   · exact hb
   · exact hH.avd id cs h1
 have hstep : ∀ {o : Bool} {v : Value} {x : V}, RV w m hin av o v x → RV w m hin (avm av m hin) o v x :=
   fun {o v x} hx => RV.step (w := w) (w' := w) (m := m) (m' := m) (h := hin) (h' := hin) (av := av) (av' := avm av m hin) (fun b off v hb hc => ⟨fun h => hb (hav' b h), hc⟩) (fun id c hid => ⟨c, hid, Nat.le_refl _, rfl, Nat.le_refl _, rfl⟩) hx
 have I : Inv w m hin av ⟨args, hin, hin.length⟩ { tmps := vs, defers := [] } w m := by
   refine ⟨⟨hH.inj, fun id cs h => .inr ⟨id, cs, h, rfl⟩, fun id cs h => ?_⟩, hs, fun i hi => hstep (ha i hi), rfl, Ext.refl _ _, fun id cs h => .inl ⟨id_lt h, cs, h, Nat.le_refl _, .inl rfl⟩, hav, fun b ⟨id, cs, h1, h2⟩ => h2 ▸ hH.avd id cs h1, hgl, rfl, Nat.le_refl _⟩
   exact (hH.blk id cs h).step rfl (fun v x => hstep)
 refine (h w vs m av I hs).mono ?_
 rintro e w' ⟨v, m', s, a, rfl, rfl, I', hv⟩
 exact ⟨v, m', rfl, I'.ext, I'.rh, hv, I'.ids⟩
end Go.Proofs
end
