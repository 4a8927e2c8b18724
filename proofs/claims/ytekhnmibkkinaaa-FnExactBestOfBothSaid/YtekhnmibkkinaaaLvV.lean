/-
  A block lent by its place in the call. Conditions: none.
-/
import Derived.Test.YtekhnmibkkinaaaLvR
set_option linter.unusedSimpArgs false
set_option linter.unusedVariables false
namespace Go.Lv
theorem callS.lend1 {P : Program} {t : List V} {h : Hp} {k : Nat} {dst : Option Tmp} {g : FuncId} {id off n w : Nat} {rest rest' : List V} {K : St → Prop} {x : Tag K} {b : Option (List V)} {r : V} {hout : Hp}
    (hs : Ctr P g (.osl 0 off n w :: rest') [b] r hout) (hle : LeL (rest.map (ren (pickF [id] h false) 3)) rest') (hb : pickB [id] h false id = b) (hg : grown [b] hout) (hk : K (afterM ⟨t, h, k⟩ dst [id] r hout)) :
    callS P ⟨t, h, k⟩ dst (.fn (.func g) [] []) (.osl id off n w :: rest) K x := by
  refine callS.lend [id] false hs (by simp) ?_ (by simp [pickH, hb]) hg (.inl rfl) hk
  simp only [List.nil_append, List.append_nil, List.map_cons]
  exact ⟨.inl (by simp [ren, pickF, posOf]), hle⟩
theorem lendB_one {α : Type} {cs : α → List V} {w : Nat} [FlatP cs w] {h : Hp} {id : Nat} {fz : Bool} {L : List α} (hid : h[id]? = some (some (rows cs L))) : pickB [id] h fz id = some (rows cs L) := by
  simp only [pickB, hid, map_ren_rows]
end Go.Lv
