/-
  Bulletins: the largest event since a tick; the events near a place. Conditions: none.
-/
import Derived.Test.YtekhnmibkkinaaaF24
import Derived.Test.YtekhnmibkkinaaaTIntS
set_option linter.unusedSimpArgs false
set_option linter.unusedVariables false
set_option maxRecDepth 100000
namespace Go.Proofs
open Go.Lv
def biP (L : List QuakeRow) (o : Option Nat) (r : QuakeRow) : Bool := match o with
  | none => true
  | some b => match L[b]? with
    | some q => decide (q.Size < r.Size)
    | none => true
/-- The index of the best event among the first ones. -/
def bi (L : List QuakeRow) (t : Int) : Nat → Option Nat
  | 0 => none
  | i + 1 => match L[i]? with
    | none => bi L t i
    | some r => if t ≤ r.Tick ∧ biP L (bi L t i) r = true then some i else bi L t i
theorem bi_lt {L : List QuakeRow} {t : Int} : ∀ {i b : Nat}, bi L t i = some b → b < i ∧ b < L.length
  | 0, _, h => by simp [bi] at h
  | i + 1, b, h => by
    unfold bi at h
    split at h
    · have := bi_lt h; omega
    · rename_i r hr
      split at h
      · simp at h; subst h
        exact ⟨by omega, (List.getElem?_eq_some_iff.1 hr).1⟩
      · have := bi_lt h; omega
theorem bi_succ {L : List QuakeRow} {t : Int} {i : Nat} (hi : i < L.length) : bi L t (i + 1) = if t ≤ L[i].Tick ∧ biP L (bi L t i) L[i] = true then some i else bi L t i := by
  rw [bi, List.getElem?_eq_getElem hi]
def largeR (L : List QuakeRow) (t : Int) : List V := if bulB L = true ∧ inB' t 0 1000000 = true then
    match bi L t L.length with
    | none => [.int .i64 0, .bool false]
    | some b => match L[b]? with
      | some q => [.int .i64 q.Id, .bool true]
      | none => [.int .i64 0, .bool false]
  else [.int .i64 0, .bool false]
def biI (o : Option Nat) : Int := match o with
  | none => -1
  | some b => b
end Go.Proofs
