/-
  Bytes: rows of them, and strings made of them. Conditions: none.
-/
import Derived.Test.YtfnlgojocgdmcaaDoorLvR
import Derived.Test.YtfnlgojocgdmcaaDoorLvW
set_option linter.unusedSimpArgs false
set_option linter.unusedVariables false
set_option maxRecDepth 100000
namespace Go.Proofs
open Go.Lv
/-- A byte. -/
def u8R (x : Int) : Prop := 0 ≤ x ∧ x ≤ 255
def ByteS.cs (x : Int) : List V := [.int .u8 x]
instance instFlatPByteS : FlatP ByteS.cs 1 := ⟨fun _ => rfl, fun _ d => by cases d <;> rfl, fun _ => rfl, fun _ => rfl⟩
theorem ByteS.csl (a : Int) : (ByteS.cs a).length = 1 := rfl
abbrev ByteS.ok (x : Int) : Prop := u8R x
abbrev ByteS.sl (L : List Int) : V := .sl L.length 1 (Go.Lv.rows ByteS.cs L)

def nums (b : ByteArray) : List Int := b.data.toList.map fun c => (c.toNat : Int)
theorem strCells_rows (b : ByteArray) : strCells b = Go.Lv.rows ByteS.cs (nums b) := by
  unfold strCells nums Go.Lv.rows
  generalize b.data.toList = l
  induction l with
  | nil => rfl
  | cons c l ih => simp only [List.map_cons, List.flatMap_cons, ← ih]; rfl
theorem nums_len (b : ByteArray) : (nums b).length = b.size := by simp [nums]
theorem bytesL_rows (L : List Int) : bytesL (Go.Lv.rows ByteS.cs L) = some L := by
  induction L with
  | nil => rfl
  | cons x l ih =>
    have : Go.Lv.rows ByteS.cs (x :: l) = .int .u8 x :: Go.Lv.rows ByteS.cs l := rfl
    rw [this]
    simp [bytesL, ih]
theorem strOfNums_nums (b : ByteArray) : strOfNums (nums b) = b := by
  unfold strOfNums nums
  rw [List.map_map]
  have : (fun n : Int => UInt8.ofNat n.toNat) ∘ (fun c : UInt8 => (c.toNat : Int)) = id := by
    funext c; simp
  rw [this, List.map_id]
theorem strOfNums_append (x y : List Int) : strOfNums (x ++ y) = strOfNums x ++ strOfNums y := by
  unfold strOfNums
  apply ByteArray.ext
  simp
theorem nums_append (x y : ByteArray) : nums (x ++ y) = nums x ++ nums y := by simp [nums]
theorem nums_u8 {b : ByteArray} {x : Int} (h : x ∈ nums b) : 0 ≤ x ∧ x ≤ 255 := by
  simp only [nums, List.mem_map] at h
  obtain ⟨c, _, rfl⟩ := h
  have := c.toNat_lt
  omega
end Go.Proofs
