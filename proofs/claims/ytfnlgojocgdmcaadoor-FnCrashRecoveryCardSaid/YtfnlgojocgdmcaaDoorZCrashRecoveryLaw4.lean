/-
  A part of the proof: texts put together by a program of the prover. Conditions: none.
-/
import Derived.Test.YtfnlgojocgdmcaaDoorZCrashRecoveryLaw3
import Derived.KernelRfl
import Derived.Test.YtfnlgojocgdmcaaDoorProg
set_option linter.unusedSimpArgs false
set_option linter.unusedVariables false
section
set_option linter.unusedSimpArgs false
set_option linter.unusedVariables false
namespace Go.Lv

/-- The cells of a list, one element behind the other. -/
def rows {α : Type} (cs : α → List V) (L : List α) : List V := L.flatMap cs

section
variable {α : Type} {cs : α → List V} {w : Nat}

theorem rows_len (h : ∀ a, (cs a).length = w) (L : List α) : (rows cs L).length = L.length * w := by
  induction L with
  | nil => simp [rows]
  | cons a L ih => simp [rows, h] at ih ⊢; rw [ih, Nat.succ_mul, Nat.add_comm]

theorem rowsOf_append (L K : List α) : rows cs (L ++ K) = rows cs L ++ rows cs K := by simp [rows]
theorem rows_cons (a : α) (L : List α) : rows cs (a :: L) = cs a ++ rows cs L := by simp [rows]
theorem rows_one (a : α) : rows cs [a] = cs a := by simp [rows]

theorem rows_drop (h : ∀ a, (cs a).length = w) (L : List α) (i : Nat) : (rows cs L).drop (i * w) = rows cs (L.drop i) := by
  induction i generalizing L with
  | zero => simp
  | succ i ih =>
    cases L with
    | nil => simp [rows]
    | cons a L =>
      rw [rows_cons, Nat.succ_mul, Nat.add_comm, ← List.drop_drop, List.drop_append, h a, Nat.sub_self, List.drop_zero]
      rw [show (cs a).drop w = [] by simp [h]]
      simpa using ih L

theorem rows_at (h : ∀ a, (cs a).length = w) {L : List α} {i : Nat} (hi : i < L.length) : ((rows cs L).drop (i * w)).take w = cs L[i] := by
  rw [rows_drop h, List.drop_eq_getElem_cons hi, rows_cons, List.take_append, h, Nat.sub_self, List.take_zero, List.append_nil, List.take_of_length_le (by simp [h])]

theorem rows_all {p : V → Bool} (h : ∀ a, (cs a).all p = true) (L : List α) : (rows cs L).all p = true := by
  induction L with
  | nil => rfl
  | cons a L ih => rw [rows_cons, List.all_append, h a, ih]; rfl

theorem map_ren (f : Nat → R) {d : Nat} {l : List V} (h : l.all (noOwn d) = true) : l.map (ren f d) = l := by
  rw [List.map_congr_left (g := id) (fun x hx => ren_noOwn f d x (List.all_eq_true.1 h x hx)), List.map_id]

theorem wrap_i64 {n : Int} (h0 : -9223372036854775808 ≤ n) (h1 : n ≤ 9223372036854775807) : IntKind.i64.wrap n = n := by
  rw [IntKind.wrap_i64]; omega

/-- What an argument's values keep to. -/
def i64R (z : Int) : Prop := -9223372036854775808 ≤ z ∧ z ≤ 9223372036854775807
def strR (s : ByteArray) : Prop := s.size ≤ 9223372036854775807
def lstR (ok : α → Prop) (L : List α) : Prop := L.length ≤ 9223372036854775807 ∧ ∀ x ∈ L, ok x

/-- An encoder whose elements are rows of plain cells. -/
class FlatP (cs : α → List V) (w : outParam Nat) : Prop where
  len : ∀ a, (cs a).length = w
  plain : ∀ a d, (cs a).all (noOwn d) = true
  cell : ∀ a, (cs a).all isCell = true
  noro : ∀ a, (cs a).all (noRoB 0) = true

theorem rows_length [FlatP cs w] (L : List α) : (rows cs L).length = L.length * w := rows_len FlatP.len L
theorem map_ren_rows [FlatP cs w] (f : Nat → R) (d : Nat) (L : List α) : (rows cs L).map (ren f d) = rows cs L := map_ren f (rows_all (fun a => FlatP.plain a d) L)
theorem rows_cell [FlatP cs w] (L : List α) : (rows cs L).all isCell = true := rows_all FlatP.cell L
theorem rows_noRo [FlatP cs w] (L : List α) : (rows cs L).all (noRoB 0) = true := rows_all FlatP.noro L
theorem rows_noOwn [FlatP cs w] (L : List α) (d : Nat) : (rows cs L).all (noOwn d) = true := rows_all (fun a => FlatP.plain a d) L
theorem rows_refV [FlatP cs w] (p : Nat → Bool) (L : List α) (d : Nat) : (rows cs L).all (refV p d) = true := List.all_eq_true.2 fun x hx => refV_noOwn p d x (List.all_eq_true.1 (rows_noOwn (cs := cs) L d) x hx)
theorem noRoH_rows [FlatP cs w] (L : List α) : NoRoH [some (rows cs L)] := NoRoH.of (by simp only [hpNoRo, List.all_cons, List.all_nil, rows_noRo, Bool.and_self])
theorem take_rows [FlatP cs w] (L : List α) : (rows cs L).take (L.length * w) = rows cs L := List.take_of_length_le (by rw [rows_length]; exact Nat.le_refl _)

/-- A block of our own handed to a callee that only reads. -/
theorem le_snap [FlatP cs w] {h : Hp} {id : Nat} {L : List α} (hid : h[id]? = some (some (rows cs L))) : LeV (ren (snapR h 3) 3 (.osl id 0 L.length w)) (.sl L.length w (rows cs L)) := by
  refine .inl ?_
  simp only [ren, snapR, hid, map_ren_rows, List.drop_zero, take_rows]
theorem le_snap' [FlatP cs w] {h : Hp} {id n : Nat} {L : List α} (hid : h[id]? = some (some (rows cs L))) (hn : n = L.length) : LeV (ren (snapR h 3) 3 (.osl id 0 n w)) (.sl L.length w (rows cs L)) := by
  subst hn; exact le_snap hid
theorem le_nil {h : Hp} {w : Nat} : LeV (ren (snapR h 3) 3 .nilsl) (.sl 0 w []) := .inr (.inr (.inl ⟨rfl, w, rfl⟩))
theorem LeV.aggR {f : Nat → R} {d : Nat} {cs cs' : List V} (h : LeA (cs.map (ren f d)) cs') : LeV (ren f (d + 1) (.agg cs)) (.agg cs') := LeV.agg h
theorem leE_snap [FlatP cs w] {h : Hp} {id n n' : Nat} {L : List α} (hid : h[id]? = some (some (rows cs L))) (hn : n = L.length) (hn' : n' = L.length) : LeE (ren (snapR h 3) 2 (.osl id 0 n w)) (.sl n' w (rows cs L)) := by
  subst hn hn'
  refine .inl ?_
  simp only [ren, snapR, hid, map_ren_rows, List.drop_zero, take_rows]
/-- What a function hands back that gives a list or says no: with an empty list, or with nil. -/
def optO (w : Nat) (R : Option (List α)) : V := match R with
  | some M => .tup [.osl 0 0 M.length w, .bool true]
  | none => .tup [.osl 0 0 0 w, .bool false]
def optOh (cs : α → List V) (R : Option (List α)) : Hp := match R with
  | some M => [some (rows cs M)]
  | none => [some []]
def optN (w : Nat) (R : Option (List α)) : V := match R with
  | some M => .tup [.osl 0 0 M.length w, .bool true]
  | none => .tup [.nilsl, .bool false]
def optNh (cs : α → List V) (R : Option (List α)) : Hp := match R with
  | some M => [some (rows cs M)]
  | none => []
theorem rows_snoc (L : List α) (a : α) : rows cs L ++ cs a = rows cs (L ++ [a]) := by rw [rowsOf_append, rows_one]

theorem splice_mid {A M ns : List V} {n j : Nat} (h : A.length = n) : splice (A ++ M) (n + j) ns = A ++ splice M j ns := by
  subst h
  unfold splice
  rw [List.take_append, List.drop_append, List.take_of_length_le (by omega), List.drop_of_length_le (by omega)]
  simp only [Nat.add_sub_cancel_left, List.nil_append, List.append_assoc]
  congr 3
  congr 1
  omega
/-- A list taken apart at an index. -/
theorem apart {L : List α} {i : Nat} (hi : i < L.length) : ∃ A B, L = A ++ L[i] :: B ∧ A.length = i ∧ A = L.take i ∧ B = L.drop (i + 1) := by
  refine ⟨L.take i, L.drop (i + 1), ?_, by simp; omega, rfl, rfl⟩
  rw [← List.drop_eq_getElem_cons hi, List.take_append_drop]

end

/-- What a call's arguments may be, proved by what they look like. -/
theorem leA {x y : V} (h : LeV x y := by first | exact le_snap rfl | exact .inl rfl | exact le_nil | exact le_snap' rfl (by simp) | exact LeV.aggR (by first | ((repeat' (first | exact True.intro | exact leE_snap rfl (by simp) (by simp) | exact LeE.nil | exact LeE.refl _ | refine And.intro ?_ ?_)); done) | fail)) : LeV x y := h
theorem callT.at {P : Program} {h : Hp} {g : FuncId} {a c args : List V} {K : V → Hp → Prop} {x : Tag K} {as' : List V} {r : V} {hout : Hp} (hs : Ctr P g as' [] r hout) (hle : LeL ((a ++ args ++ c).map (ren (snapR h 3) 3)) as') (hk : K r hout)
    (hro : (a ++ args ++ c).all (noOwn 3) = true ∨ NoRo r ∧ NoRoH hout := by first | exact .inl rfl | exact .inr ⟨noRo_ok 3 rfl, by first | exact NoRoH.nil | exact noRoH_rows _ | exact NoRoH.of (by simp only [hpNoRo, List.all_cons, List.all_nil, rows_noRo, Bool.and_self])⟩)
    (hrf : refOk h 4 (.fn (.func g) a c) = true ∧ args.all (refOk h 3) = true := by first | exact ⟨rfl, rfl⟩ | exact ⟨rfl, by simp [refOk, refV, refB, noOwn, rows_noOwn, rows_refV]⟩ | simp [refOk, refV, refB, noOwn, rows_noOwn, rows_refV]) : callT P h (.fn (.func g) a c) args K x :=
  callT.intro hs hle hro hrf hk
theorem callS.at {P : Program} {t : List V} {h : Hp} {k : Nat} {dst : Option Tmp} {g : FuncId} {a c args : List V} {K : St → Prop} {x : Tag K} {as' : List V} {r : V} {hout : Hp} (hs : Ctr P g as' [] r hout)
    (hle : LeL ((a ++ args ++ c).map (ren (snapR h 3) 3)) as') (hk : K (afterCall ⟨t, h, k⟩ dst r hout))
    (hro : (a ++ args ++ c).all (noOwn 3) = true ∨ NoRo r ∧ NoRoH hout := by first | exact .inl rfl | exact .inr ⟨noRo_ok 3 rfl, by first | exact NoRoH.nil | exact noRoH_rows _ | exact NoRoH.of (by simp only [hpNoRo, List.all_cons, List.all_nil, rows_noRo, Bool.and_self])⟩) : callS P ⟨t, h, k⟩ dst (.fn (.func g) a c) args K x :=
  callS.intro hs hle hro hk
theorem leO {x y : V} (h : LeV x y := by first | exact .inl rfl | exact LeV.aggR (by first | ((repeat' (first | exact True.intro | exact LeE.nil | exact LeE.refl _ | refine And.intro ?_ ?_)); done) | fail)) : LeV x y := h
/-- A side condition. -/
theorem sideA {a b : Prop} (hb : b) (ha : a := by first | omega | with_reducible rfl | (show drawOk _ = true; kernel_rfl) | (simp only [rows_length, rows_cell, List.length_append, List.length_cons, List.length_nil, List.all_append, List.all_cons, List.all_nil, isCell, Nat.mul_one, Nat.one_mul, Bool.and_self]; first | done | omega)) : a ∧ b := ⟨ha, hb⟩
attribute [go_sem] Nat.le_refl Int.toNat_natCast beq_self_eq_true bne_self_eq_false decide_true decide_false eq_self ne_eq Option.some.injEq not_false_eq_true Option.map_some map_ren_rows
end Go.Lv
end
section
set_option linter.unusedSimpArgs false
set_option linter.unusedVariables false
namespace Go.Lv
theorem splice_left {A B ns : List V} {f : Nat} (h : f + ns.length ≤ A.length) : splice (A ++ B) f ns = splice A f ns ++ B := by
  unfold splice
  rw [List.take_append_of_le_length (by omega), List.drop_append_of_le_length (by omega)]
  simp [List.append_assoc]
theorem splice_cell {α : Type} {cs : α → List V} {w : Nat} (hw : ∀ a, (cs a).length = w) {L : List α} {j f : Nat} {v : V} {x : α} (hj : j < L.length) (hf : f < w) (hx : cs x = splice (cs L[j]) f [v]) : splice (rows cs L) (j * w + f) [v] = rows cs (L.set j x) := by
  have e : L = L.take j ++ L[j] :: L.drop (j + 1) := by rw [← List.drop_eq_getElem_cons hj, List.take_append_drop]
  have e2 : L.set j x = L.take j ++ x :: L.drop (j + 1) := by rw [List.set_eq_take_append_cons_drop, if_pos hj]
  have hA : (rows cs (L.take j)).length = j * w := by rw [rows_len hw, List.length_take, Nat.min_eq_left (by omega)]
  rw [e2, rowsOf_append, rows_cons]
  conv => lhs; rw [e, rowsOf_append, rows_cons]
  rw [splice_mid hA, splice_left (by rw [hw]; simp; omega), hx]

end Go.Lv
end
section
set_option linter.unusedSimpArgs false
set_option linter.unusedVariables false
set_option maxRecDepth 100000
namespace Go.Proofs
open Go.Lv
/-- A byte. -/
def u8R (x : Int) : Prop := 0 ≤ x ∧ x ≤ 255
def ByteS.cs (x : Int) : List V := [.int .u8 x]
instance instFlatPByteS : FlatP ByteS.cs 1 := ⟨fun _ => rfl, fun _ d => by cases d <;> rfl, fun _ => rfl, fun _ => rfl⟩
theorem ByteS.csl (a : Int) : (ByteS.cs a).length = 1 := rfl
abbrev ByteS.ok (x : Int) : Prop := u8R x
abbrev ByteS.sl (L : List Int) : V := .sl L.length 1 (Go.Lv.rows ByteS.cs L)

def nums (b : ByteArray) : List Int := b.data.toList.map fun c => (c.toNat : Int)
theorem strCells_rows (b : ByteArray) : strCells b = Go.Lv.rows ByteS.cs (nums b) := by
  unfold strCells nums Go.Lv.rows
  generalize b.data.toList = l
  induction l with
  | nil => rfl
  | cons c l ih => simp only [List.map_cons, List.flatMap_cons, ← ih]; rfl
theorem nums_len (b : ByteArray) : (nums b).length = b.size := by simp [nums]
theorem bytesL_rows (L : List Int) : bytesL (Go.Lv.rows ByteS.cs L) = some L := by
  induction L with
  | nil => rfl
  | cons x l ih =>
    have : Go.Lv.rows ByteS.cs (x :: l) = .int .u8 x :: Go.Lv.rows ByteS.cs l := rfl
    rw [this]
    simp [bytesL, ih]
theorem strOfNums_nums (b : ByteArray) : strOfNums (nums b) = b := by
  unfold strOfNums nums
  rw [List.map_map]
  have : (fun n : Int => UInt8.ofNat n.toNat) ∘ (fun c : UInt8 => (c.toNat : Int)) = id := by
    funext c; simp
  rw [this, List.map_id]
theorem strOfNums_append (x y : List Int) : strOfNums (x ++ y) = strOfNums x ++ strOfNums y := by
  unfold strOfNums
  apply ByteArray.ext
  simp
theorem nums_append (x y : ByteArray) : nums (x ++ y) = nums x ++ nums y := by simp [nums]
theorem nums_u8 {b : ByteArray} {x : Int} (h : x ∈ nums b) : 0 ≤ x ∧ x ≤ 255 := by
  simp only [nums, List.mem_map] at h
  obtain ⟨c, _, rfl⟩ := h
  have := c.toNat_lt
  omega
end Go.Proofs
end
section
namespace Go.Proofs
open Go.Lv

theorem Tryd.mixed : Tryd.prog.follows .mixedOrders = true := by kernel_rfl
@[go_sem] theorem Tryd.tsz1 : tszOf Tryd.prog 1 = some (1, false) := by kernel_rfl
@[go_sem] theorem Tryd.udef1 : (Tryd.prog.underlying 1).isSome = true := by kernel_rfl
@[go_sem] theorem Tryd.zero1 : zeroOf Tryd.prog 1 = some [.lit ((Go.Value.nilFunc))] := by kernel_rfl
@[go_sem] theorem Tryd.tsz2 : tszOf Tryd.prog 2 = some (1, false) := by kernel_rfl
@[go_sem] theorem Tryd.udef2 : (Tryd.prog.underlying 2).isSome = true := by kernel_rfl
@[go_sem] theorem Tryd.zero2 : zeroOf Tryd.prog 2 = some [.int .i64 0] := by kernel_rfl
@[go_sem] theorem Tryd.isInt2 : isIntT Tryd.prog 2 = some .i64 := by kernel_rfl
@[go_sem] theorem Tryd.tsz3 : tszOf Tryd.prog 3 = some (1, false) := by kernel_rfl
@[go_sem] theorem Tryd.udef3 : (Tryd.prog.underlying 3).isSome = true := by kernel_rfl
@[go_sem] theorem Tryd.zero3 : zeroOf Tryd.prog 3 = some [.int .i64 0] := by kernel_rfl
@[go_sem] theorem Tryd.isInt3 : isIntT Tryd.prog 3 = some .i64 := by kernel_rfl
@[go_sem] theorem Tryd.tsz4 : tszOf Tryd.prog 4 = some (1, false) := by kernel_rfl
@[go_sem] theorem Tryd.udef4 : (Tryd.prog.underlying 4).isSome = true := by kernel_rfl
@[go_sem] theorem Tryd.zero4 : zeroOf Tryd.prog 4 = some [.bool false] := by kernel_rfl
@[go_sem] theorem Tryd.isBool4 : isBoolT Tryd.prog 4 = true := by kernel_rfl
@[go_sem] theorem Tryd.tsz5 : tszOf Tryd.prog 5 = some (1, false) := by kernel_rfl
theorem Tryd.cz5 : Tryd.prog.cellsOf 5 = 1 := by kernel_rfl
@[go_sem] theorem Tryd.udef5 : (Tryd.prog.underlying 5).isSome = true := by kernel_rfl
@[go_sem] theorem Tryd.zero5 : zeroOf Tryd.prog 5 = some [.int .u8 0] := by kernel_rfl
@[go_sem] theorem Tryd.isInt5 : isIntT Tryd.prog 5 = some .u8 := by kernel_rfl
@[go_sem] theorem Tryd.tsz6 : tszOf Tryd.prog 6 = some (1, false) := by kernel_rfl
@[go_sem] theorem Tryd.udef6 : (Tryd.prog.underlying 6).isSome = true := by kernel_rfl
@[go_sem] theorem Tryd.zero6 : zeroOf Tryd.prog 6 = some [.int .u8 0] := by kernel_rfl
@[go_sem] theorem Tryd.isInt6 : isIntT Tryd.prog 6 = some .u8 := by kernel_rfl
@[go_sem] theorem Tryd.tsz7 : tszOf Tryd.prog 7 = some (4, true) := by kernel_rfl
@[go_sem] theorem Tryd.udef7 : (Tryd.prog.underlying 7).isSome = true := by kernel_rfl
@[go_sem] theorem Tryd.zero7 : zeroOf Tryd.prog 7 = some [.int .i64 0, .int .i64 0, .bool false, .int .u8 0] := by kernel_rfl
@[go_sem] theorem Tryd.pl7 : plOf Tryd.prog 7 = some [(0, 1), (1, 1), (2, 1), (3, 1)] := by kernel_rfl
@[go_sem] theorem Tryd.tsz8 : tszOf Tryd.prog 8 = some (4, true) := by kernel_rfl
@[go_sem] theorem Tryd.udef8 : (Tryd.prog.underlying 8).isSome = true := by kernel_rfl
@[go_sem] theorem Tryd.zero8 : zeroOf Tryd.prog 8 = some [.int .i64 0, .int .i64 0, .bool false, .int .u8 0] := by kernel_rfl
@[go_sem] theorem Tryd.pl8 : plOf Tryd.prog 8 = some [(0, 1), (1, 1), (2, 1), (3, 1)] := by kernel_rfl
@[go_sem] theorem Tryd.tsz9 : tszOf Tryd.prog 9 = some (1, false) := by kernel_rfl
@[go_sem] theorem Tryd.udef9 : (Tryd.prog.underlying 9).isSome = true := by kernel_rfl
@[go_sem] theorem Tryd.zero9 : zeroOf Tryd.prog 9 = some [.str ByteArray.empty] := by kernel_rfl
@[go_sem] theorem Tryd.isU8S9 : isU8S Tryd.prog 9 = false := by kernel_rfl
@[go_sem] theorem Tryd.isIntN9 : isIntT Tryd.prog 9 = none := by kernel_rfl
@[go_sem] theorem Tryd.isStr9 : isStr Tryd.prog 9 = true := by kernel_rfl
@[go_sem] theorem Tryd.tsz10 : tszOf Tryd.prog 10 = some (1, false) := by kernel_rfl
@[go_sem] theorem Tryd.udef10 : (Tryd.prog.underlying 10).isSome = true := by kernel_rfl
@[go_sem] theorem Tryd.zero10 : zeroOf Tryd.prog 10 = some [.str ByteArray.empty] := by kernel_rfl
@[go_sem] theorem Tryd.isU8S10 : isU8S Tryd.prog 10 = false := by kernel_rfl
@[go_sem] theorem Tryd.isIntN10 : isIntT Tryd.prog 10 = none := by kernel_rfl
@[go_sem] theorem Tryd.isStr10 : isStr Tryd.prog 10 = true := by kernel_rfl
@[go_sem] theorem Tryd.tsz11 : tszOf Tryd.prog 11 = some (1, false) := by kernel_rfl
@[go_sem] theorem Tryd.udef11 : (Tryd.prog.underlying 11).isSome = true := by kernel_rfl
@[go_sem] theorem Tryd.zero11 : zeroOf Tryd.prog 11 = some [.str ByteArray.empty] := by kernel_rfl
@[go_sem] theorem Tryd.isU8S11 : isU8S Tryd.prog 11 = false := by kernel_rfl
@[go_sem] theorem Tryd.isIntN11 : isIntT Tryd.prog 11 = none := by kernel_rfl
@[go_sem] theorem Tryd.isStr11 : isStr Tryd.prog 11 = true := by kernel_rfl
@[go_sem] theorem Tryd.tsz12 : tszOf Tryd.prog 12 = some (1, false) := by kernel_rfl
@[go_sem] theorem Tryd.udef12 : (Tryd.prog.underlying 12).isSome = true := by kernel_rfl
@[go_sem] theorem Tryd.zero12 : zeroOf Tryd.prog 12 = some [.int .u64 0] := by kernel_rfl
@[go_sem] theorem Tryd.isInt12 : isIntT Tryd.prog 12 = some .u64 := by kernel_rfl
@[go_sem] theorem Tryd.tsz13 : tszOf Tryd.prog 13 = some (2, true) := by kernel_rfl
@[go_sem] theorem Tryd.udef13 : (Tryd.prog.underlying 13).isSome = true := by kernel_rfl
@[go_sem] theorem Tryd.zero13 : zeroOf Tryd.prog 13 = some [.str ByteArray.empty, .int .u64 0] := by kernel_rfl
@[go_sem] theorem Tryd.pl13 : plOf Tryd.prog 13 = some [(0, 1), (1, 1)] := by kernel_rfl
@[go_sem] theorem Tryd.tsz14 : tszOf Tryd.prog 14 = some (2, true) := by kernel_rfl
@[go_sem] theorem Tryd.udef14 : (Tryd.prog.underlying 14).isSome = true := by kernel_rfl
@[go_sem] theorem Tryd.zero14 : zeroOf Tryd.prog 14 = some [.str ByteArray.empty, .int .u64 0] := by kernel_rfl
@[go_sem] theorem Tryd.pl14 : plOf Tryd.prog 14 = some [(0, 1), (1, 1)] := by kernel_rfl
@[go_sem] theorem Tryd.tsz15 : tszOf Tryd.prog 15 = some (1, false) := by kernel_rfl
@[go_sem] theorem Tryd.udef15 : (Tryd.prog.underlying 15).isSome = true := by kernel_rfl
@[go_sem] theorem Tryd.zero15 : zeroOf Tryd.prog 15 = some [.lit ((Go.Value.pointer none))] := by kernel_rfl
@[go_sem] theorem Tryd.tsz16 : tszOf Tryd.prog 16 = some (1, false) := by kernel_rfl
@[go_sem] theorem Tryd.udef16 : (Tryd.prog.underlying 16).isSome = true := by kernel_rfl
@[go_sem] theorem Tryd.zero16 : zeroOf Tryd.prog 16 = some [.lit ((Go.Value.pointer none))] := by kernel_rfl
@[go_sem] theorem Tryd.tsz17 : tszOf Tryd.prog 17 = some (1, false) := by kernel_rfl
@[go_sem] theorem Tryd.udef17 : (Tryd.prog.underlying 17).isSome = true := by kernel_rfl
@[go_sem] theorem Tryd.zero17 : zeroOf Tryd.prog 17 = some [.lit ((Go.Value.pointer none))] := by kernel_rfl
@[go_sem] theorem Tryd.tsz18 : tszOf Tryd.prog 18 = some (1, true) := by kernel_rfl
@[go_sem] theorem Tryd.udef18 : (Tryd.prog.underlying 18).isSome = true := by kernel_rfl
@[go_sem] theorem Tryd.zero18 : zeroOf Tryd.prog 18 = some [.lit ((Go.Value.pointer none))] := by kernel_rfl
@[go_sem] theorem Tryd.pl18 : plOf Tryd.prog 18 = some [(0, 1)] := by kernel_rfl
@[go_sem] theorem Tryd.tsz19 : tszOf Tryd.prog 19 = some (1, true) := by kernel_rfl
@[go_sem] theorem Tryd.udef19 : (Tryd.prog.underlying 19).isSome = true := by kernel_rfl
@[go_sem] theorem Tryd.zero19 : zeroOf Tryd.prog 19 = some [.lit ((Go.Value.pointer none))] := by kernel_rfl
@[go_sem] theorem Tryd.pl19 : plOf Tryd.prog 19 = some [(0, 1)] := by kernel_rfl
@[go_sem] theorem Tryd.tsz20 : tszOf Tryd.prog 20 = some (1, false) := by kernel_rfl
@[go_sem] theorem Tryd.udef20 : (Tryd.prog.underlying 20).isSome = true := by kernel_rfl
@[go_sem] theorem Tryd.zero20 : zeroOf Tryd.prog 20 = some [.lit ((Go.Value.nilIface))] := by kernel_rfl
@[go_sem] theorem Tryd.tsz21 : tszOf Tryd.prog 21 = some (1, false) := by kernel_rfl
@[go_sem] theorem Tryd.udef21 : (Tryd.prog.underlying 21).isSome = true := by kernel_rfl
@[go_sem] theorem Tryd.zero21 : zeroOf Tryd.prog 21 = some [.int .i32 0] := by kernel_rfl
@[go_sem] theorem Tryd.isInt21 : isIntT Tryd.prog 21 = some .i32 := by kernel_rfl
@[go_sem] theorem Tryd.tsz22 : tszOf Tryd.prog 22 = some (3, true) := by kernel_rfl
@[go_sem] theorem Tryd.udef22 : (Tryd.prog.underlying 22).isSome = true := by kernel_rfl
@[go_sem] theorem Tryd.zero22 : zeroOf Tryd.prog 22 = some [.str ByteArray.empty, .str ByteArray.empty, .int .i64 0] := by kernel_rfl
@[go_sem] theorem Tryd.pl22 : plOf Tryd.prog 22 = some [(0, 1), (1, 1), (2, 1)] := by kernel_rfl
@[go_sem] theorem Tryd.tsz23 : tszOf Tryd.prog 23 = some (3, true) := by kernel_rfl
@[go_sem] theorem Tryd.udef23 : (Tryd.prog.underlying 23).isSome = true := by kernel_rfl
@[go_sem] theorem Tryd.zero23 : zeroOf Tryd.prog 23 = some [.str ByteArray.empty, .str ByteArray.empty, .int .i64 0] := by kernel_rfl
@[go_sem] theorem Tryd.flatEq23 : flatEq Tryd.prog 23 = some [.string, .string, .int .i64] := by kernel_rfl
@[go_sem] theorem Tryd.pl23 : plOf Tryd.prog 23 = some [(0, 1), (1, 1), (2, 1)] := by kernel_rfl
@[go_sem] theorem Tryd.fd23_0 : fdOf Tryd.prog 23 0 = some (0, 1, false) := by kernel_rfl
@[go_sem] theorem Tryd.fd23_1 : fdOf Tryd.prog 23 1 = some (1, 1, false) := by kernel_rfl
@[go_sem] theorem Tryd.fd23_2 : fdOf Tryd.prog 23 2 = some (2, 1, false) := by kernel_rfl
@[go_sem] theorem Tryd.tsz24 : tszOf Tryd.prog 24 = some (1, false) := by kernel_rfl
@[go_sem] theorem Tryd.udef24 : (Tryd.prog.underlying 24).isSome = true := by kernel_rfl
@[go_sem] theorem Tryd.zero24 : zeroOf Tryd.prog 24 = some [.lit ((Go.Value.nilFunc))] := by kernel_rfl
@[go_sem] theorem Tryd.tsz26 : tszOf Tryd.prog 26 = some (1, false) := by kernel_rfl
@[go_sem] theorem Tryd.udef26 : (Tryd.prog.underlying 26).isSome = true := by kernel_rfl
@[go_sem] theorem Tryd.zero26 : zeroOf Tryd.prog 26 = some [.lit ((Go.Value.nilFunc))] := by kernel_rfl
@[go_sem] theorem Tryd.tsz27 : tszOf Tryd.prog 27 = some (3, true) := by kernel_rfl
@[go_sem] theorem Tryd.udef27 : (Tryd.prog.underlying 27).isSome = true := by kernel_rfl
@[go_sem] theorem Tryd.zero27 : zeroOf Tryd.prog 27 = some [.str ByteArray.empty, .str ByteArray.empty, .int .i64 0] := by kernel_rfl
@[go_sem] theorem Tryd.flatEq27 : flatEq Tryd.prog 27 = some [.string, .string, .int .i64] := by kernel_rfl
@[go_sem] theorem Tryd.pl27 : plOf Tryd.prog 27 = some [(0, 1), (1, 1), (2, 1)] := by kernel_rfl
@[go_sem] theorem Tryd.fd27_0 : fdOf Tryd.prog 27 0 = some (0, 1, false) := by kernel_rfl
@[go_sem] theorem Tryd.fd27_1 : fdOf Tryd.prog 27 1 = some (1, 1, false) := by kernel_rfl
@[go_sem] theorem Tryd.fd27_2 : fdOf Tryd.prog 27 2 = some (2, 1, false) := by kernel_rfl
@[go_sem] theorem Tryd.tsz28 : tszOf Tryd.prog 28 = some (1, false) := by kernel_rfl
@[go_sem] theorem Tryd.udef28 : (Tryd.prog.underlying 28).isSome = true := by kernel_rfl
@[go_sem] theorem Tryd.zero28 : zeroOf Tryd.prog 28 = some [.lit ((Go.Value.nilFunc))] := by kernel_rfl
@[go_sem] theorem Tryd.tsz29 : tszOf Tryd.prog 29 = some (1, false) := by kernel_rfl
@[go_sem] theorem Tryd.udef29 : (Tryd.prog.underlying 29).isSome = true := by kernel_rfl
@[go_sem] theorem Tryd.zero29 : zeroOf Tryd.prog 29 = some [.lit ((Go.Value.nilFunc))] := by kernel_rfl
@[go_sem] theorem Tryd.tsz30 : tszOf Tryd.prog 30 = some (1, false) := by kernel_rfl
@[go_sem] theorem Tryd.udef30 : (Tryd.prog.underlying 30).isSome = true := by kernel_rfl
@[go_sem] theorem Tryd.zero30 : zeroOf Tryd.prog 30 = some [.nilsl] := by kernel_rfl
@[go_sem] theorem Tryd.el30 : elOf Tryd.prog 30 = some (5, 1, 1) := by kernel_rfl
@[go_sem] theorem Tryd.isSl30 : isSl Tryd.prog 30 = true := by kernel_rfl
@[go_sem] theorem Tryd.isU8S30 : isU8S Tryd.prog 30 = true := by kernel_rfl
@[go_sem] theorem Tryd.tsz31 : tszOf Tryd.prog 31 = some (1, false) := by kernel_rfl
@[go_sem] theorem Tryd.udef31 : (Tryd.prog.underlying 31).isSome = true := by kernel_rfl
@[go_sem] theorem Tryd.zero31 : zeroOf Tryd.prog 31 = some [.lit ((Go.Value.nilFunc))] := by kernel_rfl
@[go_sem] theorem Tryd.tsz32 : tszOf Tryd.prog 32 = some (2, true) := by kernel_rfl
@[go_sem] theorem Tryd.udef32 : (Tryd.prog.underlying 32).isSome = true := by kernel_rfl
@[go_sem] theorem Tryd.zero32 : zeroOf Tryd.prog 32 = some [.str ByteArray.empty, .str ByteArray.empty] := by kernel_rfl
@[go_sem] theorem Tryd.pl32 : plOf Tryd.prog 32 = some [(0, 1), (1, 1)] := by kernel_rfl
@[go_sem] theorem Tryd.tsz33 : tszOf Tryd.prog 33 = some (2, true) := by kernel_rfl
@[go_sem] theorem Tryd.udef33 : (Tryd.prog.underlying 33).isSome = true := by kernel_rfl
@[go_sem] theorem Tryd.zero33 : zeroOf Tryd.prog 33 = some [.str ByteArray.empty, .str ByteArray.empty] := by kernel_rfl
@[go_sem] theorem Tryd.flatEq33 : flatEq Tryd.prog 33 = some [.string, .string] := by kernel_rfl
@[go_sem] theorem Tryd.pl33 : plOf Tryd.prog 33 = some [(0, 1), (1, 1)] := by kernel_rfl
@[go_sem] theorem Tryd.fd33_0 : fdOf Tryd.prog 33 0 = some (0, 1, false) := by kernel_rfl
@[go_sem] theorem Tryd.fd33_1 : fdOf Tryd.prog 33 1 = some (1, 1, false) := by kernel_rfl
@[go_sem] theorem Tryd.tsz35 : tszOf Tryd.prog 35 = some (1, false) := by kernel_rfl
@[go_sem] theorem Tryd.udef35 : (Tryd.prog.underlying 35).isSome = true := by kernel_rfl
@[go_sem] theorem Tryd.zero35 : zeroOf Tryd.prog 35 = some [.lit ((Go.Value.nilFunc))] := by kernel_rfl
@[go_sem] theorem Tryd.tsz36 : tszOf Tryd.prog 36 = some (1, false) := by kernel_rfl
@[go_sem] theorem Tryd.udef36 : (Tryd.prog.underlying 36).isSome = true := by kernel_rfl
@[go_sem] theorem Tryd.zero36 : zeroOf Tryd.prog 36 = some [.lit ((Go.Value.nilFunc))] := by kernel_rfl
@[go_sem] theorem Tryd.tsz37 : tszOf Tryd.prog 37 = some (1, false) := by kernel_rfl
@[go_sem] theorem Tryd.udef37 : (Tryd.prog.underlying 37).isSome = true := by kernel_rfl
@[go_sem] theorem Tryd.zero37 : zeroOf Tryd.prog 37 = some [.lit ((Go.Value.nilFunc))] := by kernel_rfl
@[go_sem] theorem Tryd.tsz39 : tszOf Tryd.prog 39 = some (1, false) := by kernel_rfl
@[go_sem] theorem Tryd.udef39 : (Tryd.prog.underlying 39).isSome = true := by kernel_rfl
@[go_sem] theorem Tryd.zero39 : zeroOf Tryd.prog 39 = some [.lit ((Go.Value.nilFunc))] := by kernel_rfl
@[go_sem] theorem Tryd.tsz41 : tszOf Tryd.prog 41 = some (1, false) := by kernel_rfl
@[go_sem] theorem Tryd.udef41 : (Tryd.prog.underlying 41).isSome = true := by kernel_rfl
@[go_sem] theorem Tryd.zero41 : zeroOf Tryd.prog 41 = some [.lit ((Go.Value.nilFunc))] := by kernel_rfl
@[go_sem] theorem Tryd.tsz42 : tszOf Tryd.prog 42 = some (1, false) := by kernel_rfl
@[go_sem] theorem Tryd.udef42 : (Tryd.prog.underlying 42).isSome = true := by kernel_rfl
@[go_sem] theorem Tryd.zero42 : zeroOf Tryd.prog 42 = some [.lit ((Go.Value.nilFunc))] := by kernel_rfl
@[go_sem] theorem Tryd.tsz44 : tszOf Tryd.prog 44 = some (1, false) := by kernel_rfl
@[go_sem] theorem Tryd.udef44 : (Tryd.prog.underlying 44).isSome = true := by kernel_rfl
@[go_sem] theorem Tryd.zero44 : zeroOf Tryd.prog 44 = some [.lit ((Go.Value.nilFunc))] := by kernel_rfl
@[go_sem] theorem Tryd.tsz46 : tszOf Tryd.prog 46 = some (1, false) := by kernel_rfl
@[go_sem] theorem Tryd.udef46 : (Tryd.prog.underlying 46).isSome = true := by kernel_rfl
@[go_sem] theorem Tryd.zero46 : zeroOf Tryd.prog 46 = some [.lit ((Go.Value.nilFunc))] := by kernel_rfl
@[go_sem] theorem Tryd.tsz47 : tszOf Tryd.prog 47 = some (1, false) := by kernel_rfl
@[go_sem] theorem Tryd.udef47 : (Tryd.prog.underlying 47).isSome = true := by kernel_rfl
@[go_sem] theorem Tryd.zero47 : zeroOf Tryd.prog 47 = some [.lit ((Go.Value.nilFunc))] := by kernel_rfl
@[go_sem] theorem Tryd.tsz48 : tszOf Tryd.prog 48 = some (1, false) := by kernel_rfl
@[go_sem] theorem Tryd.udef48 : (Tryd.prog.underlying 48).isSome = true := by kernel_rfl
@[go_sem] theorem Tryd.zero48 : zeroOf Tryd.prog 48 = some [.nilsl] := by kernel_rfl
@[go_sem] theorem Tryd.el48 : elOf Tryd.prog 48 = some (33, 2, 32) := by kernel_rfl
@[go_sem] theorem Tryd.isSl48 : isSl Tryd.prog 48 = true := by kernel_rfl
@[go_sem] theorem Tryd.tsz50 : tszOf Tryd.prog 50 = some (1, false) := by kernel_rfl
@[go_sem] theorem Tryd.udef50 : (Tryd.prog.underlying 50).isSome = true := by kernel_rfl
@[go_sem] theorem Tryd.zero50 : zeroOf Tryd.prog 50 = some [.lit ((Go.Value.nilFunc))] := by kernel_rfl
@[go_sem] theorem Tryd.tsz51 : tszOf Tryd.prog 51 = some (1, false) := by kernel_rfl
@[go_sem] theorem Tryd.udef51 : (Tryd.prog.underlying 51).isSome = true := by kernel_rfl
@[go_sem] theorem Tryd.zero51 : zeroOf Tryd.prog 51 = some [.lit ((Go.Value.nilFunc))] := by kernel_rfl
@[go_sem] theorem Tryd.tsz52 : tszOf Tryd.prog 52 = some (1, false) := by kernel_rfl
@[go_sem] theorem Tryd.udef52 : (Tryd.prog.underlying 52).isSome = true := by kernel_rfl
@[go_sem] theorem Tryd.zero52 : zeroOf Tryd.prog 52 = some [.nilsl] := by kernel_rfl
@[go_sem] theorem Tryd.el52 : elOf Tryd.prog 52 = some (142, 3, 24) := by kernel_rfl
@[go_sem] theorem Tryd.isSl52 : isSl Tryd.prog 52 = true := by kernel_rfl
@[go_sem] theorem Tryd.tsz53 : tszOf Tryd.prog 53 = some (1, false) := by kernel_rfl
@[go_sem] theorem Tryd.udef53 : (Tryd.prog.underlying 53).isSome = true := by kernel_rfl
@[go_sem] theorem Tryd.zero53 : zeroOf Tryd.prog 53 = some [.nilsl] := by kernel_rfl
@[go_sem] theorem Tryd.el53 : elOf Tryd.prog 53 = some (144, 5, 40) := by kernel_rfl
@[go_sem] theorem Tryd.isSl53 : isSl Tryd.prog 53 = true := by kernel_rfl
@[go_sem] theorem Tryd.tsz54 : tszOf Tryd.prog 54 = some (5, true) := by kernel_rfl
@[go_sem] theorem Tryd.udef54 : (Tryd.prog.underlying 54).isSome = true := by kernel_rfl
@[go_sem] theorem Tryd.zero54 : zeroOf Tryd.prog 54 = some [.int .i64 0, .nilsl, .nilsl, .int .i64 0, .int .i64 0] := by kernel_rfl
@[go_sem] theorem Tryd.pl54 : plOf Tryd.prog 54 = some [(0, 1), (1, 1), (2, 1), (3, 1), (4, 1)] := by kernel_rfl
@[go_sem] theorem Tryd.tsz55 : tszOf Tryd.prog 55 = some (5, true) := by kernel_rfl
@[go_sem] theorem Tryd.udef55 : (Tryd.prog.underlying 55).isSome = true := by kernel_rfl
@[go_sem] theorem Tryd.zero55 : zeroOf Tryd.prog 55 = some [.int .i64 0, .nilsl, .nilsl, .int .i64 0, .int .i64 0] := by kernel_rfl
@[go_sem] theorem Tryd.pl55 : plOf Tryd.prog 55 = some [(0, 1), (1, 1), (2, 1), (3, 1), (4, 1)] := by kernel_rfl
@[go_sem] theorem Tryd.fd55_0 : fdOf Tryd.prog 55 0 = some (0, 1, false) := by kernel_rfl
@[go_sem] theorem Tryd.fd55_1 : fdOf Tryd.prog 55 1 = some (1, 1, false) := by kernel_rfl
@[go_sem] theorem Tryd.fd55_2 : fdOf Tryd.prog 55 2 = some (2, 1, false) := by kernel_rfl
@[go_sem] theorem Tryd.fd55_3 : fdOf Tryd.prog 55 3 = some (3, 1, false) := by kernel_rfl
@[go_sem] theorem Tryd.fd55_4 : fdOf Tryd.prog 55 4 = some (4, 1, false) := by kernel_rfl
@[go_sem] theorem Tryd.tsz56 : tszOf Tryd.prog 56 = some (8, true) := by kernel_rfl
@[go_sem] theorem Tryd.udef56 : (Tryd.prog.underlying 56).isSome = true := by kernel_rfl
@[go_sem] theorem Tryd.zero56 : zeroOf Tryd.prog 56 = some [.int .i64 0, .nilsl, .nilsl, .int .i64 0, .int .i64 0, .str ByteArray.empty, .str ByteArray.empty, .int .i64 0] := by kernel_rfl
@[go_sem] theorem Tryd.pl56 : plOf Tryd.prog 56 = some [(0, 5), (5, 3)] := by kernel_rfl
@[go_sem] theorem Tryd.tsz57 : tszOf Tryd.prog 57 = some (8, true) := by kernel_rfl
@[go_sem] theorem Tryd.udef57 : (Tryd.prog.underlying 57).isSome = true := by kernel_rfl
@[go_sem] theorem Tryd.zero57 : zeroOf Tryd.prog 57 = some [.int .i64 0, .nilsl, .nilsl, .int .i64 0, .int .i64 0, .str ByteArray.empty, .str ByteArray.empty, .int .i64 0] := by kernel_rfl
@[go_sem] theorem Tryd.pl57 : plOf Tryd.prog 57 = some [(0, 5), (5, 3)] := by kernel_rfl
@[go_sem] theorem Tryd.fd57_0 : fdOf Tryd.prog 57 0 = some (0, 5, true) := by kernel_rfl
@[go_sem] theorem Tryd.fd57_1 : fdOf Tryd.prog 57 1 = some (5, 3, true) := by kernel_rfl
@[go_sem] theorem Tryd.tsz58 : tszOf Tryd.prog 58 = some (1, false) := by kernel_rfl
@[go_sem] theorem Tryd.udef58 : (Tryd.prog.underlying 58).isSome = true := by kernel_rfl
@[go_sem] theorem Tryd.zero58 : zeroOf Tryd.prog 58 = some [.lit ((Go.Value.nilFunc))] := by kernel_rfl
@[go_sem] theorem Tryd.tsz59 : tszOf Tryd.prog 59 = some (1, false) := by kernel_rfl
@[go_sem] theorem Tryd.udef59 : (Tryd.prog.underlying 59).isSome = true := by kernel_rfl
@[go_sem] theorem Tryd.zero59 : zeroOf Tryd.prog 59 = some [.lit ((Go.Value.nilFunc))] := by kernel_rfl
@[go_sem] theorem Tryd.tsz60 : tszOf Tryd.prog 60 = some (1, false) := by kernel_rfl
@[go_sem] theorem Tryd.udef60 : (Tryd.prog.underlying 60).isSome = true := by kernel_rfl
@[go_sem] theorem Tryd.zero60 : zeroOf Tryd.prog 60 = some [.nilsl] := by kernel_rfl
@[go_sem] theorem Tryd.el60 : elOf Tryd.prog 60 = some (120, 3, 24) := by kernel_rfl
@[go_sem] theorem Tryd.isSl60 : isSl Tryd.prog 60 = true := by kernel_rfl
@[go_sem] theorem Tryd.tsz61 : tszOf Tryd.prog 61 = some (1, false) := by kernel_rfl
@[go_sem] theorem Tryd.udef61 : (Tryd.prog.underlying 61).isSome = true := by kernel_rfl
@[go_sem] theorem Tryd.zero61 : zeroOf Tryd.prog 61 = some [.nilsl] := by kernel_rfl
@[go_sem] theorem Tryd.el61 : elOf Tryd.prog 61 = some (98, 5, 40) := by kernel_rfl
@[go_sem] theorem Tryd.isSl61 : isSl Tryd.prog 61 = true := by kernel_rfl
@[go_sem] theorem Tryd.tsz62 : tszOf Tryd.prog 62 = some (5, true) := by kernel_rfl
@[go_sem] theorem Tryd.udef62 : (Tryd.prog.underlying 62).isSome = true := by kernel_rfl
@[go_sem] theorem Tryd.zero62 : zeroOf Tryd.prog 62 = some [.int .i64 0, .nilsl, .nilsl, .int .i64 0, .int .i64 0] := by kernel_rfl
@[go_sem] theorem Tryd.pl62 : plOf Tryd.prog 62 = some [(0, 1), (1, 1), (2, 1), (3, 1), (4, 1)] := by kernel_rfl
@[go_sem] theorem Tryd.tsz63 : tszOf Tryd.prog 63 = some (5, true) := by kernel_rfl
@[go_sem] theorem Tryd.udef63 : (Tryd.prog.underlying 63).isSome = true := by kernel_rfl
@[go_sem] theorem Tryd.zero63 : zeroOf Tryd.prog 63 = some [.int .i64 0, .nilsl, .nilsl, .int .i64 0, .int .i64 0] := by kernel_rfl
@[go_sem] theorem Tryd.pl63 : plOf Tryd.prog 63 = some [(0, 1), (1, 1), (2, 1), (3, 1), (4, 1)] := by kernel_rfl
@[go_sem] theorem Tryd.fd63_0 : fdOf Tryd.prog 63 0 = some (0, 1, false) := by kernel_rfl
@[go_sem] theorem Tryd.fd63_1 : fdOf Tryd.prog 63 1 = some (1, 1, false) := by kernel_rfl
@[go_sem] theorem Tryd.fd63_2 : fdOf Tryd.prog 63 2 = some (2, 1, false) := by kernel_rfl
@[go_sem] theorem Tryd.fd63_3 : fdOf Tryd.prog 63 3 = some (3, 1, false) := by kernel_rfl
@[go_sem] theorem Tryd.fd63_4 : fdOf Tryd.prog 63 4 = some (4, 1, false) := by kernel_rfl
@[go_sem] theorem Tryd.tsz64 : tszOf Tryd.prog 64 = some (8, true) := by kernel_rfl
@[go_sem] theorem Tryd.udef64 : (Tryd.prog.underlying 64).isSome = true := by kernel_rfl
@[go_sem] theorem Tryd.zero64 : zeroOf Tryd.prog 64 = some [.int .i64 0, .nilsl, .nilsl, .int .i64 0, .int .i64 0, .str ByteArray.empty, .str ByteArray.empty, .int .i64 0] := by kernel_rfl
@[go_sem] theorem Tryd.pl64 : plOf Tryd.prog 64 = some [(0, 5), (5, 3)] := by kernel_rfl
@[go_sem] theorem Tryd.tsz65 : tszOf Tryd.prog 65 = some (8, true) := by kernel_rfl
@[go_sem] theorem Tryd.udef65 : (Tryd.prog.underlying 65).isSome = true := by kernel_rfl
@[go_sem] theorem Tryd.zero65 : zeroOf Tryd.prog 65 = some [.int .i64 0, .nilsl, .nilsl, .int .i64 0, .int .i64 0, .str ByteArray.empty, .str ByteArray.empty, .int .i64 0] := by kernel_rfl
@[go_sem] theorem Tryd.pl65 : plOf Tryd.prog 65 = some [(0, 5), (5, 3)] := by kernel_rfl
@[go_sem] theorem Tryd.fd65_0 : fdOf Tryd.prog 65 0 = some (0, 5, true) := by kernel_rfl
@[go_sem] theorem Tryd.fd65_1 : fdOf Tryd.prog 65 1 = some (5, 3, true) := by kernel_rfl
@[go_sem] theorem Tryd.tsz66 : tszOf Tryd.prog 66 = some (1, false) := by kernel_rfl
@[go_sem] theorem Tryd.udef66 : (Tryd.prog.underlying 66).isSome = true := by kernel_rfl
@[go_sem] theorem Tryd.zero66 : zeroOf Tryd.prog 66 = some [.lit ((Go.Value.nilFunc))] := by kernel_rfl
@[go_sem] theorem Tryd.tsz67 : tszOf Tryd.prog 67 = some (1, false) := by kernel_rfl
@[go_sem] theorem Tryd.udef67 : (Tryd.prog.underlying 67).isSome = true := by kernel_rfl
@[go_sem] theorem Tryd.zero67 : zeroOf Tryd.prog 67 = some [.lit ((Go.Value.nilFunc))] := by kernel_rfl
@[go_sem] theorem Tryd.tsz68 : tszOf Tryd.prog 68 = some (1, false) := by kernel_rfl
@[go_sem] theorem Tryd.udef68 : (Tryd.prog.underlying 68).isSome = true := by kernel_rfl
@[go_sem] theorem Tryd.zero68 : zeroOf Tryd.prog 68 = some [.lit ((Go.Value.nilFunc))] := by kernel_rfl
@[go_sem] theorem Tryd.tsz69 : tszOf Tryd.prog 69 = some (1, false) := by kernel_rfl
@[go_sem] theorem Tryd.udef69 : (Tryd.prog.underlying 69).isSome = true := by kernel_rfl
@[go_sem] theorem Tryd.zero69 : zeroOf Tryd.prog 69 = some [.lit ((Go.Value.nilFunc))] := by kernel_rfl
@[go_sem] theorem Tryd.tsz70 : tszOf Tryd.prog 70 = some (1, false) := by kernel_rfl
@[go_sem] theorem Tryd.udef70 : (Tryd.prog.underlying 70).isSome = true := by kernel_rfl
@[go_sem] theorem Tryd.zero70 : zeroOf Tryd.prog 70 = some [.lit ((Go.Value.nilFunc))] := by kernel_rfl
@[go_sem] theorem Tryd.tsz71 : tszOf Tryd.prog 71 = some (1, false) := by kernel_rfl
@[go_sem] theorem Tryd.udef71 : (Tryd.prog.underlying 71).isSome = true := by kernel_rfl
@[go_sem] theorem Tryd.zero71 : zeroOf Tryd.prog 71 = some [.lit ((Go.Value.pointer none))] := by kernel_rfl
@[go_sem] theorem Tryd.tsz72 : tszOf Tryd.prog 72 = some (1, false) := by kernel_rfl
@[go_sem] theorem Tryd.udef72 : (Tryd.prog.underlying 72).isSome = true := by kernel_rfl
@[go_sem] theorem Tryd.zero72 : zeroOf Tryd.prog 72 = some [.int .u64 0] := by kernel_rfl
@[go_sem] theorem Tryd.isInt72 : isIntT Tryd.prog 72 = some .u64 := by kernel_rfl
@[go_sem] theorem Tryd.tsz73 : tszOf Tryd.prog 73 = some (3, true) := by kernel_rfl
@[go_sem] theorem Tryd.udef73 : (Tryd.prog.underlying 73).isSome = true := by kernel_rfl
@[go_sem] theorem Tryd.zero73 : zeroOf Tryd.prog 73 = some [.nilsl, .int .i64 0, .int .u64 0] := by kernel_rfl
@[go_sem] theorem Tryd.pl73 : plOf Tryd.prog 73 = some [(0, 1), (1, 1), (2, 1)] := by kernel_rfl
@[go_sem] theorem Tryd.tsz74 : tszOf Tryd.prog 74 = some (3, true) := by kernel_rfl
@[go_sem] theorem Tryd.udef74 : (Tryd.prog.underlying 74).isSome = true := by kernel_rfl
@[go_sem] theorem Tryd.zero74 : zeroOf Tryd.prog 74 = some [.nilsl, .int .i64 0, .int .u64 0] := by kernel_rfl
@[go_sem] theorem Tryd.pl74 : plOf Tryd.prog 74 = some [(0, 1), (1, 1), (2, 1)] := by kernel_rfl
@[go_sem] theorem Tryd.fd74_0 : fdOf Tryd.prog 74 0 = some (0, 1, false) := by kernel_rfl
@[go_sem] theorem Tryd.fd74_1 : fdOf Tryd.prog 74 1 = some (1, 1, false) := by kernel_rfl
@[go_sem] theorem Tryd.fd74_2 : fdOf Tryd.prog 74 2 = some (2, 1, false) := by kernel_rfl
@[go_sem] theorem Tryd.tsz75 : tszOf Tryd.prog 75 = some (1, false) := by kernel_rfl
@[go_sem] theorem Tryd.udef75 : (Tryd.prog.underlying 75).isSome = true := by kernel_rfl
@[go_sem] theorem Tryd.zero75 : zeroOf Tryd.prog 75 = some [.lit ((Go.Value.nilFunc))] := by kernel_rfl
@[go_sem] theorem Tryd.tsz76 : tszOf Tryd.prog 76 = some (1, false) := by kernel_rfl
@[go_sem] theorem Tryd.udef76 : (Tryd.prog.underlying 76).isSome = true := by kernel_rfl
@[go_sem] theorem Tryd.zero76 : zeroOf Tryd.prog 76 = some [.nilsl] := by kernel_rfl
@[go_sem] theorem Tryd.el76 : elOf Tryd.prog 76 = some (3, 1, 8) := by kernel_rfl
@[go_sem] theorem Tryd.isSl76 : isSl Tryd.prog 76 = true := by kernel_rfl
@[go_sem] theorem Tryd.tsz77 : tszOf Tryd.prog 77 = some (1, false) := by kernel_rfl
@[go_sem] theorem Tryd.udef77 : (Tryd.prog.underlying 77).isSome = true := by kernel_rfl
@[go_sem] theorem Tryd.zero77 : zeroOf Tryd.prog 77 = some [.lit ((Go.Value.nilFunc))] := by kernel_rfl
@[go_sem] theorem Tryd.tsz78 : tszOf Tryd.prog 78 = some (1, false) := by kernel_rfl
@[go_sem] theorem Tryd.udef78 : (Tryd.prog.underlying 78).isSome = true := by kernel_rfl
@[go_sem] theorem Tryd.zero78 : zeroOf Tryd.prog 78 = some [.lit ((Go.Value.nilFunc))] := by kernel_rfl
@[go_sem] theorem Tryd.tsz79 : tszOf Tryd.prog 79 = some (1, false) := by kernel_rfl
@[go_sem] theorem Tryd.udef79 : (Tryd.prog.underlying 79).isSome = true := by kernel_rfl
@[go_sem] theorem Tryd.zero79 : zeroOf Tryd.prog 79 = some [.lit ((Go.Value.nilFunc))] := by kernel_rfl
@[go_sem] theorem Tryd.tsz80 : tszOf Tryd.prog 80 = some (1, false) := by kernel_rfl
@[go_sem] theorem Tryd.udef80 : (Tryd.prog.underlying 80).isSome = true := by kernel_rfl
@[go_sem] theorem Tryd.zero80 : zeroOf Tryd.prog 80 = some [.lit ((Go.Value.nilFunc))] := by kernel_rfl
@[go_sem] theorem Tryd.tsz81 : tszOf Tryd.prog 81 = some (1, false) := by kernel_rfl
@[go_sem] theorem Tryd.udef81 : (Tryd.prog.underlying 81).isSome = true := by kernel_rfl
@[go_sem] theorem Tryd.zero81 : zeroOf Tryd.prog 81 = some [.lit ((Go.Value.nilFunc))] := by kernel_rfl
@[go_sem] theorem Tryd.tsz82 : tszOf Tryd.prog 82 = some (1, false) := by kernel_rfl
@[go_sem] theorem Tryd.udef82 : (Tryd.prog.underlying 82).isSome = true := by kernel_rfl
@[go_sem] theorem Tryd.zero82 : zeroOf Tryd.prog 82 = some [.lit ((Go.Value.nilFunc))] := by kernel_rfl
@[go_sem] theorem Tryd.tsz83 : tszOf Tryd.prog 83 = some (1, false) := by kernel_rfl
@[go_sem] theorem Tryd.udef83 : (Tryd.prog.underlying 83).isSome = true := by kernel_rfl
@[go_sem] theorem Tryd.zero83 : zeroOf Tryd.prog 83 = some [.lit ((Go.Value.nilFunc))] := by kernel_rfl
@[go_sem] theorem Tryd.tsz84 : tszOf Tryd.prog 84 = some (1, false) := by kernel_rfl
@[go_sem] theorem Tryd.udef84 : (Tryd.prog.underlying 84).isSome = true := by kernel_rfl
@[go_sem] theorem Tryd.zero84 : zeroOf Tryd.prog 84 = some [.lit ((Go.Value.nilFunc))] := by kernel_rfl
@[go_sem] theorem Tryd.tsz86 : tszOf Tryd.prog 86 = some (1, false) := by kernel_rfl
@[go_sem] theorem Tryd.udef86 : (Tryd.prog.underlying 86).isSome = true := by kernel_rfl
@[go_sem] theorem Tryd.zero86 : zeroOf Tryd.prog 86 = some [.lit ((Go.Value.nilFunc))] := by kernel_rfl
@[go_sem] theorem Tryd.tsz88 : tszOf Tryd.prog 88 = some (1, false) := by kernel_rfl
@[go_sem] theorem Tryd.udef88 : (Tryd.prog.underlying 88).isSome = true := by kernel_rfl
@[go_sem] theorem Tryd.zero88 : zeroOf Tryd.prog 88 = some [.lit ((Go.Value.nilFunc))] := by kernel_rfl
@[go_sem] theorem Tryd.tsz89 : tszOf Tryd.prog 89 = some (1, false) := by kernel_rfl
@[go_sem] theorem Tryd.udef89 : (Tryd.prog.underlying 89).isSome = true := by kernel_rfl
@[go_sem] theorem Tryd.zero89 : zeroOf Tryd.prog 89 = some [.lit ((Go.Value.nilFunc))] := by kernel_rfl
@[go_sem] theorem Tryd.tsz90 : tszOf Tryd.prog 90 = some (1, false) := by kernel_rfl
@[go_sem] theorem Tryd.udef90 : (Tryd.prog.underlying 90).isSome = true := by kernel_rfl
@[go_sem] theorem Tryd.zero90 : zeroOf Tryd.prog 90 = some [.lit ((Go.Value.nilFunc))] := by kernel_rfl
@[go_sem] theorem Tryd.tsz91 : tszOf Tryd.prog 91 = some (1, false) := by kernel_rfl
@[go_sem] theorem Tryd.udef91 : (Tryd.prog.underlying 91).isSome = true := by kernel_rfl
@[go_sem] theorem Tryd.zero91 : zeroOf Tryd.prog 91 = some [.lit ((Go.Value.nilFunc))] := by kernel_rfl
@[go_sem] theorem Tryd.tsz92 : tszOf Tryd.prog 92 = some (1, false) := by kernel_rfl
@[go_sem] theorem Tryd.udef92 : (Tryd.prog.underlying 92).isSome = true := by kernel_rfl
@[go_sem] theorem Tryd.zero92 : zeroOf Tryd.prog 92 = some [.lit ((Go.Value.nilFunc))] := by kernel_rfl
@[go_sem] theorem Tryd.tsz93 : tszOf Tryd.prog 93 = some (1, false) := by kernel_rfl
@[go_sem] theorem Tryd.udef93 : (Tryd.prog.underlying 93).isSome = true := by kernel_rfl
@[go_sem] theorem Tryd.zero93 : zeroOf Tryd.prog 93 = some [.lit ((Go.Value.nilFunc))] := by kernel_rfl
@[go_sem] theorem Tryd.tsz94 : tszOf Tryd.prog 94 = some (1, false) := by kernel_rfl
@[go_sem] theorem Tryd.udef94 : (Tryd.prog.underlying 94).isSome = true := by kernel_rfl
@[go_sem] theorem Tryd.zero94 : zeroOf Tryd.prog 94 = some [.lit ((Go.Value.nilFunc))] := by kernel_rfl
@[go_sem] theorem Tryd.tsz95 : tszOf Tryd.prog 95 = some (1, false) := by kernel_rfl
@[go_sem] theorem Tryd.udef95 : (Tryd.prog.underlying 95).isSome = true := by kernel_rfl
@[go_sem] theorem Tryd.zero95 : zeroOf Tryd.prog 95 = some [.lit ((Go.Value.nilFunc))] := by kernel_rfl
@[go_sem] theorem Tryd.tsz96 : tszOf Tryd.prog 96 = some (1, false) := by kernel_rfl
@[go_sem] theorem Tryd.udef96 : (Tryd.prog.underlying 96).isSome = true := by kernel_rfl
@[go_sem] theorem Tryd.zero96 : zeroOf Tryd.prog 96 = some [.lit ((Go.Value.nilFunc))] := by kernel_rfl
@[go_sem] theorem Tryd.tsz97 : tszOf Tryd.prog 97 = some (5, true) := by kernel_rfl
@[go_sem] theorem Tryd.udef97 : (Tryd.prog.underlying 97).isSome = true := by kernel_rfl
@[go_sem] theorem Tryd.zero97 : zeroOf Tryd.prog 97 = some [.int .i64 0, .int .i64 0, .int .i64 0, .int .i64 0, .int .i64 0] := by kernel_rfl
@[go_sem] theorem Tryd.pl97 : plOf Tryd.prog 97 = some [(0, 1), (1, 1), (2, 1), (3, 1), (4, 1)] := by kernel_rfl
@[go_sem] theorem Tryd.tsz98 : tszOf Tryd.prog 98 = some (5, true) := by kernel_rfl
@[go_sem] theorem Tryd.udef98 : (Tryd.prog.underlying 98).isSome = true := by kernel_rfl
@[go_sem] theorem Tryd.zero98 : zeroOf Tryd.prog 98 = some [.int .i64 0, .int .i64 0, .int .i64 0, .int .i64 0, .int .i64 0] := by kernel_rfl
@[go_sem] theorem Tryd.flatEq98 : flatEq Tryd.prog 98 = some [.int .i64, .int .i64, .int .i64, .int .i64, .int .i64] := by kernel_rfl
@[go_sem] theorem Tryd.pl98 : plOf Tryd.prog 98 = some [(0, 1), (1, 1), (2, 1), (3, 1), (4, 1)] := by kernel_rfl
@[go_sem] theorem Tryd.fd98_0 : fdOf Tryd.prog 98 0 = some (0, 1, false) := by kernel_rfl
@[go_sem] theorem Tryd.fd98_1 : fdOf Tryd.prog 98 1 = some (1, 1, false) := by kernel_rfl
@[go_sem] theorem Tryd.fd98_2 : fdOf Tryd.prog 98 2 = some (2, 1, false) := by kernel_rfl
@[go_sem] theorem Tryd.fd98_3 : fdOf Tryd.prog 98 3 = some (3, 1, false) := by kernel_rfl
@[go_sem] theorem Tryd.fd98_4 : fdOf Tryd.prog 98 4 = some (4, 1, false) := by kernel_rfl
@[go_sem] theorem Tryd.tsz99 : tszOf Tryd.prog 99 = some (1, false) := by kernel_rfl
@[go_sem] theorem Tryd.udef99 : (Tryd.prog.underlying 99).isSome = true := by kernel_rfl
@[go_sem] theorem Tryd.zero99 : zeroOf Tryd.prog 99 = some [.lit ((Go.Value.nilFunc))] := by kernel_rfl
@[go_sem] theorem Tryd.tsz100 : tszOf Tryd.prog 100 = some (1, false) := by kernel_rfl
@[go_sem] theorem Tryd.udef100 : (Tryd.prog.underlying 100).isSome = true := by kernel_rfl
@[go_sem] theorem Tryd.zero100 : zeroOf Tryd.prog 100 = some [.lit ((Go.Value.nilFunc))] := by kernel_rfl
@[go_sem] theorem Tryd.tsz101 : tszOf Tryd.prog 101 = some (1, false) := by kernel_rfl
@[go_sem] theorem Tryd.udef101 : (Tryd.prog.underlying 101).isSome = true := by kernel_rfl
@[go_sem] theorem Tryd.zero101 : zeroOf Tryd.prog 101 = some [.lit ((Go.Value.nilFunc))] := by kernel_rfl
@[go_sem] theorem Tryd.tsz102 : tszOf Tryd.prog 102 = some (1, false) := by kernel_rfl
@[go_sem] theorem Tryd.udef102 : (Tryd.prog.underlying 102).isSome = true := by kernel_rfl
@[go_sem] theorem Tryd.zero102 : zeroOf Tryd.prog 102 = some [.nilsl] := by kernel_rfl
@[go_sem] theorem Tryd.el102 : elOf Tryd.prog 102 = some (9, 1, 16) := by kernel_rfl
@[go_sem] theorem Tryd.isSl102 : isSl Tryd.prog 102 = true := by kernel_rfl
@[go_sem] theorem Tryd.tsz104 : tszOf Tryd.prog 104 = some (1, false) := by kernel_rfl
@[go_sem] theorem Tryd.udef104 : (Tryd.prog.underlying 104).isSome = true := by kernel_rfl
@[go_sem] theorem Tryd.zero104 : zeroOf Tryd.prog 104 = some [.lit ((Go.Value.nilFunc))] := by kernel_rfl
@[go_sem] theorem Tryd.tsz105 : tszOf Tryd.prog 105 = some (1, false) := by kernel_rfl
@[go_sem] theorem Tryd.udef105 : (Tryd.prog.underlying 105).isSome = true := by kernel_rfl
@[go_sem] theorem Tryd.zero105 : zeroOf Tryd.prog 105 = some [.lit ((Go.Value.nilFunc))] := by kernel_rfl
@[go_sem] theorem Tryd.tsz106 : tszOf Tryd.prog 106 = some (1, false) := by kernel_rfl
@[go_sem] theorem Tryd.udef106 : (Tryd.prog.underlying 106).isSome = true := by kernel_rfl
@[go_sem] theorem Tryd.zero106 : zeroOf Tryd.prog 106 = some [.lit ((Go.Value.nilFunc))] := by kernel_rfl
@[go_sem] theorem Tryd.tsz107 : tszOf Tryd.prog 107 = some (1, false) := by kernel_rfl
@[go_sem] theorem Tryd.udef107 : (Tryd.prog.underlying 107).isSome = true := by kernel_rfl
@[go_sem] theorem Tryd.zero107 : zeroOf Tryd.prog 107 = some [.lit ((Go.Value.nilFunc))] := by kernel_rfl
@[go_sem] theorem Tryd.tsz108 : tszOf Tryd.prog 108 = some (1, false) := by kernel_rfl
@[go_sem] theorem Tryd.udef108 : (Tryd.prog.underlying 108).isSome = true := by kernel_rfl
@[go_sem] theorem Tryd.zero108 : zeroOf Tryd.prog 108 = some [.lit ((Go.Value.nilFunc))] := by kernel_rfl
@[go_sem] theorem Tryd.tsz110 : tszOf Tryd.prog 110 = some (1, false) := by kernel_rfl
@[go_sem] theorem Tryd.udef110 : (Tryd.prog.underlying 110).isSome = true := by kernel_rfl
@[go_sem] theorem Tryd.zero110 : zeroOf Tryd.prog 110 = some [.lit ((Go.Value.nilFunc))] := by kernel_rfl
@[go_sem] theorem Tryd.tsz111 : tszOf Tryd.prog 111 = some (1, false) := by kernel_rfl
@[go_sem] theorem Tryd.udef111 : (Tryd.prog.underlying 111).isSome = true := by kernel_rfl
@[go_sem] theorem Tryd.zero111 : zeroOf Tryd.prog 111 = some [.lit ((Go.Value.nilFunc))] := by kernel_rfl
@[go_sem] theorem Tryd.tsz113 : tszOf Tryd.prog 113 = some (1, false) := by kernel_rfl
@[go_sem] theorem Tryd.udef113 : (Tryd.prog.underlying 113).isSome = true := by kernel_rfl
@[go_sem] theorem Tryd.zero113 : zeroOf Tryd.prog 113 = some [.lit ((Go.Value.nilFunc))] := by kernel_rfl
@[go_sem] theorem Tryd.tsz114 : tszOf Tryd.prog 114 = some (1, false) := by kernel_rfl
@[go_sem] theorem Tryd.udef114 : (Tryd.prog.underlying 114).isSome = true := by kernel_rfl
@[go_sem] theorem Tryd.zero114 : zeroOf Tryd.prog 114 = some [.lit ((Go.Value.nilFunc))] := by kernel_rfl
@[go_sem] theorem Tryd.tsz115 : tszOf Tryd.prog 115 = some (1, false) := by kernel_rfl
@[go_sem] theorem Tryd.udef115 : (Tryd.prog.underlying 115).isSome = true := by kernel_rfl
@[go_sem] theorem Tryd.zero115 : zeroOf Tryd.prog 115 = some [.lit ((Go.Value.nilFunc))] := by kernel_rfl
@[go_sem] theorem Tryd.tsz116 : tszOf Tryd.prog 116 = some (1, false) := by kernel_rfl
@[go_sem] theorem Tryd.udef116 : (Tryd.prog.underlying 116).isSome = true := by kernel_rfl
@[go_sem] theorem Tryd.zero116 : zeroOf Tryd.prog 116 = some [.lit ((Go.Value.nilFunc))] := by kernel_rfl
@[go_sem] theorem Tryd.tsz117 : tszOf Tryd.prog 117 = some (1, false) := by kernel_rfl
@[go_sem] theorem Tryd.udef117 : (Tryd.prog.underlying 117).isSome = true := by kernel_rfl
@[go_sem] theorem Tryd.zero117 : zeroOf Tryd.prog 117 = some [.lit ((Go.Value.nilFunc))] := by kernel_rfl
@[go_sem] theorem Tryd.tsz118 : tszOf Tryd.prog 118 = some (1, false) := by kernel_rfl
@[go_sem] theorem Tryd.udef118 : (Tryd.prog.underlying 118).isSome = true := by kernel_rfl
@[go_sem] theorem Tryd.zero118 : zeroOf Tryd.prog 118 = some [.lit ((Go.Value.nilFunc))] := by kernel_rfl
@[go_sem] theorem Tryd.tsz119 : tszOf Tryd.prog 119 = some (3, true) := by kernel_rfl
@[go_sem] theorem Tryd.udef119 : (Tryd.prog.underlying 119).isSome = true := by kernel_rfl
@[go_sem] theorem Tryd.zero119 : zeroOf Tryd.prog 119 = some [.int .i64 0, .bool false, .int .i64 0] := by kernel_rfl
@[go_sem] theorem Tryd.pl119 : plOf Tryd.prog 119 = some [(0, 1), (1, 1), (2, 1)] := by kernel_rfl
@[go_sem] theorem Tryd.tsz120 : tszOf Tryd.prog 120 = some (3, true) := by kernel_rfl
@[go_sem] theorem Tryd.udef120 : (Tryd.prog.underlying 120).isSome = true := by kernel_rfl
@[go_sem] theorem Tryd.zero120 : zeroOf Tryd.prog 120 = some [.int .i64 0, .bool false, .int .i64 0] := by kernel_rfl
@[go_sem] theorem Tryd.flatEq120 : flatEq Tryd.prog 120 = some [.int .i64, .bool, .int .i64] := by kernel_rfl
@[go_sem] theorem Tryd.pl120 : plOf Tryd.prog 120 = some [(0, 1), (1, 1), (2, 1)] := by kernel_rfl
@[go_sem] theorem Tryd.fd120_0 : fdOf Tryd.prog 120 0 = some (0, 1, false) := by kernel_rfl
@[go_sem] theorem Tryd.fd120_1 : fdOf Tryd.prog 120 1 = some (1, 1, false) := by kernel_rfl
@[go_sem] theorem Tryd.fd120_2 : fdOf Tryd.prog 120 2 = some (2, 1, false) := by kernel_rfl
@[go_sem] theorem Tryd.tsz121 : tszOf Tryd.prog 121 = some (1, false) := by kernel_rfl
@[go_sem] theorem Tryd.udef121 : (Tryd.prog.underlying 121).isSome = true := by kernel_rfl
@[go_sem] theorem Tryd.zero121 : zeroOf Tryd.prog 121 = some [.lit ((Go.Value.nilFunc))] := by kernel_rfl
@[go_sem] theorem Tryd.tsz122 : tszOf Tryd.prog 122 = some (1, false) := by kernel_rfl
@[go_sem] theorem Tryd.udef122 : (Tryd.prog.underlying 122).isSome = true := by kernel_rfl
@[go_sem] theorem Tryd.zero122 : zeroOf Tryd.prog 122 = some [.lit ((Go.Value.nilFunc))] := by kernel_rfl
@[go_sem] theorem Tryd.tsz123 : tszOf Tryd.prog 123 = some (1, false) := by kernel_rfl
@[go_sem] theorem Tryd.udef123 : (Tryd.prog.underlying 123).isSome = true := by kernel_rfl
@[go_sem] theorem Tryd.zero123 : zeroOf Tryd.prog 123 = some [.lit ((Go.Value.nilFunc))] := by kernel_rfl
@[go_sem] theorem Tryd.tsz124 : tszOf Tryd.prog 124 = some (1, false) := by kernel_rfl
@[go_sem] theorem Tryd.udef124 : (Tryd.prog.underlying 124).isSome = true := by kernel_rfl
@[go_sem] theorem Tryd.zero124 : zeroOf Tryd.prog 124 = some [.lit ((Go.Value.nilFunc))] := by kernel_rfl
@[go_sem] theorem Tryd.tsz125 : tszOf Tryd.prog 125 = some (1, false) := by kernel_rfl
@[go_sem] theorem Tryd.udef125 : (Tryd.prog.underlying 125).isSome = true := by kernel_rfl
@[go_sem] theorem Tryd.zero125 : zeroOf Tryd.prog 125 = some [.lit ((Go.Value.nilFunc))] := by kernel_rfl
@[go_sem] theorem Tryd.tsz126 : tszOf Tryd.prog 126 = some (1, false) := by kernel_rfl
@[go_sem] theorem Tryd.udef126 : (Tryd.prog.underlying 126).isSome = true := by kernel_rfl
@[go_sem] theorem Tryd.zero126 : zeroOf Tryd.prog 126 = some [.lit ((Go.Value.nilFunc))] := by kernel_rfl
@[go_sem] theorem Tryd.tsz127 : tszOf Tryd.prog 127 = some (1, false) := by kernel_rfl
@[go_sem] theorem Tryd.udef127 : (Tryd.prog.underlying 127).isSome = true := by kernel_rfl
@[go_sem] theorem Tryd.zero127 : zeroOf Tryd.prog 127 = some [.lit ((Go.Value.nilFunc))] := by kernel_rfl
@[go_sem] theorem Tryd.tsz128 : tszOf Tryd.prog 128 = some (1, false) := by kernel_rfl
@[go_sem] theorem Tryd.udef128 : (Tryd.prog.underlying 128).isSome = true := by kernel_rfl
@[go_sem] theorem Tryd.zero128 : zeroOf Tryd.prog 128 = some [.lit ((Go.Value.nilFunc))] := by kernel_rfl
@[go_sem] theorem Tryd.tsz129 : tszOf Tryd.prog 129 = some (1, false) := by kernel_rfl
@[go_sem] theorem Tryd.udef129 : (Tryd.prog.underlying 129).isSome = true := by kernel_rfl
@[go_sem] theorem Tryd.zero129 : zeroOf Tryd.prog 129 = some [.lit ((Go.Value.nilFunc))] := by kernel_rfl
@[go_sem] theorem Tryd.tsz130 : tszOf Tryd.prog 130 = some (1, false) := by kernel_rfl
@[go_sem] theorem Tryd.udef130 : (Tryd.prog.underlying 130).isSome = true := by kernel_rfl
@[go_sem] theorem Tryd.zero130 : zeroOf Tryd.prog 130 = some [.lit ((Go.Value.nilFunc))] := by kernel_rfl
@[go_sem] theorem Tryd.tsz131 : tszOf Tryd.prog 131 = some (1, false) := by kernel_rfl
@[go_sem] theorem Tryd.udef131 : (Tryd.prog.underlying 131).isSome = true := by kernel_rfl
@[go_sem] theorem Tryd.zero131 : zeroOf Tryd.prog 131 = some [.int .u64 0] := by kernel_rfl
@[go_sem] theorem Tryd.isInt131 : isIntT Tryd.prog 131 = some .u64 := by kernel_rfl
@[go_sem] theorem Tryd.tsz133 : tszOf Tryd.prog 133 = some (1, false) := by kernel_rfl
@[go_sem] theorem Tryd.udef133 : (Tryd.prog.underlying 133).isSome = true := by kernel_rfl
@[go_sem] theorem Tryd.zero133 : zeroOf Tryd.prog 133 = some [.lit ((Go.Value.nilFunc))] := by kernel_rfl
@[go_sem] theorem Tryd.tsz134 : tszOf Tryd.prog 134 = some (1, false) := by kernel_rfl
@[go_sem] theorem Tryd.udef134 : (Tryd.prog.underlying 134).isSome = true := by kernel_rfl
@[go_sem] theorem Tryd.zero134 : zeroOf Tryd.prog 134 = some [.lit ((Go.Value.nilFunc))] := by kernel_rfl
@[go_sem] theorem Tryd.tsz135 : tszOf Tryd.prog 135 = some (256, true) := by kernel_rfl
@[go_sem] theorem Tryd.udef135 : (Tryd.prog.underlying 135).isSome = true := by kernel_rfl
@[go_sem] theorem Tryd.ar135 : arOf Tryd.prog 135 = some (256, 1, false) := by kernel_rfl
@[go_sem] theorem Tryd.pl135 : plOf Tryd.prog 135 = some [(0, 1), (1, 1), (2, 1), (3, 1), (4, 1), (5, 1), (6, 1), (7, 1), (8, 1), (9, 1), (10, 1), (11, 1), (12, 1), (13, 1), (14, 1), (15, 1), (16, 1), (17, 1), (18, 1), (19, 1), (20, 1), (21, 1), (22, 1), (23, 1), (24, 1), (25, 1), (26, 1), (27, 1), (28, 1), (29, 1), (30, 1), (31, 1), (32, 1), (33, 1), (34, 1), (35, 1), (36, 1), (37, 1), (38, 1), (39, 1), (40, 1), (41, 1), (42, 1), (43, 1), (44, 1), (45, 1), (46, 1), (47, 1), (48, 1), (49, 1), (50, 1), (51, 1), (52, 1), (53, 1), (54, 1), (55, 1), (56, 1), (57, 1), (58, 1), (59, 1), (60, 1), (61, 1), (62, 1), (63, 1), (64, 1), (65, 1), (66, 1), (67, 1), (68, 1), (69, 1), (70, 1), (71, 1), (72, 1), (73, 1), (74, 1), (75, 1), (76, 1), (77, 1), (78, 1), (79, 1), (80, 1), (81, 1), (82, 1), (83, 1), (84, 1), (85, 1), (86, 1), (87, 1), (88, 1), (89, 1), (90, 1), (91, 1), (92, 1), (93, 1), (94, 1), (95, 1), (96, 1), (97, 1), (98, 1), (99, 1), (100, 1), (101, 1), (102, 1), (103, 1), (104, 1), (105, 1), (106, 1), (107, 1), (108, 1), (109, 1), (110, 1), (111, 1), (112, 1), (113, 1), (114, 1), (115, 1), (116, 1), (117, 1), (118, 1), (119, 1), (120, 1), (121, 1), (122, 1), (123, 1), (124, 1), (125, 1), (126, 1), (127, 1), (128, 1), (129, 1), (130, 1), (131, 1), (132, 1), (133, 1), (134, 1), (135, 1), (136, 1), (137, 1), (138, 1), (139, 1), (140, 1), (141, 1), (142, 1), (143, 1), (144, 1), (145, 1), (146, 1), (147, 1), (148, 1), (149, 1), (150, 1), (151, 1), (152, 1), (153, 1), (154, 1), (155, 1), (156, 1), (157, 1), (158, 1), (159, 1), (160, 1), (161, 1), (162, 1), (163, 1), (164, 1), (165, 1), (166, 1), (167, 1), (168, 1), (169, 1), (170, 1), (171, 1), (172, 1), (173, 1), (174, 1), (175, 1), (176, 1), (177, 1), (178, 1), (179, 1), (180, 1), (181, 1), (182, 1), (183, 1), (184, 1), (185, 1), (186, 1), (187, 1), (188, 1), (189, 1), (190, 1), (191, 1), (192, 1), (193, 1), (194, 1), (195, 1), (196, 1), (197, 1), (198, 1), (199, 1), (200, 1), (201, 1), (202, 1), (203, 1), (204, 1), (205, 1), (206, 1), (207, 1), (208, 1), (209, 1), (210, 1), (211, 1), (212, 1), (213, 1), (214, 1), (215, 1), (216, 1), (217, 1), (218, 1), (219, 1), (220, 1), (221, 1), (222, 1), (223, 1), (224, 1), (225, 1), (226, 1), (227, 1), (228, 1), (229, 1), (230, 1), (231, 1), (232, 1), (233, 1), (234, 1), (235, 1), (236, 1), (237, 1), (238, 1), (239, 1), (240, 1), (241, 1), (242, 1), (243, 1), (244, 1), (245, 1), (246, 1), (247, 1), (248, 1), (249, 1), (250, 1), (251, 1), (252, 1), (253, 1), (254, 1), (255, 1)] := by kernel_rfl
@[go_sem] theorem Tryd.tsz136 : tszOf Tryd.prog 136 = some (256, true) := by kernel_rfl
@[go_sem] theorem Tryd.udef136 : (Tryd.prog.underlying 136).isSome = true := by kernel_rfl
@[go_sem] theorem Tryd.ar136 : arOf Tryd.prog 136 = some (256, 1, false) := by kernel_rfl
@[go_sem] theorem Tryd.pl136 : plOf Tryd.prog 136 = some [(0, 1), (1, 1), (2, 1), (3, 1), (4, 1), (5, 1), (6, 1), (7, 1), (8, 1), (9, 1), (10, 1), (11, 1), (12, 1), (13, 1), (14, 1), (15, 1), (16, 1), (17, 1), (18, 1), (19, 1), (20, 1), (21, 1), (22, 1), (23, 1), (24, 1), (25, 1), (26, 1), (27, 1), (28, 1), (29, 1), (30, 1), (31, 1), (32, 1), (33, 1), (34, 1), (35, 1), (36, 1), (37, 1), (38, 1), (39, 1), (40, 1), (41, 1), (42, 1), (43, 1), (44, 1), (45, 1), (46, 1), (47, 1), (48, 1), (49, 1), (50, 1), (51, 1), (52, 1), (53, 1), (54, 1), (55, 1), (56, 1), (57, 1), (58, 1), (59, 1), (60, 1), (61, 1), (62, 1), (63, 1), (64, 1), (65, 1), (66, 1), (67, 1), (68, 1), (69, 1), (70, 1), (71, 1), (72, 1), (73, 1), (74, 1), (75, 1), (76, 1), (77, 1), (78, 1), (79, 1), (80, 1), (81, 1), (82, 1), (83, 1), (84, 1), (85, 1), (86, 1), (87, 1), (88, 1), (89, 1), (90, 1), (91, 1), (92, 1), (93, 1), (94, 1), (95, 1), (96, 1), (97, 1), (98, 1), (99, 1), (100, 1), (101, 1), (102, 1), (103, 1), (104, 1), (105, 1), (106, 1), (107, 1), (108, 1), (109, 1), (110, 1), (111, 1), (112, 1), (113, 1), (114, 1), (115, 1), (116, 1), (117, 1), (118, 1), (119, 1), (120, 1), (121, 1), (122, 1), (123, 1), (124, 1), (125, 1), (126, 1), (127, 1), (128, 1), (129, 1), (130, 1), (131, 1), (132, 1), (133, 1), (134, 1), (135, 1), (136, 1), (137, 1), (138, 1), (139, 1), (140, 1), (141, 1), (142, 1), (143, 1), (144, 1), (145, 1), (146, 1), (147, 1), (148, 1), (149, 1), (150, 1), (151, 1), (152, 1), (153, 1), (154, 1), (155, 1), (156, 1), (157, 1), (158, 1), (159, 1), (160, 1), (161, 1), (162, 1), (163, 1), (164, 1), (165, 1), (166, 1), (167, 1), (168, 1), (169, 1), (170, 1), (171, 1), (172, 1), (173, 1), (174, 1), (175, 1), (176, 1), (177, 1), (178, 1), (179, 1), (180, 1), (181, 1), (182, 1), (183, 1), (184, 1), (185, 1), (186, 1), (187, 1), (188, 1), (189, 1), (190, 1), (191, 1), (192, 1), (193, 1), (194, 1), (195, 1), (196, 1), (197, 1), (198, 1), (199, 1), (200, 1), (201, 1), (202, 1), (203, 1), (204, 1), (205, 1), (206, 1), (207, 1), (208, 1), (209, 1), (210, 1), (211, 1), (212, 1), (213, 1), (214, 1), (215, 1), (216, 1), (217, 1), (218, 1), (219, 1), (220, 1), (221, 1), (222, 1), (223, 1), (224, 1), (225, 1), (226, 1), (227, 1), (228, 1), (229, 1), (230, 1), (231, 1), (232, 1), (233, 1), (234, 1), (235, 1), (236, 1), (237, 1), (238, 1), (239, 1), (240, 1), (241, 1), (242, 1), (243, 1), (244, 1), (245, 1), (246, 1), (247, 1), (248, 1), (249, 1), (250, 1), (251, 1), (252, 1), (253, 1), (254, 1), (255, 1)] := by kernel_rfl
@[go_sem] theorem Tryd.tsz138 : tszOf Tryd.prog 138 = some (1, false) := by kernel_rfl
@[go_sem] theorem Tryd.udef138 : (Tryd.prog.underlying 138).isSome = true := by kernel_rfl
@[go_sem] theorem Tryd.zero138 : zeroOf Tryd.prog 138 = some [.lit ((Go.Value.nilFunc))] := by kernel_rfl
@[go_sem] theorem Tryd.tsz139 : tszOf Tryd.prog 139 = some (1, false) := by kernel_rfl
@[go_sem] theorem Tryd.udef139 : (Tryd.prog.underlying 139).isSome = true := by kernel_rfl
@[go_sem] theorem Tryd.zero139 : zeroOf Tryd.prog 139 = some [.lit ((Go.Value.nilFunc))] := by kernel_rfl
@[go_sem] theorem Tryd.tsz140 : tszOf Tryd.prog 140 = some (1, false) := by kernel_rfl
@[go_sem] theorem Tryd.udef140 : (Tryd.prog.underlying 140).isSome = true := by kernel_rfl
@[go_sem] theorem Tryd.zero140 : zeroOf Tryd.prog 140 = some [.lit ((Go.Value.nilFunc))] := by kernel_rfl
@[go_sem] theorem Tryd.tsz141 : tszOf Tryd.prog 141 = some (1, false) := by kernel_rfl
@[go_sem] theorem Tryd.udef141 : (Tryd.prog.underlying 141).isSome = true := by kernel_rfl
@[go_sem] theorem Tryd.zero141 : zeroOf Tryd.prog 141 = some [.lit ((Go.Value.nilFunc))] := by kernel_rfl
@[go_sem] theorem Tryd.tsz142 : tszOf Tryd.prog 142 = some (3, true) := by kernel_rfl
@[go_sem] theorem Tryd.udef142 : (Tryd.prog.underlying 142).isSome = true := by kernel_rfl
@[go_sem] theorem Tryd.zero142 : zeroOf Tryd.prog 142 = some [.int .i64 0, .bool false, .int .i64 0] := by kernel_rfl
@[go_sem] theorem Tryd.flatEq142 : flatEq Tryd.prog 142 = some [.int .i64, .bool, .int .i64] := by kernel_rfl
@[go_sem] theorem Tryd.pl142 : plOf Tryd.prog 142 = some [(0, 1), (1, 1), (2, 1)] := by kernel_rfl
@[go_sem] theorem Tryd.fd142_0 : fdOf Tryd.prog 142 0 = some (0, 1, false) := by kernel_rfl
@[go_sem] theorem Tryd.fd142_1 : fdOf Tryd.prog 142 1 = some (1, 1, false) := by kernel_rfl
@[go_sem] theorem Tryd.fd142_2 : fdOf Tryd.prog 142 2 = some (2, 1, false) := by kernel_rfl
@[go_sem] theorem Tryd.tsz143 : tszOf Tryd.prog 143 = some (1, false) := by kernel_rfl
@[go_sem] theorem Tryd.udef143 : (Tryd.prog.underlying 143).isSome = true := by kernel_rfl
@[go_sem] theorem Tryd.zero143 : zeroOf Tryd.prog 143 = some [.lit ((Go.Value.nilFunc))] := by kernel_rfl
@[go_sem] theorem Tryd.tsz144 : tszOf Tryd.prog 144 = some (5, true) := by kernel_rfl
@[go_sem] theorem Tryd.udef144 : (Tryd.prog.underlying 144).isSome = true := by kernel_rfl
@[go_sem] theorem Tryd.zero144 : zeroOf Tryd.prog 144 = some [.int .i64 0, .int .i64 0, .int .i64 0, .int .i64 0, .int .i64 0] := by kernel_rfl
@[go_sem] theorem Tryd.flatEq144 : flatEq Tryd.prog 144 = some [.int .i64, .int .i64, .int .i64, .int .i64, .int .i64] := by kernel_rfl
@[go_sem] theorem Tryd.pl144 : plOf Tryd.prog 144 = some [(0, 1), (1, 1), (2, 1), (3, 1), (4, 1)] := by kernel_rfl
@[go_sem] theorem Tryd.fd144_0 : fdOf Tryd.prog 144 0 = some (0, 1, false) := by kernel_rfl
@[go_sem] theorem Tryd.fd144_1 : fdOf Tryd.prog 144 1 = some (1, 1, false) := by kernel_rfl
@[go_sem] theorem Tryd.fd144_2 : fdOf Tryd.prog 144 2 = some (2, 1, false) := by kernel_rfl
@[go_sem] theorem Tryd.fd144_3 : fdOf Tryd.prog 144 3 = some (3, 1, false) := by kernel_rfl
@[go_sem] theorem Tryd.fd144_4 : fdOf Tryd.prog 144 4 = some (4, 1, false) := by kernel_rfl
@[go_sem] theorem Tryd.tsz145 : tszOf Tryd.prog 145 = some (1, false) := by kernel_rfl
@[go_sem] theorem Tryd.udef145 : (Tryd.prog.underlying 145).isSome = true := by kernel_rfl
@[go_sem] theorem Tryd.zero145 : zeroOf Tryd.prog 145 = some [.lit ((Go.Value.nilFunc))] := by kernel_rfl
@[go_sem] theorem Tryd.tsz146 : tszOf Tryd.prog 146 = some (1, false) := by kernel_rfl
@[go_sem] theorem Tryd.udef146 : (Tryd.prog.underlying 146).isSome = true := by kernel_rfl
@[go_sem] theorem Tryd.zero146 : zeroOf Tryd.prog 146 = some [.lit ((Go.Value.nilFunc))] := by kernel_rfl
@[go_sem] theorem Tryd.tsz147 : tszOf Tryd.prog 147 = some (24, true) := by kernel_rfl
@[go_sem] theorem Tryd.udef147 : (Tryd.prog.underlying 147).isSome = true := by kernel_rfl
@[go_sem] theorem Tryd.zero147 : zeroOf Tryd.prog 147 = some [.int .u8 0, .int .u8 0, .int .u8 0, .int .u8 0, .int .u8 0, .int .u8 0, .int .u8 0, .int .u8 0, .int .u8 0, .int .u8 0, .int .u8 0, .int .u8 0, .int .u8 0, .int .u8 0, .int .u8 0, .int .u8 0, .int .u8 0, .int .u8 0, .int .u8 0, .int .u8 0, .int .u8 0, .int .u8 0, .int .u8 0, .int .u8 0] := by kernel_rfl
@[go_sem] theorem Tryd.ar147 : arOf Tryd.prog 147 = some (24, 1, false) := by kernel_rfl
@[go_sem] theorem Tryd.pl147 : plOf Tryd.prog 147 = some [(0, 1), (1, 1), (2, 1), (3, 1), (4, 1), (5, 1), (6, 1), (7, 1), (8, 1), (9, 1), (10, 1), (11, 1), (12, 1), (13, 1), (14, 1), (15, 1), (16, 1), (17, 1), (18, 1), (19, 1), (20, 1), (21, 1), (22, 1), (23, 1)] := by kernel_rfl
@[go_sem] theorem Tryd.tsz148 : tszOf Tryd.prog 148 = some (1, false) := by kernel_rfl
@[go_sem] theorem Tryd.udef148 : (Tryd.prog.underlying 148).isSome = true := by kernel_rfl
@[go_sem] theorem Tryd.zero148 : zeroOf Tryd.prog 148 = some [.lit ((Go.Value.nilFunc))] := by kernel_rfl
@[go_sem] theorem Tryd.tsz149 : tszOf Tryd.prog 149 = some (1, false) := by kernel_rfl
@[go_sem] theorem Tryd.udef149 : (Tryd.prog.underlying 149).isSome = true := by kernel_rfl
@[go_sem] theorem Tryd.zero149 : zeroOf Tryd.prog 149 = some [.lit ((Go.Value.nilFunc))] := by kernel_rfl
@[go_sem] theorem Tryd.tsz151 : tszOf Tryd.prog 151 = some (1, false) := by kernel_rfl
@[go_sem] theorem Tryd.udef151 : (Tryd.prog.underlying 151).isSome = true := by kernel_rfl
@[go_sem] theorem Tryd.zero151 : zeroOf Tryd.prog 151 = some [.lit ((Go.Value.nilFunc))] := by kernel_rfl
@[go_sem] theorem Tryd.tsz152 : tszOf Tryd.prog 152 = some (1, false) := by kernel_rfl
@[go_sem] theorem Tryd.udef152 : (Tryd.prog.underlying 152).isSome = true := by kernel_rfl
@[go_sem] theorem Tryd.zero152 : zeroOf Tryd.prog 152 = some [.lit ((Go.Value.nilFunc))] := by kernel_rfl
@[go_sem] theorem Tryd.tsz153 : tszOf Tryd.prog 153 = some (1, false) := by kernel_rfl
@[go_sem] theorem Tryd.udef153 : (Tryd.prog.underlying 153).isSome = true := by kernel_rfl
@[go_sem] theorem Tryd.zero153 : zeroOf Tryd.prog 153 = some [.lit ((Go.Value.nilFunc))] := by kernel_rfl
@[go_sem] theorem Tryd.tsz154 : tszOf Tryd.prog 154 = some (1, false) := by kernel_rfl
@[go_sem] theorem Tryd.udef154 : (Tryd.prog.underlying 154).isSome = true := by kernel_rfl
@[go_sem] theorem Tryd.zero154 : zeroOf Tryd.prog 154 = some [.lit ((Go.Value.pointer none))] := by kernel_rfl
@[go_sem] theorem Tryd.tsz155 : tszOf Tryd.prog 155 = some (1, false) := by kernel_rfl
@[go_sem] theorem Tryd.udef155 : (Tryd.prog.underlying 155).isSome = true := by kernel_rfl
@[go_sem] theorem Tryd.zero155 : zeroOf Tryd.prog 155 = some [.lit ((Go.Value.nilFunc))] := by kernel_rfl
@[go_sem] theorem Tryd.tsz156 : tszOf Tryd.prog 156 = some (20, true) := by kernel_rfl
@[go_sem] theorem Tryd.udef156 : (Tryd.prog.underlying 156).isSome = true := by kernel_rfl
@[go_sem] theorem Tryd.zero156 : zeroOf Tryd.prog 156 = some [.int .u64 0, .int .u64 0, .int .u64 0, .int .u64 0, .int .u64 0, .int .u64 0, .int .u64 0, .int .u64 0, .int .u64 0, .int .u64 0, .int .u64 0, .int .u64 0, .int .u64 0, .int .u64 0, .int .u64 0, .int .u64 0, .int .u64 0, .int .u64 0, .int .u64 0, .int .u64 0] := by kernel_rfl
@[go_sem] theorem Tryd.ar156 : arOf Tryd.prog 156 = some (20, 1, false) := by kernel_rfl
@[go_sem] theorem Tryd.pl156 : plOf Tryd.prog 156 = some [(0, 1), (1, 1), (2, 1), (3, 1), (4, 1), (5, 1), (6, 1), (7, 1), (8, 1), (9, 1), (10, 1), (11, 1), (12, 1), (13, 1), (14, 1), (15, 1), (16, 1), (17, 1), (18, 1), (19, 1)] := by kernel_rfl
@[go_sem] theorem Tryd.tsz157 : tszOf Tryd.prog 157 = some (1, false) := by kernel_rfl
@[go_sem] theorem Tryd.udef157 : (Tryd.prog.underlying 157).isSome = true := by kernel_rfl
@[go_sem] theorem Tryd.zero157 : zeroOf Tryd.prog 157 = some [.int .u32 0] := by kernel_rfl
@[go_sem] theorem Tryd.isInt157 : isIntT Tryd.prog 157 = some .u32 := by kernel_rfl
@[go_sem] theorem Tryd.tsz158 : tszOf Tryd.prog 158 = some (65, true) := by kernel_rfl
@[go_sem] theorem Tryd.udef158 : (Tryd.prog.underlying 158).isSome = true := by kernel_rfl
@[go_sem] theorem Tryd.ar158 : arOf Tryd.prog 158 = some (65, 1, false) := by kernel_rfl
@[go_sem] theorem Tryd.pl158 : plOf Tryd.prog 158 = some [(0, 1), (1, 1), (2, 1), (3, 1), (4, 1), (5, 1), (6, 1), (7, 1), (8, 1), (9, 1), (10, 1), (11, 1), (12, 1), (13, 1), (14, 1), (15, 1), (16, 1), (17, 1), (18, 1), (19, 1), (20, 1), (21, 1), (22, 1), (23, 1), (24, 1), (25, 1), (26, 1), (27, 1), (28, 1), (29, 1), (30, 1), (31, 1), (32, 1), (33, 1), (34, 1), (35, 1), (36, 1), (37, 1), (38, 1), (39, 1), (40, 1), (41, 1), (42, 1), (43, 1), (44, 1), (45, 1), (46, 1), (47, 1), (48, 1), (49, 1), (50, 1), (51, 1), (52, 1), (53, 1), (54, 1), (55, 1), (56, 1), (57, 1), (58, 1), (59, 1), (60, 1), (61, 1), (62, 1), (63, 1), (64, 1)] := by kernel_rfl
@[go_sem] theorem Tryd.tsz159 : tszOf Tryd.prog 159 = some (1, false) := by kernel_rfl
@[go_sem] theorem Tryd.udef159 : (Tryd.prog.underlying 159).isSome = true := by kernel_rfl
@[go_sem] theorem Tryd.zero159 : zeroOf Tryd.prog 159 = some [.lit ((Go.Value.nilFunc))] := by kernel_rfl
@[go_sem] theorem Tryd.tsz161 : tszOf Tryd.prog 161 = some (1, false) := by kernel_rfl
@[go_sem] theorem Tryd.udef161 : (Tryd.prog.underlying 161).isSome = true := by kernel_rfl
@[go_sem] theorem Tryd.zero161 : zeroOf Tryd.prog 161 = some [.lit ((Go.Value.nilFunc))] := by kernel_rfl
@[go_sem] theorem Tryd.tsz162 : tszOf Tryd.prog 162 = some (1, false) := by kernel_rfl
@[go_sem] theorem Tryd.udef162 : (Tryd.prog.underlying 162).isSome = true := by kernel_rfl
@[go_sem] theorem Tryd.zero162 : zeroOf Tryd.prog 162 = some [.lit ((Go.Value.nilFunc))] := by kernel_rfl
@[go_sem] theorem Tryd.tsz163 : tszOf Tryd.prog 163 = some (32, true) := by kernel_rfl
@[go_sem] theorem Tryd.udef163 : (Tryd.prog.underlying 163).isSome = true := by kernel_rfl
@[go_sem] theorem Tryd.zero163 : zeroOf Tryd.prog 163 = some [.int .u8 0, .int .u8 0, .int .u8 0, .int .u8 0, .int .u8 0, .int .u8 0, .int .u8 0, .int .u8 0, .int .u8 0, .int .u8 0, .int .u8 0, .int .u8 0, .int .u8 0, .int .u8 0, .int .u8 0, .int .u8 0, .int .u8 0, .int .u8 0, .int .u8 0, .int .u8 0, .int .u8 0, .int .u8 0, .int .u8 0, .int .u8 0, .int .u8 0, .int .u8 0, .int .u8 0, .int .u8 0, .int .u8 0, .int .u8 0, .int .u8 0, .int .u8 0] := by kernel_rfl
@[go_sem] theorem Tryd.ar163 : arOf Tryd.prog 163 = some (32, 1, false) := by kernel_rfl
@[go_sem] theorem Tryd.pl163 : plOf Tryd.prog 163 = some [(0, 1), (1, 1), (2, 1), (3, 1), (4, 1), (5, 1), (6, 1), (7, 1), (8, 1), (9, 1), (10, 1), (11, 1), (12, 1), (13, 1), (14, 1), (15, 1), (16, 1), (17, 1), (18, 1), (19, 1), (20, 1), (21, 1), (22, 1), (23, 1), (24, 1), (25, 1), (26, 1), (27, 1), (28, 1), (29, 1), (30, 1), (31, 1)] := by kernel_rfl
@[go_sem] theorem Tryd.tsz164 : tszOf Tryd.prog 164 = some (64, true) := by kernel_rfl
@[go_sem] theorem Tryd.udef164 : (Tryd.prog.underlying 164).isSome = true := by kernel_rfl
@[go_sem] theorem Tryd.zero164 : zeroOf Tryd.prog 164 = some [.int .u8 0, .int .u8 0, .int .u8 0, .int .u8 0, .int .u8 0, .int .u8 0, .int .u8 0, .int .u8 0, .int .u8 0, .int .u8 0, .int .u8 0, .int .u8 0, .int .u8 0, .int .u8 0, .int .u8 0, .int .u8 0, .int .u8 0, .int .u8 0, .int .u8 0, .int .u8 0, .int .u8 0, .int .u8 0, .int .u8 0, .int .u8 0, .int .u8 0, .int .u8 0, .int .u8 0, .int .u8 0, .int .u8 0, .int .u8 0, .int .u8 0, .int .u8 0, .int .u8 0, .int .u8 0, .int .u8 0, .int .u8 0, .int .u8 0, .int .u8 0, .int .u8 0, .int .u8 0, .int .u8 0, .int .u8 0, .int .u8 0, .int .u8 0, .int .u8 0, .int .u8 0, .int .u8 0, .int .u8 0, .int .u8 0, .int .u8 0, .int .u8 0, .int .u8 0, .int .u8 0, .int .u8 0, .int .u8 0, .int .u8 0, .int .u8 0, .int .u8 0, .int .u8 0, .int .u8 0, .int .u8 0, .int .u8 0, .int .u8 0, .int .u8 0] := by kernel_rfl
@[go_sem] theorem Tryd.ar164 : arOf Tryd.prog 164 = some (64, 1, false) := by kernel_rfl
@[go_sem] theorem Tryd.pl164 : plOf Tryd.prog 164 = some [(0, 1), (1, 1), (2, 1), (3, 1), (4, 1), (5, 1), (6, 1), (7, 1), (8, 1), (9, 1), (10, 1), (11, 1), (12, 1), (13, 1), (14, 1), (15, 1), (16, 1), (17, 1), (18, 1), (19, 1), (20, 1), (21, 1), (22, 1), (23, 1), (24, 1), (25, 1), (26, 1), (27, 1), (28, 1), (29, 1), (30, 1), (31, 1), (32, 1), (33, 1), (34, 1), (35, 1), (36, 1), (37, 1), (38, 1), (39, 1), (40, 1), (41, 1), (42, 1), (43, 1), (44, 1), (45, 1), (46, 1), (47, 1), (48, 1), (49, 1), (50, 1), (51, 1), (52, 1), (53, 1), (54, 1), (55, 1), (56, 1), (57, 1), (58, 1), (59, 1), (60, 1), (61, 1), (62, 1), (63, 1)] := by kernel_rfl
@[go_sem] theorem Tryd.tsz165 : tszOf Tryd.prog 165 = some (4, true) := by kernel_rfl
@[go_sem] theorem Tryd.udef165 : (Tryd.prog.underlying 165).isSome = true := by kernel_rfl
@[go_sem] theorem Tryd.zero165 : zeroOf Tryd.prog 165 = some [.lit ((Go.Value.pointer none)), .lit ((Go.Value.pointer none)), .lit ((Go.Value.pointer none)), .str ByteArray.empty] := by kernel_rfl
@[go_sem] theorem Tryd.pl165 : plOf Tryd.prog 165 = some [(0, 1), (1, 1), (2, 1), (3, 1)] := by kernel_rfl
@[go_sem] theorem Tryd.tsz166 : tszOf Tryd.prog 166 = some (4, true) := by kernel_rfl
@[go_sem] theorem Tryd.udef166 : (Tryd.prog.underlying 166).isSome = true := by kernel_rfl
@[go_sem] theorem Tryd.zero166 : zeroOf Tryd.prog 166 = some [.lit ((Go.Value.pointer none)), .lit ((Go.Value.pointer none)), .lit ((Go.Value.pointer none)), .str ByteArray.empty] := by kernel_rfl
@[go_sem] theorem Tryd.pl166 : plOf Tryd.prog 166 = some [(0, 1), (1, 1), (2, 1), (3, 1)] := by kernel_rfl
@[go_sem] theorem Tryd.tsz167 : tszOf Tryd.prog 167 = some (0, true) := by kernel_rfl
@[go_sem] theorem Tryd.udef167 : (Tryd.prog.underlying 167).isSome = true := by kernel_rfl
@[go_sem] theorem Tryd.zero167 : zeroOf Tryd.prog 167 = some [] := by kernel_rfl
@[go_sem] theorem Tryd.ar167 : arOf Tryd.prog 167 = some (0, 1, false) := by kernel_rfl
@[go_sem] theorem Tryd.pl167 : plOf Tryd.prog 167 = some [] := by kernel_rfl
@[go_sem] theorem Tryd.tsz168 : tszOf Tryd.prog 168 = some (0, true) := by kernel_rfl
@[go_sem] theorem Tryd.udef168 : (Tryd.prog.underlying 168).isSome = true := by kernel_rfl
@[go_sem] theorem Tryd.zero168 : zeroOf Tryd.prog 168 = some [] := by kernel_rfl
@[go_sem] theorem Tryd.pl168 : plOf Tryd.prog 168 = some [(0, 0)] := by kernel_rfl
@[go_sem] theorem Tryd.tsz169 : tszOf Tryd.prog 169 = some (0, true) := by kernel_rfl
@[go_sem] theorem Tryd.udef169 : (Tryd.prog.underlying 169).isSome = true := by kernel_rfl
@[go_sem] theorem Tryd.zero169 : zeroOf Tryd.prog 169 = some [] := by kernel_rfl
@[go_sem] theorem Tryd.pl169 : plOf Tryd.prog 169 = some [(0, 0)] := by kernel_rfl
@[go_sem] theorem Tryd.tsz170 : tszOf Tryd.prog 170 = some (1, false) := by kernel_rfl
@[go_sem] theorem Tryd.udef170 : (Tryd.prog.underlying 170).isSome = true := by kernel_rfl
@[go_sem] theorem Tryd.zero170 : zeroOf Tryd.prog 170 = some [.int .u8 0] := by kernel_rfl
@[go_sem] theorem Tryd.isInt170 : isIntT Tryd.prog 170 = some .u8 := by kernel_rfl
@[go_sem] theorem Tryd.tsz171 : tszOf Tryd.prog 171 = some (1, false) := by kernel_rfl
@[go_sem] theorem Tryd.udef171 : (Tryd.prog.underlying 171).isSome = true := by kernel_rfl
@[go_sem] theorem Tryd.zero171 : zeroOf Tryd.prog 171 = some [.int .u8 0] := by kernel_rfl
@[go_sem] theorem Tryd.isInt171 : isIntT Tryd.prog 171 = some .u8 := by kernel_rfl
@[go_sem] theorem Tryd.tsz172 : tszOf Tryd.prog 172 = some (1, false) := by kernel_rfl
@[go_sem] theorem Tryd.udef172 : (Tryd.prog.underlying 172).isSome = true := by kernel_rfl
@[go_sem] theorem Tryd.zero172 : zeroOf Tryd.prog 172 = some [.lit ((Go.Value.nilFunc))] := by kernel_rfl
@[go_sem] theorem Tryd.tsz173 : tszOf Tryd.prog 173 = some (1, false) := by kernel_rfl
@[go_sem] theorem Tryd.udef173 : (Tryd.prog.underlying 173).isSome = true := by kernel_rfl
@[go_sem] theorem Tryd.zero173 : zeroOf Tryd.prog 173 = some [.lit ((Go.Value.pointer none))] := by kernel_rfl
@[go_sem] theorem Tryd.tsz174 : tszOf Tryd.prog 174 = some (1, false) := by kernel_rfl
@[go_sem] theorem Tryd.udef174 : (Tryd.prog.underlying 174).isSome = true := by kernel_rfl
@[go_sem] theorem Tryd.zero174 : zeroOf Tryd.prog 174 = some [.int .i32 0] := by kernel_rfl
@[go_sem] theorem Tryd.isInt174 : isIntT Tryd.prog 174 = some .i32 := by kernel_rfl
@[go_sem] theorem Tryd.tsz175 : tszOf Tryd.prog 175 = some (1, false) := by kernel_rfl
@[go_sem] theorem Tryd.udef175 : (Tryd.prog.underlying 175).isSome = true := by kernel_rfl
@[go_sem] theorem Tryd.zero175 : zeroOf Tryd.prog 175 = some [.int .i32 0] := by kernel_rfl
@[go_sem] theorem Tryd.isInt175 : isIntT Tryd.prog 175 = some .i32 := by kernel_rfl
@[go_sem] theorem Tryd.tsz176 : tszOf Tryd.prog 176 = some (11, true) := by kernel_rfl
@[go_sem] theorem Tryd.udef176 : (Tryd.prog.underlying 176).isSome = true := by kernel_rfl
@[go_sem] theorem Tryd.zero176 : zeroOf Tryd.prog 176 = some [.int .u64 0, .int .u64 0, .int .u32 0, .int .u8 0, .int .u8 0, .int .u8 0, .int .u8 0, .lit ((Go.Value.nilFunc)), .lit ((Go.Value.pointer none)), .int .i32 0, .int .i32 0] := by kernel_rfl
@[go_sem] theorem Tryd.pl176 : plOf Tryd.prog 176 = some [(0, 1), (1, 1), (2, 1), (3, 1), (4, 1), (5, 1), (6, 1), (7, 1), (8, 1), (9, 1), (10, 1)] := by kernel_rfl
@[go_sem] theorem Tryd.tsz177 : tszOf Tryd.prog 177 = some (11, true) := by kernel_rfl
@[go_sem] theorem Tryd.udef177 : (Tryd.prog.underlying 177).isSome = true := by kernel_rfl
@[go_sem] theorem Tryd.zero177 : zeroOf Tryd.prog 177 = some [.int .u64 0, .int .u64 0, .int .u32 0, .int .u8 0, .int .u8 0, .int .u8 0, .int .u8 0, .lit ((Go.Value.nilFunc)), .lit ((Go.Value.pointer none)), .int .i32 0, .int .i32 0] := by kernel_rfl
@[go_sem] theorem Tryd.pl177 : plOf Tryd.prog 177 = some [(0, 1), (1, 1), (2, 1), (3, 1), (4, 1), (5, 1), (6, 1), (7, 1), (8, 1), (9, 1), (10, 1)] := by kernel_rfl
@[go_sem] theorem Tryd.tsz178 : tszOf Tryd.prog 178 = some (1, false) := by kernel_rfl
@[go_sem] theorem Tryd.udef178 : (Tryd.prog.underlying 178).isSome = true := by kernel_rfl
@[go_sem] theorem Tryd.zero178 : zeroOf Tryd.prog 178 = some [.lit ((Go.Value.pointer none))] := by kernel_rfl
@[go_sem] theorem Tryd.isPt2 : isPt Tryd.prog 2 = false := by kernel_rfl
@[go_sem] theorem Tryd.isPt3 : isPt Tryd.prog 3 = false := by kernel_rfl
@[go_sem] theorem Tryd.isPt4 : isPt Tryd.prog 4 = false := by kernel_rfl
@[go_sem] theorem Tryd.isPt9 : isPt Tryd.prog 9 = false := by kernel_rfl
@[go_sem] theorem Tryd.isPt21 : isPt Tryd.prog 21 = false := by kernel_rfl
@[go_sem] theorem Tryd.isPt23 : isPt Tryd.prog 23 = false := by kernel_rfl
@[go_sem] theorem Tryd.isPt27 : isPt Tryd.prog 27 = false := by kernel_rfl
@[go_sem] theorem Tryd.isPt30 : isPt Tryd.prog 30 = false := by kernel_rfl
@[go_sem] theorem Tryd.isPt33 : isPt Tryd.prog 33 = false := by kernel_rfl
@[go_sem] theorem Tryd.isPt52 : isPt Tryd.prog 52 = false := by kernel_rfl
@[go_sem] theorem Tryd.isPt53 : isPt Tryd.prog 53 = false := by kernel_rfl
@[go_sem] theorem Tryd.isPt55 : isPt Tryd.prog 55 = false := by kernel_rfl
@[go_sem] theorem Tryd.isPt57 : isPt Tryd.prog 57 = false := by kernel_rfl
@[go_sem] theorem Tryd.isPt60 : isPt Tryd.prog 60 = false := by kernel_rfl
@[go_sem] theorem Tryd.isPt61 : isPt Tryd.prog 61 = false := by kernel_rfl
@[go_sem] theorem Tryd.isPt63 : isPt Tryd.prog 63 = false := by kernel_rfl
@[go_sem] theorem Tryd.isPt65 : isPt Tryd.prog 65 = false := by kernel_rfl
@[go_sem] theorem Tryd.isPt71 : isPt Tryd.prog 71 = true := by kernel_rfl
@[go_sem] theorem Tryd.isPt72 : isPt Tryd.prog 72 = false := by kernel_rfl
@[go_sem] theorem Tryd.isPt98 : isPt Tryd.prog 98 = false := by kernel_rfl
@[go_sem] theorem Tryd.isPt120 : isPt Tryd.prog 120 = false := by kernel_rfl
@[go_sem] theorem Tryd.isPt131 : isPt Tryd.prog 131 = false := by kernel_rfl
@[go_sem] theorem Tryd.isPt136 : isPt Tryd.prog 136 = false := by kernel_rfl
@[go_sem] theorem Tryd.isPt142 : isPt Tryd.prog 142 = false := by kernel_rfl
@[go_sem] theorem Tryd.isPt144 : isPt Tryd.prog 144 = false := by kernel_rfl
@[go_sem] theorem Tryd.isPt157 : isPt Tryd.prog 157 = false := by kernel_rfl
theorem Tryd.okF6 : okF Tryd.prog 6 = true := by kernel_rfl
theorem Tryd.okF10 : okF Tryd.prog 10 = true := by kernel_rfl
theorem Tryd.okF12 : okF Tryd.prog 12 = true := by kernel_rfl
theorem Tryd.okF13 : okF Tryd.prog 13 = true := by kernel_rfl
theorem Tryd.okF15 : okF Tryd.prog 15 = true := by kernel_rfl
theorem Tryd.okF18 : okF Tryd.prog 18 = true := by kernel_rfl
theorem Tryd.okF21 : okF Tryd.prog 21 = true := by kernel_rfl
theorem Tryd.okF24 : okF Tryd.prog 24 = true := by kernel_rfl
theorem Tryd.okF26 : okF Tryd.prog 26 = true := by kernel_rfl
theorem Tryd.okF28 : okF Tryd.prog 28 = true := by kernel_rfl
theorem Tryd.okF29 : okF Tryd.prog 29 = true := by kernel_rfl
theorem Tryd.okF30 : okF Tryd.prog 30 = true := by kernel_rfl
theorem Tryd.okF38 : okF Tryd.prog 38 = true := by kernel_rfl
theorem Tryd.okF39 : okF Tryd.prog 39 = true := by kernel_rfl
theorem Tryd.okF40 : okF Tryd.prog 40 = true := by kernel_rfl
theorem Tryd.okF42 : okF Tryd.prog 42 = true := by kernel_rfl
theorem Tryd.okF43 : okF Tryd.prog 43 = true := by kernel_rfl
theorem Tryd.okF44 : okF Tryd.prog 44 = true := by kernel_rfl
theorem Tryd.okF45 : okF Tryd.prog 45 = true := by kernel_rfl
theorem Tryd.okF46 : okF Tryd.prog 46 = true := by kernel_rfl
theorem Tryd.okF47 : okF Tryd.prog 47 = true := by kernel_rfl
theorem Tryd.okF48 : okF Tryd.prog 48 = true := by kernel_rfl
theorem Tryd.okF49 : okF Tryd.prog 49 = true := by kernel_rfl
theorem Tryd.okF50 : okF Tryd.prog 50 = true := by kernel_rfl
theorem Tryd.okF51 : okF Tryd.prog 51 = true := by kernel_rfl
theorem Tryd.okF52 : okF Tryd.prog 52 = true := by kernel_rfl
theorem Tryd.okF53 : okF Tryd.prog 53 = true := by kernel_rfl
theorem Tryd.okF54 : okF Tryd.prog 54 = true := by kernel_rfl
theorem Tryd.okF55 : okF Tryd.prog 55 = true := by kernel_rfl
theorem Tryd.okF56 : okF Tryd.prog 56 = true := by kernel_rfl
theorem Tryd.okF57 : okF Tryd.prog 57 = true := by kernel_rfl
theorem Tryd.okF64 : okF Tryd.prog 64 = true := by kernel_rfl
theorem Tryd.okF68 : okF Tryd.prog 68 = true := by kernel_rfl
theorem Tryd.okF69 : okF Tryd.prog 69 = true := by kernel_rfl
theorem Tryd.okF71 : okF Tryd.prog 71 = true := by kernel_rfl
theorem Tryd.okF72 : okF Tryd.prog 72 = true := by kernel_rfl
theorem Tryd.okF73 : okF Tryd.prog 73 = true := by kernel_rfl
theorem Tryd.okF74 : okF Tryd.prog 74 = true := by kernel_rfl
theorem Tryd.okF75 : okF Tryd.prog 75 = true := by kernel_rfl
theorem Tryd.okF76 : okF Tryd.prog 76 = true := by kernel_rfl
theorem Tryd.okF77 : okF Tryd.prog 77 = true := by kernel_rfl
theorem Tryd.okF78 : okF Tryd.prog 78 = true := by kernel_rfl
theorem Tryd.okF98 : okF Tryd.prog 98 = true := by kernel_rfl
theorem Tryd.okF99 : okF Tryd.prog 99 = true := by kernel_rfl
theorem Tryd.okF104 : okF Tryd.prog 104 = true := by kernel_rfl
theorem Tryd.okF115 : okF Tryd.prog 115 = true := by kernel_rfl
end Go.Proofs
end
section
set_option linter.unusedSimpArgs false
set_option linter.unusedVariables false
set_option maxRecDepth 100000
namespace Go.Proofs
open Go.Lv
def IntS.cs (x : Int) : List V := [.int .i64 x]
instance : FlatP IntS.cs 1 := ⟨fun _ => rfl, fun _ d => by cases d <;> rfl, fun _ => rfl, fun _ => rfl⟩
theorem IntS.csl (a : Int) : (IntS.cs a).length = 1 := rfl
abbrev IntS.ok (x : Int) : Prop := i64R x
abbrev IntS.sl (L : List Int) : V := .sl L.length 1 (Go.Lv.rows IntS.cs L)
abbrev IntS.zs : List V := [.int .i64 0]
def IntS.marks (k : Int) (n : Nat) : List Int := (List.range n).map fun i : Nat => k + (i : Int)
@[simp] theorem IntS.marks_len (k : Int) (n : Nat) : (IntS.marks k n).length = n := by simp [IntS.marks]
abbrev IntS.v (x : Int) : V := .int .i64 x
end Go.Proofs
end
section
set_option linter.unusedSimpArgs false
set_option linter.unusedVariables false
set_option maxRecDepth 100000
set_option maxHeartbeats 1000000
namespace Go.Proofs
open Go.Lv
/-- A cursor: where it stands, its seed. -/
structure Cur where
  a : Int
  s : Int
def Cur.cs (B : List Int) (c : Cur) : List V := [ByteS.sl B, .int .i64 c.a, .int .u64 c.s]
def CB (B : List Int) : Prop := lstR u8R B
/-- It stands between 0 and k. -/
def Cur.le (c : Cur) (k : Int) : Prop := 0 ≤ c.a ∧ c.a ≤ k
theorem Cur.ren (B : List Int) (c : Cur) (f : Nat → R) (d : Nat) : (c.cs B).map (Go.Lv.ren f d) = c.cs B := by cases d <;> simp [Cur.cs, Go.Lv.ren]
theorem lendCur {B : List Int} {c : Cur} {h : Hp} {id : Nat} (hid : h[id]? = some (some (c.cs B))) : pickH [id] h false = [some (c.cs B)] := by
  simp only [pickH, List.map_cons, List.map_nil, pickB, hid, Cur.ren]
theorem lendCur2 {α : Type} {cs : α → List V} {w : Nat} [FlatP cs w] {L : List α} {B : List Int} {c : Cur} {h : Hp} {i j : Nat} (hi : h[i]? = some (some (c.cs B))) (hj : h[j]? = some (some (rows cs L))) : pickH [i, j] h false = [some (c.cs B), some (rows cs L)] := by
  simp only [pickH, List.map_cons, List.map_nil, pickB, hi, hj, Cur.ren, map_ren_rows]
theorem growCur (B : List Int) (c c' : Cur) : grown [some (c.cs B)] [some (c'.cs B)] := ⟨⟨rfl, rfl⟩, trivial⟩
theorem growCur2 {α : Type} {cs : α → List V} {L : List α} (B : List Int) (c c' : Cur) : grown [some (c.cs B), some (rows cs L)] [some (c'.cs B), some (rows cs L)] := ⟨⟨rfl, rfl⟩, ⟨rfl, rfl⟩, trivial⟩
theorem andI_255 (x : Int) : 0 ≤ andI .u64 x 255 ∧ andI .u64 x 255 ≤ 255 := by
  have h : ∀ y : BitVec 64, (y &&& BitVec.ofInt 64 255).toNat ≤ 255 := fun y => by
    rw [BitVec.toNat_and]
    exact Nat.le_trans Nat.and_le_right (by decide)
  have hb : (BitVec.ofInt 64 x &&& BitVec.ofInt 64 255).toNat ≤ 255 := h _
  have hw : andI .u64 x 255 = (((BitVec.ofInt 64 x &&& BitVec.ofInt 64 255).toNat : Nat) : Int) := by
    unfold andI
    show IntKind.u64.wrap (((BitVec.ofInt 64 x &&& BitVec.ofInt 64 255).toNat : Nat) : Int) = _
    generalize (BitVec.ofInt 64 x &&& BitVec.ofInt 64 255).toNat = n at hb
    simp [IntKind.wrap, IntKind.bits, IntKind.signed]
    omega
  rw [hw]
  omega
def nextB (B : List Int) (c : Cur) : Int := if c.a < B.length then B.getD c.a.toNat 0 else 0
def nextS (B : List Int) (c : Cur) : Int := IntKind.u64.wrap (IntKind.u64.wrap (IntKind.u64.wrap (c.s * 6364136223846793005) + IntKind.u64.wrap (nextB B c)) + 101717)
def nextC (B : List Int) (c : Cur) : Cur := ⟨c.a + 1, nextS B c⟩
def nextV (B : List Int) (c : Cur) : Int := if c.a < B.length then nextB B c else andI .u64 (shrI .u64 (nextS B c) 40) 255
theorem nextB_bd {B : List Int} (hB : CB B) {c : Cur} (h : 0 ≤ c.a) : 0 ≤ nextB B c ∧ nextB B c ≤ 255 := by
  unfold nextB
  split
  · have hi : c.a.toNat < B.length := by omega
    have := hB.2 _ (List.getElem_mem hi)
    simpa [List.getD, hi, u8R] using this
  · omega
theorem nextV_bd {B : List Int} (hB : CB B) {c : Cur} (h : 0 ≤ c.a) : 0 ≤ nextV B c ∧ nextV B c ≤ 255 := by
  unfold nextV
  split
  · exact nextB_bd hB h
  · exact andI_255 _
theorem next_ok {B : List Int} (hB : CB B) {c : Cur} (hc : c.le 4611686018427387904) : Ctr Tryd.prog 75 [.ptr 0 0] [some (c.cs B)] (.int .i64 (nextV B c)) [some ((nextC B c).cs B)] := by
  obtain ⟨a, s⟩ := c
  obtain ⟨ha, hak⟩ := hc
  dsimp only at ha hak
  have hw : IntKind.i64.wrap (a + 1) = a + 1 := wrap_i64 (by omega) (by omega)
  have hbl := hB.1
  by_cases h1 : a < B.length
  · obtain ⟨i, rfl⟩ : ∃ i : Nat, a = i := ⟨a.toNat, by omega⟩
    have hi : i < B.length := by omega
    have hr := rows_at ByteS.csl hi
    obtain ⟨b0, b1⟩ : 0 ≤ B[i] ∧ B[i] ≤ 255 := by have := hB.2 _ (List.getElem_mem hi); simpa [u8R] using this
    have hwb : IntKind.i64.wrap B[i] = B[i] := wrap_i64 (by omega) (by omega)
    have hd : decide ((i : Int) < (B.length : Int)) = true := by simp; omega
    have hd2 : decide ((i : Int) + 1 ≤ (B.length : Int)) = true := by simp; omega
    have e1 : nextB B ⟨i, s⟩ = B[i] := by simp [nextB, h1, List.getD, hi]
    have e2 : nextV B ⟨i, s⟩ = B[i] := by simp [nextV, h1, e1]
    rw [nextC, nextS, e1, e2]
    refine Ctr.intro Tryd.mixed Tryd.func75 rfl Tryd.okF75 ?_
    simp -implicitDefEqProofs -dsimp only [go_sem, Nat.reduceSub, Nat.reduceAdd, Nat.reduceMul, Nat.reduceLT, Nat.reduceLeDiff, Nat.reduceEqDiff, Nat.reduceDiv, Nat.reduceMod, Int.reduceToNat, Int.reduceLE, Int.reduceLT, Int.reduceBEq, Int.reduceBNe, Int.reduceNeg, Int.reduceAdd, Int.reduceSub, Int.reduceMul, reduceCtorEq, Tryd.ntmps75, Tryd.results75]
    (repeat ((repeat1' (first | simp -implicitDefEqProofs -dsimp only [go_sem, Nat.reduceSub, Nat.reduceAdd, Nat.reduceMul, Nat.reduceLT, Nat.reduceLeDiff, Nat.reduceEqDiff, Nat.reduceDiv, Nat.reduceMod, Int.reduceToNat, Int.reduceLE, Int.reduceLT, Int.reduceBEq, Int.reduceBNe, Int.reduceNeg, Int.reduceAdd, Int.reduceSub, Int.reduceMul, reduceCtorEq, Cur.cs, hw, hd, hd2, hr, ByteS.cs, hwb] | simp -implicitDefEqProofs -dsimp (disch := omega) only [wrap_i64])); repeat (with_reducible refine sideA ?_)))
    exact WeakR.refl _ _ _
  · have hd : decide (a < (B.length : Int)) = false := by simp; omega
    have hd2 : decide (a + 1 ≤ (B.length : Int)) = false := by simp; omega
    have e3 : nextV B ⟨a, s⟩ = andI .u64 (shrI .u64 (nextS B ⟨a, s⟩) 40) 255 := by simp [nextV, h1]
    have e4 : nextB B ⟨a, s⟩ = 0 := by simp [nextB, h1]
    rw [nextC, e3]
    rw [nextS, e4]
    obtain ⟨e1, e2⟩ := andI_255 (shrI .u64 (IntKind.u64.wrap (IntKind.u64.wrap (IntKind.u64.wrap (s * 6364136223846793005) + IntKind.u64.wrap 0) + 101717)) 40)
    generalize hq : andI .u64 (shrI .u64 (IntKind.u64.wrap (IntKind.u64.wrap (IntKind.u64.wrap (s * 6364136223846793005) + IntKind.u64.wrap 0) + 101717)) 40) 255 = q at e1 e2 ⊢
    have hwq : IntKind.i64.wrap q = q := wrap_i64 (by omega) (by omega)
    refine Ctr.intro Tryd.mixed Tryd.func75 rfl Tryd.okF75 ?_
    simp -implicitDefEqProofs -dsimp only [go_sem, Nat.reduceSub, Nat.reduceAdd, Nat.reduceMul, Nat.reduceLT, Nat.reduceLeDiff, Nat.reduceEqDiff, Nat.reduceDiv, Nat.reduceMod, Int.reduceToNat, Int.reduceLE, Int.reduceLT, Int.reduceBEq, Int.reduceBNe, Int.reduceNeg, Int.reduceAdd, Int.reduceSub, Int.reduceMul, reduceCtorEq, Tryd.ntmps75, Tryd.results75]
    (repeat ((repeat1' (first | simp -implicitDefEqProofs -dsimp only [go_sem, Nat.reduceSub, Nat.reduceAdd, Nat.reduceMul, Nat.reduceLT, Nat.reduceLeDiff, Nat.reduceEqDiff, Nat.reduceDiv, Nat.reduceMod, Int.reduceToNat, Int.reduceLE, Int.reduceLT, Int.reduceBEq, Int.reduceBNe, Int.reduceNeg, Int.reduceAdd, Int.reduceSub, Int.reduceMul, reduceCtorEq, Cur.cs, hw, hd, hd2, hq] | simp -implicitDefEqProofs -dsimp (disch := omega) only [wrap_i64])); repeat (with_reducible refine sideA ?_)))
    exact WeakR.refl _ _ _
def pickV (B : List Int) (n : Int) (c : Cur) : Int := if n ≤ 1 then 0 else if 200 < n then (nextV B c * 256 + nextV B (nextC B c)).tmod n else (nextV B c).tmod n
def pickC (B : List Int) (n : Int) (c : Cur) : Cur := if n ≤ 1 then c else if 200 < n then nextC B (nextC B c) else nextC B c
theorem pickC_le {B : List Int} {n k : Int} {c : Cur} (h : c.le k) : (pickC B n c).le (k + 2) := by
  unfold pickC nextC Cur.le at *
  split
  · omega
  · split <;> (simp only []; omega)
theorem pickV_bd {B : List Int} (hB : CB B) {n : Int} {c : Cur} (h : 0 ≤ c.a) : 0 ≤ pickV B n c ∧ (1 ≤ n → pickV B n c < n) := by
  have h1 := nextV_bd hB h
  have h2 := nextV_bd hB (c := nextC B c) (by simp [nextC]; omega)
  unfold pickV
  split
  · omega
  · split
    · exact ⟨Int.tmod_nonneg _ (by omega), fun _ => Int.tmod_lt_of_pos _ (by omega)⟩
    · exact ⟨Int.tmod_nonneg _ (by omega), fun _ => Int.tmod_lt_of_pos _ (by omega)⟩
theorem pick_ok {B : List Int} (hB : CB B) {c : Cur} (hc : c.le 4611686018427387903) (n : Int) (hn : n ≤ 1000000000) : Ctr Tryd.prog 48 [.ptr 0 0, .int .i64 n] [some (c.cs B)] (.int .i64 (pickV B n c)) [some ((pickC B n c).cs B)] := by
  obtain ⟨r1, r2⟩ := nextV_bd hB hc.1
  have hc1 : (nextC B c).le 4611686018427387904 := by obtain ⟨h, h'⟩ := hc; exact ⟨by simp [nextC]; omega, by simp [nextC]; omega⟩
  obtain ⟨q1, q2⟩ := nextV_bd hB hc1.1
  have p4 := next_ok hB (c := c) ⟨hc.1, by have := hc.2; omega⟩
  have q4 := next_ok hB hc1
  by_cases h1 : n ≤ 1
  · have hd : decide (n ≤ 1) = true := by simp [h1]
    rw [pickV, pickC, if_pos h1, if_pos h1]
    refine Ctr.intro Tryd.mixed Tryd.func48 rfl Tryd.okF48 ?_
    simp -implicitDefEqProofs -dsimp only [go_sem, Nat.reduceSub, Nat.reduceAdd, Nat.reduceMul, Nat.reduceLT, Nat.reduceLeDiff, Nat.reduceEqDiff, Nat.reduceDiv, Nat.reduceMod, Int.reduceToNat, Int.reduceLE, Int.reduceLT, Int.reduceBEq, Int.reduceBNe, Int.reduceNeg, Int.reduceAdd, Int.reduceSub, Int.reduceMul, reduceCtorEq, Tryd.ntmps48, Tryd.results48]
    (repeat ((repeat1' (first | simp -implicitDefEqProofs -dsimp only [go_sem, Nat.reduceSub, Nat.reduceAdd, Nat.reduceMul, Nat.reduceLT, Nat.reduceLeDiff, Nat.reduceEqDiff, Nat.reduceDiv, Nat.reduceMod, Int.reduceToNat, Int.reduceLE, Int.reduceLT, Int.reduceBEq, Int.reduceBNe, Int.reduceNeg, Int.reduceAdd, Int.reduceSub, Int.reduceMul, reduceCtorEq, hd] | simp -implicitDefEqProofs -dsimp (disch := omega) only [wrap_i64])); repeat (with_reducible refine sideA ?_)))
    exact WeakR.refl _ _ _
  have hd : decide (n ≤ 1) = false := by simp; omega
  by_cases h2 : 200 < n
  · have hd2 : decide (200 < n) = true := by simp [h2]
    have hw : IntKind.i64.wrap (nextV B c * 256) = nextV B c * 256 := wrap_i64 (by omega) (by omega)
    have hw2 : IntKind.i64.wrap (nextV B c * 256 + nextV B (nextC B c)) = nextV B c * 256 + nextV B (nextC B c) := wrap_i64 (by omega) (by omega)
    rw [pickV, pickC, if_neg h1, if_neg h1, if_pos h2, if_pos h2]
    refine Ctr.intro Tryd.mixed Tryd.func48 rfl Tryd.okF48 ?_
    simp -implicitDefEqProofs -dsimp only [go_sem, Nat.reduceSub, Nat.reduceAdd, Nat.reduceMul, Nat.reduceLT, Nat.reduceLeDiff, Nat.reduceEqDiff, Nat.reduceDiv, Nat.reduceMod, Int.reduceToNat, Int.reduceLE, Int.reduceLT, Int.reduceBEq, Int.reduceBNe, Int.reduceNeg, Int.reduceAdd, Int.reduceSub, Int.reduceMul, reduceCtorEq, Tryd.ntmps48, Tryd.results48]
    (repeat ((repeat1' (first | simp -implicitDefEqProofs -dsimp only [go_sem, Nat.reduceSub, Nat.reduceAdd, Nat.reduceMul, Nat.reduceLT, Nat.reduceLeDiff, Nat.reduceEqDiff, Nat.reduceDiv, Nat.reduceMod, Int.reduceToNat, Int.reduceLE, Int.reduceLT, Int.reduceBEq, Int.reduceBNe, Int.reduceNeg, Int.reduceAdd, Int.reduceSub, Int.reduceMul, reduceCtorEq, hd] | simp -implicitDefEqProofs -dsimp (disch := omega) only [wrap_i64])); repeat (with_reducible refine sideA ?_)))
    refine callS.lend [0] false p4 (by decide) ⟨leO, trivial⟩ (lendCur rfl) (growCur B _ _) (.inl rfl) ?_
    (repeat ((repeat1' (first | simp -implicitDefEqProofs -dsimp only [go_sem, Nat.reduceSub, Nat.reduceAdd, Nat.reduceMul, Nat.reduceLT, Nat.reduceLeDiff, Nat.reduceEqDiff, Nat.reduceDiv, Nat.reduceMod, Int.reduceToNat, Int.reduceLE, Int.reduceLT, Int.reduceBEq, Int.reduceBNe, Int.reduceNeg, Int.reduceAdd, Int.reduceSub, Int.reduceMul, reduceCtorEq, hd2, hw, Cur.ren] | simp -implicitDefEqProofs -dsimp (disch := omega) only [wrap_i64])); repeat (with_reducible refine sideA ?_)))
    refine callS.lend [0] false q4 (by decide) ⟨leO, trivial⟩ (lendCur rfl) (growCur B _ _) (.inl rfl) ?_
    (repeat ((repeat1' (first | simp -implicitDefEqProofs -dsimp only [go_sem, Nat.reduceSub, Nat.reduceAdd, Nat.reduceMul, Nat.reduceLT, Nat.reduceLeDiff, Nat.reduceEqDiff, Nat.reduceDiv, Nat.reduceMod, Int.reduceToNat, Int.reduceLE, Int.reduceLT, Int.reduceBEq, Int.reduceBNe, Int.reduceNeg, Int.reduceAdd, Int.reduceSub, Int.reduceMul, reduceCtorEq, hw2, Cur.ren] | simp -implicitDefEqProofs -dsimp (disch := omega) only [wrap_i64])); repeat (with_reducible refine sideA ?_)))
    exact WeakR.refl _ _ _
  · have hd2 : decide (200 < n) = false := by simp [h2]
    rw [pickV, pickC, if_neg h1, if_neg h1, if_neg h2, if_neg h2]
    refine Ctr.intro Tryd.mixed Tryd.func48 rfl Tryd.okF48 ?_
    simp -implicitDefEqProofs -dsimp only [go_sem, Nat.reduceSub, Nat.reduceAdd, Nat.reduceMul, Nat.reduceLT, Nat.reduceLeDiff, Nat.reduceEqDiff, Nat.reduceDiv, Nat.reduceMod, Int.reduceToNat, Int.reduceLE, Int.reduceLT, Int.reduceBEq, Int.reduceBNe, Int.reduceNeg, Int.reduceAdd, Int.reduceSub, Int.reduceMul, reduceCtorEq, Tryd.ntmps48, Tryd.results48]
    (repeat ((repeat1' (first | simp -implicitDefEqProofs -dsimp only [go_sem, Nat.reduceSub, Nat.reduceAdd, Nat.reduceMul, Nat.reduceLT, Nat.reduceLeDiff, Nat.reduceEqDiff, Nat.reduceDiv, Nat.reduceMod, Int.reduceToNat, Int.reduceLE, Int.reduceLT, Int.reduceBEq, Int.reduceBNe, Int.reduceNeg, Int.reduceAdd, Int.reduceSub, Int.reduceMul, reduceCtorEq, hd] | simp -implicitDefEqProofs -dsimp (disch := omega) only [wrap_i64])); repeat (with_reducible refine sideA ?_)))
    refine callS.lend [0] false p4 (by decide) ⟨leO, trivial⟩ (lendCur rfl) (growCur B _ _) (.inl rfl) ?_
    (repeat ((repeat1' (first | simp -implicitDefEqProofs -dsimp only [go_sem, Nat.reduceSub, Nat.reduceAdd, Nat.reduceMul, Nat.reduceLT, Nat.reduceLeDiff, Nat.reduceEqDiff, Nat.reduceDiv, Nat.reduceMod, Int.reduceToNat, Int.reduceLE, Int.reduceLT, Int.reduceBEq, Int.reduceBNe, Int.reduceNeg, Int.reduceAdd, Int.reduceSub, Int.reduceMul, reduceCtorEq, hd2, Cur.ren] | simp -implicitDefEqProofs -dsimp (disch := omega) only [wrap_i64])); repeat (with_reducible refine sideA ?_)))
    exact WeakR.refl _ _ _
def oneV (B : List Int) (n : Int) (c : Cur) : Bool := pickV B n c == 0
theorem one_ok {B : List Int} (hB : CB B) {c : Cur} (hc : c.le 4611686018427387903) (n : Int) (hn : n ≤ 1000000000) : Ctr Tryd.prog 50 [.ptr 0 0, .int .i64 n] [some (c.cs B)] (.bool (oneV B n c)) [some ((pickC B n c).cs B)] := by
  refine Ctr.intro Tryd.mixed Tryd.func50 rfl Tryd.okF50 ?_
  simp -implicitDefEqProofs -dsimp only [go_sem, Nat.reduceSub, Nat.reduceAdd, Nat.reduceMul, Nat.reduceLT, Nat.reduceLeDiff, Nat.reduceEqDiff, Nat.reduceDiv, Nat.reduceMod, Int.reduceToNat, Int.reduceLE, Int.reduceLT, Int.reduceBEq, Int.reduceBNe, Int.reduceNeg, Int.reduceAdd, Int.reduceSub, Int.reduceMul, reduceCtorEq, Tryd.ntmps50, Tryd.results50]
  (repeat ((repeat1' (first | simp -implicitDefEqProofs -dsimp only [go_sem, Nat.reduceSub, Nat.reduceAdd, Nat.reduceMul, Nat.reduceLT, Nat.reduceLeDiff, Nat.reduceEqDiff, Nat.reduceDiv, Nat.reduceMod, Int.reduceToNat, Int.reduceLE, Int.reduceLT, Int.reduceBEq, Int.reduceBNe, Int.reduceNeg, Int.reduceAdd, Int.reduceSub, Int.reduceMul, reduceCtorEq] | simp -implicitDefEqProofs -dsimp (disch := omega) only [wrap_i64])); repeat (with_reducible refine sideA ?_)))
  refine callS.lend [0] false (pick_ok hB hc n hn) (by decide) ⟨leO, leO, trivial⟩ (lendCur rfl) (growCur B _ _) (.inl rfl) ?_
  (repeat ((repeat1' (first | simp -implicitDefEqProofs -dsimp only [go_sem, Nat.reduceSub, Nat.reduceAdd, Nat.reduceMul, Nat.reduceLT, Nat.reduceLeDiff, Nat.reduceEqDiff, Nat.reduceDiv, Nat.reduceMod, Int.reduceToNat, Int.reduceLE, Int.reduceLT, Int.reduceBEq, Int.reduceBNe, Int.reduceNeg, Int.reduceAdd, Int.reduceSub, Int.reduceMul, reduceCtorEq, Cur.ren] | simp -implicitDefEqProofs -dsimp (disch := omega) only [wrap_i64])); repeat (with_reducible refine sideA ?_)))
  exact WeakR.refl _ _ _
end Go.Proofs
end
section
set_option linter.unusedSimpArgs false
set_option linter.unusedVariables false
set_option maxRecDepth 100000
namespace Go.Proofs
open Go.Lv
def inB' (n a b : Int) : Bool := decide (a ≤ n) && decide (n ≤ b)
theorem inB'_iff {n a b : Int} : inB' n a b = true ↔ a ≤ n ∧ n ≤ b := by simp [inB']
theorem in_ok (n a b : Int) : Ctr Tryd.prog 40 [.int .i64 n, .int .i64 a, .int .i64 b] [] (.bool (inB' n a b)) [] := by
  refine Ctr.intro Tryd.mixed Tryd.func40 rfl Tryd.okF40 ?_
  simp -implicitDefEqProofs -dsimp only [go_sem, Nat.reduceSub, Nat.reduceAdd, Nat.reduceMul, Nat.reduceLT, Nat.reduceLeDiff, Nat.reduceEqDiff, Nat.reduceDiv, Nat.reduceMod, Int.reduceToNat, Int.reduceLE, Int.reduceLT, Int.reduceBEq, Int.reduceBNe, Int.reduceNeg, Int.reduceAdd, Int.reduceSub, Int.reduceMul, reduceCtorEq, Tryd.ntmps40, Tryd.results40]
  refine guardT.splitT (fun h1 => ?_) (fun h1 => ?_) <;> simp -implicitDefEqProofs -dsimp only [go_sem, Nat.reduceSub, Nat.reduceAdd, Nat.reduceMul, Nat.reduceLT, Nat.reduceLeDiff, Nat.reduceEqDiff, Nat.reduceDiv, Nat.reduceMod, Int.reduceToNat, Int.reduceLE, Int.reduceLT, Int.reduceBEq, Int.reduceBNe, Int.reduceNeg, Int.reduceAdd, Int.reduceSub, Int.reduceMul, reduceCtorEq, h1]
  · exact WeakR.of_eq (by simp [inB', h1])
  · exact WeakR.of_eq (by simp [inB', h1])
theorem l1In_ok (n a b : Int) : Ctr Tryd.prog 39 [.int .i64 n, .int .i64 a, .int .i64 b] [] (.bool (inB' n a b)) [] := by
  refine Ctr.intro Tryd.mixed Tryd.func39 rfl Tryd.okF39 ?_
  simp -implicitDefEqProofs -dsimp only [go_sem, Nat.reduceSub, Nat.reduceAdd, Nat.reduceMul, Nat.reduceLT, Nat.reduceLeDiff, Nat.reduceEqDiff, Nat.reduceDiv, Nat.reduceMod, Int.reduceToNat, Int.reduceLE, Int.reduceLT, Int.reduceBEq, Int.reduceBNe, Int.reduceNeg, Int.reduceAdd, Int.reduceSub, Int.reduceMul, reduceCtorEq, Tryd.ntmps39, Tryd.results39]
  refine guardT.splitT (fun h1 => ?_) (fun h1 => ?_) <;> simp -implicitDefEqProofs -dsimp only [go_sem, Nat.reduceSub, Nat.reduceAdd, Nat.reduceMul, Nat.reduceLT, Nat.reduceLeDiff, Nat.reduceEqDiff, Nat.reduceDiv, Nat.reduceMod, Int.reduceToNat, Int.reduceLE, Int.reduceLT, Int.reduceBEq, Int.reduceBNe, Int.reduceNeg, Int.reduceAdd, Int.reduceSub, Int.reduceMul, reduceCtorEq, h1]
  · exact WeakR.of_eq (by simp [inB', h1])
  · exact WeakR.of_eq (by simp [inB', h1])
end Go.Proofs
end
section
set_option linter.unusedSimpArgs false
set_option linter.unusedVariables false
set_option maxRecDepth 100000
namespace Go.Proofs
open Go.Lv
structure LogRecord where
  Command : ByteArray
  Reply : ByteArray
def LogRecord.cs (r : LogRecord) : List V := [.str r.Command, .str r.Reply]
def LogRecord.v (r : LogRecord) : V := .agg [.str r.Command, .str r.Reply]
theorem LogRecord.csl (a : LogRecord) : a.cs.length = 2 := rfl
instance : FlatP LogRecord.cs 2 := ⟨fun _ => rfl, fun _ d => by cases d <;> rfl, fun _ => rfl, fun _ => rfl⟩
def LogRecord.ok (r : LogRecord) : Prop := strR r.Command ∧ strR r.Reply
abbrev LogRecord.rows (L : List LogRecord) : List V := Go.Lv.rows LogRecord.cs L
abbrev LogRecord.sl (L : List LogRecord) : V := .sl L.length 2 (Go.Lv.rows LogRecord.cs L)
abbrev LogRecord.zs : List V := [.str ByteArray.empty, .str ByteArray.empty]
end Go.Proofs
end
