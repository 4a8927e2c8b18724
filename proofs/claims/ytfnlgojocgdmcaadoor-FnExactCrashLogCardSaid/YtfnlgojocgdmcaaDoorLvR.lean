/-
  Lists of elements as rows of cells. Conditions: none.
-/
import Derived.Test.YtfnlgojocgdmcaaDoorLvP
import Derived.KernelRfl
set_option linter.unusedSimpArgs false
set_option linter.unusedVariables false
namespace Go.Lv

/-- The cells of a list, one element behind the other. -/
def rows {α : Type} (cs : α → List V) (L : List α) : List V := L.flatMap cs

section
variable {α : Type} {cs : α → List V} {w : Nat}

theorem rows_len (h : ∀ a, (cs a).length = w) (L : List α) : (rows cs L).length = L.length * w := by
  induction L with
  | nil => simp [rows]
  | cons a L ih => simp [rows, h] at ih ⊢; rw [ih, Nat.succ_mul, Nat.add_comm]

theorem rowsOf_append (L K : List α) : rows cs (L ++ K) = rows cs L ++ rows cs K := by simp [rows]
theorem rows_nil : rows cs ([] : List α) = [] := rfl
theorem rows_cons (a : α) (L : List α) : rows cs (a :: L) = cs a ++ rows cs L := by simp [rows]
theorem rows_one (a : α) : rows cs [a] = cs a := by simp [rows]

theorem rows_drop (h : ∀ a, (cs a).length = w) (L : List α) (i : Nat) : (rows cs L).drop (i * w) = rows cs (L.drop i) := by
  induction i generalizing L with
  | zero => simp
  | succ i ih =>
    cases L with
    | nil => simp [rows]
    | cons a L =>
      rw [rows_cons, Nat.succ_mul, Nat.add_comm, ← List.drop_drop, List.drop_append, h a, Nat.sub_self, List.drop_zero]
      rw [show (cs a).drop w = [] by simp [h]]
      simpa using ih L

theorem rows_take (h : ∀ a, (cs a).length = w) (L : List α) (i : Nat) : (rows cs L).take (i * w) = rows cs (L.take i) := by
  induction i generalizing L with
  | zero => simp [rows]
  | succ i ih =>
    cases L with
    | nil => simp [rows]
    | cons a L =>
      rw [rows_cons, List.take_succ_cons, rows_cons, Nat.succ_mul, Nat.add_comm, List.take_append, h a, Nat.add_sub_cancel_left, ih]
      rw [List.take_of_length_le (by simp [h])]

theorem rows_at (h : ∀ a, (cs a).length = w) {L : List α} {i : Nat} (hi : i < L.length) : ((rows cs L).drop (i * w)).take w = cs L[i] := by
  rw [rows_drop h, List.drop_eq_getElem_cons hi, rows_cons, List.take_append, h, Nat.sub_self, List.take_zero, List.append_nil, List.take_of_length_le (by simp [h])]

theorem rows_all {p : V → Bool} (h : ∀ a, (cs a).all p = true) (L : List α) : (rows cs L).all p = true := by
  induction L with
  | nil => rfl
  | cons a L ih => rw [rows_cons, List.all_append, h a, ih]; rfl

theorem map_ren (f : Nat → R) {d : Nat} {l : List V} (h : l.all (noOwn d) = true) : l.map (ren f d) = l := by
  rw [List.map_congr_left (g := id) (fun x hx => ren_noOwn f d x (List.all_eq_true.1 h x hx)), List.map_id]

theorem zrow_all {p : V → Bool} {zs : List V} (hz : zs.all p = true) (hn : 0 < zs.length) (n : Nat) : (zrow n zs).all p = true := by
  rw [List.all_eq_true]
  intro x hx
  simp only [zrow, List.mem_map, List.mem_range] at hx
  obtain ⟨i, _, rfl⟩ := hx
  have hlt := Nat.mod_lt i hn
  rw [List.getD_eq_getElem?_getD, List.getElem?_eq_getElem hlt]
  exact List.all_eq_true.1 hz _ (List.getElem_mem hlt)

theorem zrow_len (n : Nat) (zs : List V) : (zrow n zs).length = n := by simp [zrow]

theorem zrow_drop {zs : List V} (hz : zs.length = w) (n : Nat) : (zrow n zs).drop w = zrow (n - w) zs := by
  apply List.ext_getElem
  · simp [zrow]
  · intro i h1 h2
    simp [zrow] at h1 h2 ⊢
    rw [hz, Nat.add_mod_left]

/-- A row that is filled up to an index; the rest is zero. -/
def filled (cs : α → List V) (w : Nat) (zs : List V) (L : List α) (i : Nat) : List V := rows cs (L.take i) ++ zrow ((L.length - i) * w) zs

theorem filled_len (h : ∀ a, (cs a).length = w) {zs : List V} {L : List α} {i : Nat} (hi : i ≤ L.length) : (filled cs w zs L i).length = L.length * w := by
  simp only [filled, List.length_append, rows_len h, zrow_len, List.length_take, Nat.min_eq_left hi]
  rw [← Nat.add_mul, Nat.add_sub_cancel' hi]

theorem filled_zero {zs : List V} {L : List α} : filled cs w zs L 0 = zrow (L.length * w) zs := by simp [filled, rows]

theorem filled_all (h : ∀ a, (cs a).length = w) {zs : List V} {L : List α} {i : Nat} (hi : L.length ≤ i) : filled cs w zs L i = rows cs L := by
  simp [filled, List.take_of_length_le hi, Nat.sub_eq_zero_of_le hi, zrow]

theorem filled_step (h : ∀ a, (cs a).length = w) {zs : List V} (hz : zs.length = w) {L : List α} {i : Nat} (hi : i < L.length) :
    splice (filled cs w zs L i) (i * w) (cs L[i]) = filled cs w zs L (i + 1) := by
  have hl : (rows cs (L.take i)).length = i * w := by rw [rows_len h, List.length_take, Nat.min_eq_left (by omega)]
  unfold filled splice
  rw [List.take_append, hl, Nat.sub_self, List.take_zero, List.append_nil, List.take_of_length_le (by omega), h, ← List.drop_drop, List.drop_append, hl, Nat.sub_self, List.drop_zero,
    show (rows cs (L.take i)).drop (i * w) = [] by simp [hl], List.nil_append, zrow_drop hz, List.take_succ_eq_append_getElem hi, rowsOf_append, rows_one]
  rw [show (L.length - i) * w - w = (L.length - (i + 1)) * w by rw [← Nat.sub_one_mul]; congr 1]

/-- Rows of plain cells stay as they are when blocks are forgotten. -/
theorem cutB_rows {n : Nat} {l : List V} (h : l.all (noOwn 2) = true) : cutB n (some l) = some l := by
  simp only [cutB, Option.map_some]
  rw [map_ren _ h]
theorem filled_plain {zs : List V} {L : List α} {i : Nat} (hz : 0 < zs.length) (hz2 : zs.all (noOwn 2) = true) (hp : ∀ a, (cs a).all (noOwn 2) = true) : (filled cs w zs L i).all (noOwn 2) = true := by
  rw [filled, List.all_append, zrow_all hz2 hz, Bool.and_true]
  exact rows_all hp _

theorem wrap_i64 {n : Int} (h0 : -9223372036854775808 ≤ n) (h1 : n ≤ 9223372036854775807) : IntKind.i64.wrap n = n := by
  rw [IntKind.wrap_i64]; omega

/-- What an argument's values keep to. -/
def i64R (z : Int) : Prop := -9223372036854775808 ≤ z ∧ z ≤ 9223372036854775807
def strR (s : ByteArray) : Prop := s.size ≤ 9223372036854775807
def lstR (ok : α → Prop) (L : List α) : Prop := L.length ≤ 9223372036854775807 ∧ ∀ x ∈ L, ok x

/-- An encoder whose elements are rows of plain cells. -/
class FlatP (cs : α → List V) (w : outParam Nat) : Prop where
  len : ∀ a, (cs a).length = w
  plain : ∀ a d, (cs a).all (noOwn d) = true
  cell : ∀ a, (cs a).all isCell = true
  noro : ∀ a, (cs a).all (noRoB 0) = true

theorem rows_length [FlatP cs w] (L : List α) : (rows cs L).length = L.length * w := rows_len FlatP.len L
theorem map_ren_rows [FlatP cs w] (f : Nat → R) (d : Nat) (L : List α) : (rows cs L).map (ren f d) = rows cs L := map_ren f (rows_all (fun a => FlatP.plain a d) L)
theorem rows_cell [FlatP cs w] (L : List α) : (rows cs L).all isCell = true := rows_all FlatP.cell L
theorem rows_noRo [FlatP cs w] (L : List α) : (rows cs L).all (noRoB 0) = true := rows_all FlatP.noro L
theorem rows_noOwn [FlatP cs w] (L : List α) (d : Nat) : (rows cs L).all (noOwn d) = true := rows_all (fun a => FlatP.plain a d) L
theorem rows_refV [FlatP cs w] (p : Nat → Bool) (L : List α) (d : Nat) : (rows cs L).all (refV p d) = true := List.all_eq_true.2 fun x hx => refV_noOwn p d x (List.all_eq_true.1 (rows_noOwn (cs := cs) L d) x hx)
theorem noRoH_rows [FlatP cs w] (L : List α) : NoRoH [some (rows cs L)] := NoRoH.of (by simp only [hpNoRo, List.all_cons, List.all_nil, rows_noRo, Bool.and_self])
theorem take_rows [FlatP cs w] (L : List α) : (rows cs L).take (L.length * w) = rows cs L := List.take_of_length_le (by rw [rows_length]; exact Nat.le_refl _)

/-- A block of our own handed to a callee that only reads. -/
theorem le_snap [FlatP cs w] {h : Hp} {id : Nat} {L : List α} (hid : h[id]? = some (some (rows cs L))) : LeV (ren (snapR h 3) 3 (.osl id 0 L.length w)) (.sl L.length w (rows cs L)) := by
  refine .inl ?_
  simp only [ren, snapR, hid, map_ren_rows, List.drop_zero, take_rows]
theorem le_snap' [FlatP cs w] {h : Hp} {id n : Nat} {L : List α} (hid : h[id]? = some (some (rows cs L))) (hn : n = L.length) : LeV (ren (snapR h 3) 3 (.osl id 0 n w)) (.sl L.length w (rows cs L)) := by
  subst hn; exact le_snap hid
theorem le_nil {h : Hp} {w : Nat} : LeV (ren (snapR h 3) 3 .nilsl) (.sl 0 w []) := .inr (.inr (.inl ⟨rfl, w, rfl⟩))
theorem LeV.aggR {f : Nat → R} {d : Nat} {cs cs' : List V} (h : LeA (cs.map (ren f d)) cs') : LeV (ren f (d + 1) (.agg cs)) (.agg cs') := LeV.agg h
theorem leE_snap [FlatP cs w] {h : Hp} {id n n' : Nat} {L : List α} (hid : h[id]? = some (some (rows cs L))) (hn : n = L.length) (hn' : n' = L.length) : LeE (ren (snapR h 3) 2 (.osl id 0 n w)) (.sl n' w (rows cs L)) := by
  subst hn hn'
  refine .inl ?_
  simp only [ren, snapR, hid, map_ren_rows, List.drop_zero, take_rows]
theorem lend_one [FlatP cs w] {h : Hp} {id : Nat} {fz : Bool} {L : List α} (hid : h[id]? = some (some (rows cs L))) : pickH [id] h fz = [some (rows cs L)] := by
  simp only [pickH, List.map_cons, List.map_nil, pickB, hid, map_ren_rows]
theorem isMb_cells {l : List V} (h : l.all isCell = true) : isMb l = false := by
  match l, h with
  | [], _ => rfl
  | _ :: _ :: _, _ => rfl
  | [x], h => cases x <;> first | rfl | (simp [isCell] at h)
theorem isMb_rows [FlatP cs w] (L : List α) : isMb (rows cs L) = false := isMb_cells (rows_cell L)
theorem grown_one [FlatP cs w] {L L' : List α} (h : L.length = L'.length) : grown [some (rows cs L)] [some (rows cs L')] := by
  simp [grown, rows_length, h, isMb_rows]

theorem filled_ren [FlatP cs w] {zs : List V} {L : List α} {i d : Nat} {f : Nat → R} (hz : 0 < zs.length) (hz2 : zs.all (noOwn d) = true) : (filled cs w zs L i).map (ren f d) = filled cs w zs L i := by
  refine map_ren f ?_
  rw [filled, List.all_append, zrow_all hz2 hz, Bool.and_true]
  exact rows_noOwn _ _

/-- What a function hands back that gives a list or says no: with an empty list, or with nil. -/
def optO (w : Nat) (R : Option (List α)) : V := match R with
  | some M => .tup [.osl 0 0 M.length w, .bool true]
  | none => .tup [.osl 0 0 0 w, .bool false]
def optOh (cs : α → List V) (R : Option (List α)) : Hp := match R with
  | some M => [some (rows cs M)]
  | none => [some []]
def optN (w : Nat) (R : Option (List α)) : V := match R with
  | some M => .tup [.osl 0 0 M.length w, .bool true]
  | none => .tup [.nilsl, .bool false]
def optNh (cs : α → List V) (R : Option (List α)) : Hp := match R with
  | some M => [some (rows cs M)]
  | none => []
theorem killC_rows [FlatP cs w] (id : Nat) (L : List α) : killC id (rows cs L) = rows cs L := map_ren_rows _ _ L
theorem rows_snoc (L : List α) (a : α) : rows cs L ++ cs a = rows cs (L ++ [a]) := by rw [rowsOf_append, rows_one]

theorem LeL_same {f : V → V} : ∀ {l : List V}, l.map f = l → LeL (l.map f) l
  | [], _ => trivial
  | a :: l, h => by
    simp only [List.map_cons, List.cons.injEq] at h
    exact ⟨.inl h.1.symm, LeL_same h.2⟩

/-- A map that is a set of integers. -/
def intSet (ks : List Int) : List (Value × Value) := ks.map fun k => (.int .i64 k, .bool true)
theorem intSet_has {k : Int} : ∀ {ks : List Int} (i : Nat), k ∈ ks → ∃ j, mpFind (.int .i64) (.int .i64 k) (intSet ks) i = some (some (j, .bool true))
  | x :: ks, i, h => by
    by_cases e : k = x
    · subst e
      exact ⟨i, by simp [intSet, mpFind, Instr.sameNow]⟩
    · obtain ⟨j, hj⟩ := intSet_has (i + 1) ((List.mem_cons.1 h).resolve_left e)
      have e' : (k == x) = false := by simp [e]
      exact ⟨j, by simpa [intSet, mpFind, Instr.sameNow, e'] using hj⟩
theorem intSet_not {k : Int} : ∀ {ks : List Int} (i : Nat), k ∉ ks → mpFind (.int .i64) (.int .i64 k) (intSet ks) i = some none
  | [], i, _ => rfl
  | x :: ks, i, h => by
    simp at h
    have := intSet_not (i + 1) h.2
    have e' : (k == x) = false := by simp [h.1]
    simpa [intSet, mpFind, Instr.sameNow, e'] using this
theorem intSet_put {k : Int} {ks : List Int} : mpPut (.int .i64 k) (.bool true) none (intSet ks) = intSet (ks ++ [k]) := by simp [mpPut, intSet]

/-- A part of a row, read and written. -/
theorem drop_mid {A M : List V} {n j : Nat} (h : A.length = n) : (A ++ M).drop (n + j) = M.drop j := by
  subst h; rw [← List.drop_drop, List.drop_left]
theorem drop_mid0 {A M : List V} {n : Nat} (h : A.length = n) : (A ++ M).drop n = M := by subst h; exact List.drop_left
theorem splice_mid {A M ns : List V} {n j : Nat} (h : A.length = n) : splice (A ++ M) (n + j) ns = A ++ splice M j ns := by
  subst h
  unfold splice
  rw [List.take_append, List.drop_append, List.take_of_length_le (by omega), List.drop_of_length_le (by omega)]
  simp only [Nat.add_sub_cancel_left, List.nil_append, List.append_assoc]
  congr 3
  congr 1
  omega
theorem splice_mid0 {A M ns : List V} {n : Nat} (h : A.length = n) : splice (A ++ M) n ns = A ++ splice M 0 ns := by
  have := splice_mid (M := M) (ns := ns) (j := 0) h
  rwa [Nat.add_zero] at this

theorem rows_drop_at (h : ∀ a, (cs a).length = w) {L : List α} {i : Nat} (hi : i < L.length) (j : Nat) : (rows cs L).drop (i * w + j) = (cs L[i] ++ rows cs (L.drop (i + 1))).drop j := by
  rw [← List.drop_drop, rows_drop h, List.drop_eq_getElem_cons hi, rows_cons]
theorem rows_drop_at0 (h : ∀ a, (cs a).length = w) {L : List α} {i : Nat} (hi : i < L.length) : (rows cs L).drop (i * w) = cs L[i] ++ rows cs (L.drop (i + 1)) := by
  rw [rows_drop h, List.drop_eq_getElem_cons hi, rows_cons]

/-- A list taken apart at an index. -/
theorem apart {L : List α} {i : Nat} (hi : i < L.length) : ∃ A B, L = A ++ L[i] :: B ∧ A.length = i ∧ A = L.take i ∧ B = L.drop (i + 1) := by
  refine ⟨L.take i, L.drop (i + 1), ?_, by simp; omega, rfl, rfl⟩
  rw [← List.drop_eq_getElem_cons hi, List.take_append_drop]

/-- What a list's element at an index must fulfil: it is valid, and its key is above the key ahead of it. -/
def listedQ (p : α → Bool) (k : α → Int) (L : List α) (i : Nat) : Bool :=
  match L[i]? with
  | none => true
  | some x => p x && match i with
    | 0 => true
    | j + 1 => match L[j]? with
      | none => true
      | some y => decide (k y < k x)

def listedB (p : α → Bool) (k : α → Int) (m : Nat) (L : List α) : Bool := (List.range L.length).all (listedQ p k L) && decide (L.length ≤ m)

theorem range_all_false {q : Nat → Bool} {n i : Nat} (hi : i < n) (h : q i = false) : (List.range n).all q = false := by
  rw [List.all_eq_false]
  exact ⟨i, by simpa using hi, by simp [h]⟩
theorem range_all_succ {q : Nat → Bool} {i : Nat} (h : (List.range i).all q = true) (h1 : q i = true) : (List.range (i + 1)).all q = true := by
  rw [List.range_succ, List.all_append, h]
  simp [h1]
theorem listedB_false {p : α → Bool} {k : α → Int} {m : Nat} {L : List α} {i : Nat} (hi : i < L.length) (h : listedQ p k L i = false) : listedB p k m L = false := by
  rw [listedB, range_all_false hi h]
  rfl
theorem listedQ_zero {p : α → Bool} {k : α → Int} {L : List α} (h0 : 0 < L.length) : listedQ p k L 0 = p L[0] := by simp [listedQ, h0]
theorem listedQ_succ {p : α → Bool} {k : α → Int} {L : List α} {j : Nat} (h : j + 1 < L.length) : listedQ p k L (j + 1) = (p L[j + 1] && decide (k (L[j]'(by omega)) < k L[j + 1])) := by
  have : j < L.length := by omega
  simp [listedQ, h, this]
end

/-- What a call's arguments may be, proved by what they look like. -/
theorem leA {x y : V} (h : LeV x y := by first | exact le_snap rfl | exact .inl rfl | exact le_nil | exact le_snap' rfl (by simp) | exact LeV.aggR (by first | ((repeat' (first | exact True.intro | exact leE_snap rfl (by simp) (by simp) | exact LeE.nil | exact LeE.refl _ | refine And.intro ?_ ?_)); done) | fail)) : LeV x y := h
theorem callT.at {P : Program} {h : Hp} {g : FuncId} {a c args : List V} {K : V → Hp → Prop} {x : Tag K} {as' : List V} {r : V} {hout : Hp} (hs : Ctr P g as' [] r hout) (hle : LeL ((a ++ args ++ c).map (ren (snapR h 3) 3)) as') (hk : K r hout)
    (hro : (a ++ args ++ c).all (noOwn 3) = true ∨ NoRo r ∧ NoRoH hout := by first | exact .inl rfl | exact .inr ⟨noRo_ok 3 rfl, by first | exact NoRoH.nil | exact noRoH_rows _ | exact NoRoH.of (by simp only [hpNoRo, List.all_cons, List.all_nil, rows_noRo, Bool.and_self])⟩)
    (hrf : refOk h 4 (.fn (.func g) a c) = true ∧ args.all (refOk h 3) = true := by first | exact ⟨rfl, rfl⟩ | exact ⟨rfl, by simp [refOk, refV, refB, noOwn, rows_noOwn, rows_refV]⟩ | simp [refOk, refV, refB, noOwn, rows_noOwn, rows_refV]) : callT P h (.fn (.func g) a c) args K x :=
  callT.intro hs hle hro hrf hk
theorem callS.at {P : Program} {t : List V} {h : Hp} {k : Nat} {dst : Option Tmp} {g : FuncId} {a c args : List V} {K : St → Prop} {x : Tag K} {as' : List V} {r : V} {hout : Hp} (hs : Ctr P g as' [] r hout)
    (hle : LeL ((a ++ args ++ c).map (ren (snapR h 3) 3)) as') (hk : K (afterCall ⟨t, h, k⟩ dst r hout))
    (hro : (a ++ args ++ c).all (noOwn 3) = true ∨ NoRo r ∧ NoRoH hout := by first | exact .inl rfl | exact .inr ⟨noRo_ok 3 rfl, by first | exact NoRoH.nil | exact noRoH_rows _ | exact NoRoH.of (by simp only [hpNoRo, List.all_cons, List.all_nil, rows_noRo, Bool.and_self])⟩) : callS P ⟨t, h, k⟩ dst (.fn (.func g) a c) args K x :=
  callS.intro hs hle hro hk
theorem lendA {sel : List Nat} {h hin : Hp} {fz : Bool} (hh : pickH sel h fz = hin := by first | exact lend_one rfl | rfl | (simp only [pickH, List.map_cons, List.map_nil, pickB, List.getElem?_cons_zero, List.getElem?_cons_succ, map_ren_rows]; done)) : pickH sel h fz = hin := hh
theorem leO {x y : V} (h : LeV x y := by first | exact .inl rfl | exact LeV.aggR (by first | ((repeat' (first | exact True.intro | exact LeE.nil | exact LeE.refl _ | refine And.intro ?_ ?_)); done) | fail)) : LeV x y := h
/-- A side condition. -/
theorem sideA {a b : Prop} (hb : b) (ha : a := by first | omega | with_reducible rfl | (show drawOk _ = true; kernel_rfl) | (simp only [rows_length, rows_cell, List.length_append, List.length_cons, List.length_nil, List.all_append, List.all_cons, List.all_nil, isCell, Nat.mul_one, Nat.one_mul, Bool.and_self]; first | done | omega)) : a ∧ b := ⟨ha, hb⟩
attribute [go_sem] Nat.le_refl Int.toNat_natCast beq_self_eq_true bne_self_eq_false decide_true decide_false eq_self ne_eq Option.some.injEq not_false_eq_true Option.map_some map_ren_rows
end Go.Lv
