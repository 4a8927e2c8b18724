/-
  A part of the proof: texts put together by a program of the prover. Conditions: none.
-/
import Derived.Test.YtignogijdoaipaaGreatDoorZT2
import Derived.Test.YtignogijdoaipaaGreatDoorZT3
import Derived.KernelRfl
import Derived.Test.YtignogijdoaipaaGreatDoorProg
set_option linter.unusedSimpArgs false
set_option linter.unusedVariables false
section
namespace Go.Lv

def rows {α : Type} (cs : α → List V) (L : List α) : List V := L.flatMap cs

section
variable {α : Type} {cs : α → List V} {w : Nat}

theorem lu (h : ∀ a, (cs a).length = w) (L : List α) : (rows cs L).length = L.length * w := by
 induction L with
 | nil => simp [rows]
 | cons a L ih => simp [rows, h] at ih ⊢; rw [ih, Nat.succ_mul, Nat.add_comm]

theorem jk (L K : List α) : rows cs (L ++ K) = rows cs L ++ rows cs K := by simp [rows]
theorem aab : rows cs ([] : List α) = [] := rfl
theorem e9 (a : α) (L : List α) : rows cs (a :: L) = cs a ++ rows cs L := by simp [rows]
theorem arv (a : α) : rows cs [a] = cs a := by simp [rows]

theorem tu (h : ∀ a, (cs a).length = w) (L : List α) (i : Nat) : (rows cs L).drop (i * w) = rows cs (L.drop i) := by
 induction i generalizing L with
 | zero => simp
 | succ i ih =>
  cases L with
  | nil => simp [rows]
  | cons a L =>
   rw [e9, Nat.succ_mul, Nat.add_comm, ← List.drop_drop, List.drop_append, h a, Nat.sub_self, List.drop_zero]
   rw [show (cs a).drop w = [] by simp [h]]
   simpa using ih L

theorem agp (h : ∀ a, (cs a).length = w) (L : List α) (i : Nat) : (rows cs L).take (i * w) = rows cs (L.take i) := by
 induction i generalizing L with
 | zero => simp [rows]
 | succ i ih =>
  cases L with
  | nil => simp [rows]
  | cons a L =>
   rw [e9, List.take_succ_cons, e9, Nat.succ_mul, Nat.add_comm, List.take_append, h a, Nat.add_sub_cancel_left, ih]
   rw [List.take_of_length_le (by simp [h])]

theorem bw (h : ∀ a, (cs a).length = w) {L : List α} {i : Nat} (hi : i < L.length) : ((rows cs L).drop (i * w)).take w = cs L[i] := by
 rw [tu h, List.drop_eq_getElem_cons hi, e9, List.take_append, h, Nat.sub_self, List.take_zero, List.append_nil, List.take_of_length_le (by simp [h])]

theorem zh {p : V → Bool} (h : ∀ a, (cs a).all p = true) (L : List α) : (rows cs L).all p = true := by
 induction L with
 | nil => rfl
 | cons a L ih => rw [e9, List.all_append, h a, ih]; rfl

theorem sg (f : Nat → R) {d : Nat} {l : List V} (h : l.all (de d) = true) : l.map (ren f d) = l := by
 rw [List.map_congr_left (g := id) (fun x hx => age f d x (List.all_eq_true.1 h x hx)), List.map_id]

theorem wrap_i64 {n : Int} (h0 : -9223372036854775808 ≤ n) (h1 : n ≤ 9223372036854775807) : IntKind.i64.wrap n = n := by
 rw [IntKind.wrap_i64]; omega

def bu (z : Int) : Prop := -9223372036854775808 ≤ z ∧ z ≤ 9223372036854775807
def ar4 (s : ByteArray) : Prop := s.size ≤ 9223372036854775807
def afz (ok : α → Prop) (L : List α) : Prop := L.length ≤ 9223372036854775807 ∧ ∀ x ∈ L, ok x

class r3 (cs : α → List V) (w : outParam Nat) : Prop where
 len : ∀ a, (cs a).length = w
 plain : ∀ a d, (cs a).all (de d) = true
 cell : ∀ a, (cs a).all ch = true
 noro : ∀ a, (cs a).all (vy 0) = true
class na (cs : α → List V) (w : outParam Nat) : Prop where
 len : ∀ a, (cs a).length = w
 plain : ∀ a d, (cs a).all (de d) = true
 cell : ∀ a, (cs a).all ch = true
instance {cs : α → List V} {w : Nat} [h : r3 cs w] : na cs w := ⟨h.len, h.plain, h.cell⟩

theorem ay [na cs w] (L : List α) : (rows cs L).length = L.length * w := lu na.len L
theorem ab [na cs w] (f : Nat → R) (d : Nat) (L : List α) : (rows cs L).map (ren f d) = rows cs L := sg f (zh (fun a => na.plain a d) L)
theorem bf [na cs w] (L : List α) : (rows cs L).all ch = true := zh na.cell L
theorem abu [r3 cs w] (L : List α) : (rows cs L).all (vy 0) = true := zh r3.noro L
theorem mg [na cs w] (L : List α) (d : Nat) : (rows cs L).all (de d) = true := zh (fun a => na.plain a d) L
theorem ag3 [na cs w] (p : Nat → Bool) (L : List α) (d : Nat) : (rows cs L).all (tf p d) = true := List.all_eq_true.2 fun x hx => y6 p d x (List.all_eq_true.1 (mg (cs := cs) L d) x hx)
theorem aeu [r3 cs w] (L : List α) : my [some (rows cs L)] := my.of (by simp only [ahy, List.all_cons, List.all_nil, abu, Bool.and_self])
theorem db [na cs w] (L : List α) : (rows cs L).take (L.length * w) = rows cs L := List.take_of_length_le (by rw [ay]; exact Nat.le_refl _)

theorem anw [na cs w] {h : Hp} {id : Nat} {L : List α} (hid : h[id]? = some (some (rows cs L))) : LeV (ren (fh h 3) 3 (.osl id 0 L.length w)) (.sl L.length w (rows cs L)) := by
 refine .inl ?_
 simp only [ren, fh, hid, ab, List.drop_zero, db]
theorem arj [na cs w] {h : Hp} {id n : Nat} {L : List α} (hid : h[id]? = some (some (rows cs L))) (hn : n = L.length) : LeV (ren (fh h 3) 3 (.osl id 0 n w)) (.sl L.length w (rows cs L)) := by
 subst hn; exact anw hid
theorem le_nil {h : Hp} {w : Nat} : LeV (ren (fh h 3) 3 .nilsl) (.sl 0 w []) := .inr (.inr (.inl ⟨rfl, w, rfl⟩))
theorem LeV.aqd {f : Nat → R} {d : Nat} {cs cs' : List V} (h : LeA (cs.map (ren f d)) cs') : LeV (ren f (d + 1) (.agg cs)) (.agg cs') := LeV.agg h
theorem zg [na cs w] {h : Hp} {id n n' : Nat} {L : List α} (hid : h[id]? = some (some (rows cs L))) (hn : n = L.length) (hn' : n' = L.length) : LeE (ren (fh h 3) 2 (.osl id 0 n w)) (.sl n' w (rows cs L)) := by
 subst hn hn'
 refine .inl ?_
 simp only [ren, fh, hid, ab, List.drop_zero, db]
theorem as2 [na cs w] {h : Hp} {id : Nat} {fz : Bool} {L : List α} (hid : h[id]? = some (some (rows cs L))) : az [id] h fz = [some (rows cs L)] := by
 simp only [az, List.map_cons, List.map_nil, bg, hid, ab]
theorem r8 {l : List V} (h : l.all ch = true) : ix l = false := by
 match l, h with
 | [], _ => rfl
 | _ :: _ :: _, _ => rfl
 | [x], h => cases x <;> first | rfl | (simp [ch] at h)
theorem ml [na cs w] (L : List α) : ix (rows cs L) = false := r8 (bf L)
theorem abj [na cs w] {L L' : List α} (h : L.length = L'.length) : grown [some (rows cs L)] [some (rows cs L')] := by
 simp [grown, ay, h, ml]

def yy (w : Nat) (R : Option (List α)) : V := match R with
 | some M => .tup [.osl 0 0 M.length w, .bool true]
 | none => .tup [.osl 0 0 0 w, .bool false]
def r5 (cs : α → List V) (R : Option (List α)) : Hp := match R with
 | some M => [some (rows cs M)]
 | none => [some []]
def wg (w : Nat) (R : Option (List α)) : V := match R with
 | some M => .tup [.osl 0 0 M.length w, .bool true]
 | none => .tup [.nilsl, .bool false]
def o8 (cs : α → List V) (R : Option (List α)) : Hp := match R with
 | some M => [some (rows cs M)]
 | none => []
theorem dy (L : List α) (a : α) : rows cs L ++ cs a = rows cs (L ++ [a]) := by rw [jk, arv]

theorem ln {f : V → V} : ∀ {l : List V}, l.map f = l → LeL (l.map f) l
 | [], _ => trivial
 | a :: l, h => by
  simp only [List.map_cons, List.cons.injEq] at h
  exact ⟨.inl h.1.symm, ln h.2⟩

theorem adr {A M ns : List V} {n j : Nat} (h : A.length = n) : dq (A ++ M) (n + j) ns = A ++ dq M j ns := by
 subst h
 unfold dq
 rw [List.take_append, List.drop_append, List.take_of_length_le (by omega), List.drop_of_length_le (by omega)]
 simp only [Nat.add_sub_cancel_left, List.nil_append, List.append_assoc]
 congr 3
 congr 1
 omega
theorem aks {A M ns : List V} {n : Nat} (h : A.length = n) : dq (A ++ M) n ns = A ++ dq M 0 ns := by
 have := adr (M := M) (ns := ns) (j := 0) h
 rwa [Nat.add_zero] at this

theorem zf (h : ∀ a, (cs a).length = w) {L : List α} {i : Nat} (hi : i < L.length) (j : Nat) : (rows cs L).drop (i * w + j) = (cs L[i] ++ rows cs (L.drop (i + 1))).drop j := by
 rw [← List.drop_drop, tu h, List.drop_eq_getElem_cons hi, e9]
theorem yf (h : ∀ a, (cs a).length = w) {L : List α} {i : Nat} (hi : i < L.length) : (rows cs L).drop (i * w) = cs L[i] ++ rows cs (L.drop (i + 1)) := by
 rw [tu h, List.drop_eq_getElem_cons hi, e9]

theorem apart {L : List α} {i : Nat} (hi : i < L.length) : ∃ A B, L = A ++ L[i] :: B ∧ A.length = i ∧ A = L.take i ∧ B = L.drop (i + 1) := by
 refine ⟨L.take i, L.drop (i + 1), ?_, by simp; omega, rfl, rfl⟩
 rw [← List.drop_eq_getElem_cons hi, List.take_append_drop]

def gy (p : α → Bool) (k : α → Int) (L : List α) (i : Nat) : Bool :=
 match L[i]? with
 | none => true
 | some x => p x && match i with
  | 0 => true
  | j + 1 => match L[j]? with
   | none => true
   | some y => decide (k y < k x)

def ij (p : α → Bool) (k : α → Int) (m : Nat) (L : List α) : Bool := (List.range L.length).all (gy p k L) && decide (L.length ≤ m)

theorem ac2 {q : Nat → Bool} {n i : Nat} (hi : i < n) (h : q i = false) : (List.range n).all q = false := by
 rw [List.all_eq_false]
 exact ⟨i, by simpa using hi, by simp [h]⟩
theorem gw {q : Nat → Bool} {i : Nat} (h : (List.range i).all q = true) (h1 : q i = true) : (List.range (i + 1)).all q = true := by
 rw [List.range_succ, List.all_append, h]
 simp [h1]
theorem j0 {p : α → Bool} {k : α → Int} {m : Nat} {L : List α} {i : Nat} (hi : i < L.length) (h : gy p k L i = false) : ij p k m L = false := by
 rw [ij, ac2 hi h]
 rfl
theorem kx {p : α → Bool} {k : α → Int} {L : List α} (h0 : 0 < L.length) : gy p k L 0 = p L[0] := by simp [gy, h0]
theorem ik {p : α → Bool} {k : α → Int} {L : List α} {j : Nat} (h : j + 1 < L.length) : gy p k L (j + 1) = (p L[j + 1] && decide (k (L[j]'(by omega)) < k L[j + 1])) := by
 have : j < L.length := by omega
 simp [gy, h, this]
end

theorem leA {x y : V} (h : LeV x y := by first | exact anw rfl | exact .inl rfl | exact le_nil | exact arj rfl (by simp) | exact LeV.aqd (by first | ((repeat' (first | exact True.intro | exact zg rfl (by simp) (by simp) | exact LeE.nil | exact LeE.refl _ | refine And.intro ?_ ?_)); done) | fail)) : LeV x y := h
theorem ak.at {P : Program} {h : Hp} {g : FuncId} {a c args : List V} {K : V → Hp → Prop} {x : Tag K} {as' : List V} {r : V} {hout : Hp} (hs : Ctr P g as' [] r hout) (hle : LeL ((a ++ args ++ c).map (ren (fh h 3) 3)) as') (hk : K r hout)
 (hro : (a ++ args ++ c).all (de 3) = true ∨ wb r ∧ my hout := by first | exact .inl rfl | exact .inr ⟨ajg 3 rfl, by first | exact my.nil | exact aeu _ | exact my.of (by simp only [ahy, List.all_cons, List.all_nil, abu, Bool.and_self])⟩)
 (hrf : pw h 4 (.fn (.func g) a c) = true ∧ args.all (pw h 3) = true := by first | exact ⟨rfl, rfl⟩ | exact ⟨rfl, by simp [pw, tf, ami, de, mg, ag3]⟩ | simp [pw, tf, ami, de, mg, ag3]) : ak P h (.fn (.func g) a c) args K x :=
 ak.intro hs hle hro hrf hk
theorem ai.at {P : Program} {t : List V} {h : Hp} {k : Nat} {dst : Option Tmp} {g : FuncId} {a c args : List V} {K : St → Prop} {x : Tag K} {as' : List V} {r : V} {hout : Hp} (hs : Ctr P g as' [] r hout)
 (hle : LeL ((a ++ args ++ c).map (ren (fh h 3) 3)) as') (hk : K (qp ⟨t, h, k⟩ dst r hout))
 (hro : (a ++ args ++ c).all (de 3) = true ∨ wb r ∧ my hout := by first | exact .inl rfl | exact .inr ⟨ajg 3 rfl, by first | exact my.nil | exact aeu _ | exact my.of (by simp only [ahy, List.all_cons, List.all_nil, abu, Bool.and_self])⟩) : ai P ⟨t, h, k⟩ dst (.fn (.func g) a c) args K x :=
 ai.intro hs hle hro hk
theorem anm {sel : List Nat} {h hin : Hp} {fz : Bool} (hh : az sel h fz = hin := by first | exact as2 rfl | rfl | (simp only [az, List.map_cons, List.map_nil, bg, List.getElem?_cons_zero, List.getElem?_cons_succ, ab]; done)) : az sel h fz = hin := hh
theorem leO {x y : V} (h : LeV x y := by first | exact .inl rfl | exact LeV.aqd (by first | ((repeat' (first | exact True.intro | exact LeE.nil | exact LeE.refl _ | refine And.intro ?_ ?_)); done) | fail)) : LeV x y := h
theorem df {a b : Prop} (hb : b) (ha : a := by first | omega | with_reducible rfl | (show cc _ = true; kernel_rfl) | (simp only [ay, bf, List.length_append, List.length_cons, List.length_nil, List.all_append, List.all_cons, List.all_nil, ch, Nat.mul_one, Nat.one_mul, Bool.and_self]; first | done | omega)) : a ∧ b := ⟨ha, hb⟩
attribute [go_sem] Nat.le_refl Int.toNat_natCast beq_self_eq_true bne_self_eq_false decide_true decide_false eq_self ne_eq Option.some.injEq not_false_eq_true Option.map_some ab
theorem bo.pk {t t2 : List V} {h h2 : Hp} {k : Nat} (sel : List Nat) (ht : LeG (ren (bb sel h true) 3) t t2) (hh : az sel h true = h2) (hn : sel.Nodup := by decide) (hk : ∀ j, j < k → sel[j]? = some j := by (intro j hj; cases j <;> simp_all)) : bo ⟨t, h, k⟩ ⟨t2, h2, k⟩ := bo.pick sel hn hk ht hh
attribute [go_sem] Nat.reduceSub Nat.reduceAdd Nat.reduceMul Nat.reduceLT Nat.reduceLeDiff Nat.reduceEqDiff Nat.reduceDiv Nat.reduceMod Int.reduceToNat Int.reduceLE Int.reduceLT Int.reduceBEq Int.reduceBNe Int.reduceNeg Int.reduceAdd Int.reduceSub Int.reduceMul reduceCtorEq
def un (n : Nat) (l : List V) : List V := List.replicate n .undef ++ l
@[go_sem, simp] theorem a9w (n : Nat) (l : List V) : un (n + 1) l = .undef :: un n l := rfl
@[go_sem, simp] theorem bac (l : List V) : un 0 l = l := rfl
structure Wr (q : Prop) : Prop where
 o : q
theorem rn0 {p q : Prop} (h : q) (hq : Wr q → p := by intro h; (repeat ((repeat1' (first | simp -implicitDefEqProofs -dsimp only [go_sem] | simp -dsimp (disch := omega) only [wrap_i64])); repeat (with_reducible refine df ?_))); exact h.o) : p := hq ⟨h⟩
theorem rn1 {a1 p q : Prop} (h1 : a1) (h : q) (hq : a1 → Wr q → p := by intro h1 h; (repeat ((repeat1' (first | simp -implicitDefEqProofs -dsimp only [go_sem, h1] | simp -dsimp (disch := omega) only [wrap_i64])); repeat (with_reducible refine df ?_))); exact h.o) : p := hq h1 ⟨h⟩
theorem rn2 {a1 a2 p q : Prop} (h1 : a1) (h2 : a2) (h : q) (hq : a1 → a2 → Wr q → p := by intro h1 h2 h; (repeat ((repeat1' (first | simp -implicitDefEqProofs -dsimp only [go_sem, h1, h2] | simp -dsimp (disch := omega) only [wrap_i64])); repeat (with_reducible refine df ?_))); exact h.o) : p := hq h1 h2 ⟨h⟩
theorem rn3 {a1 a2 a3 p q : Prop} (h1 : a1) (h2 : a2) (h3 : a3) (h : q) (hq : a1 → a2 → a3 → Wr q → p := by intro h1 h2 h3 h; (repeat ((repeat1' (first | simp -implicitDefEqProofs -dsimp only [go_sem, h1, h2, h3] | simp -dsimp (disch := omega) only [wrap_i64])); repeat (with_reducible refine df ?_))); exact h.o) : p := hq h1 h2 h3 ⟨h⟩
theorem rn4 {a1 a2 a3 a4 p q : Prop} (h1 : a1) (h2 : a2) (h3 : a3) (h4 : a4) (h : q) (hq : a1 → a2 → a3 → a4 → Wr q → p := by intro h1 h2 h3 h4 h; (repeat ((repeat1' (first | simp -implicitDefEqProofs -dsimp only [go_sem, h1, h2, h3, h4] | simp -dsimp (disch := omega) only [wrap_i64])); repeat (with_reducible refine df ?_))); exact h.o) : p := hq h1 h2 h3 h4 ⟨h⟩
theorem rn5 {a1 a2 a3 a4 a5 p q : Prop} (h1 : a1) (h2 : a2) (h3 : a3) (h4 : a4) (h5 : a5) (h : q) (hq : a1 → a2 → a3 → a4 → a5 → Wr q → p := by intro h1 h2 h3 h4 h5 h; (repeat ((repeat1' (first | simp -implicitDefEqProofs -dsimp only [go_sem, h1, h2, h3, h4, h5] | simp -dsimp (disch := omega) only [wrap_i64])); repeat (with_reducible refine df ?_))); exact h.o) : p := hq h1 h2 h3 h4 h5 ⟨h⟩
theorem rn6 {a1 a2 a3 a4 a5 a6 p q : Prop} (h1 : a1) (h2 : a2) (h3 : a3) (h4 : a4) (h5 : a5) (h6 : a6) (h : q) (hq : a1 → a2 → a3 → a4 → a5 → a6 → Wr q → p := by intro h1 h2 h3 h4 h5 h6 h; (repeat ((repeat1' (first | simp -implicitDefEqProofs -dsimp only [go_sem, h1, h2, h3, h4, h5, h6] | simp -dsimp (disch := omega) only [wrap_i64])); repeat (with_reducible refine df ?_))); exact h.o) : p := hq h1 h2 h3 h4 h5 h6 ⟨h⟩
theorem rn7 {a1 a2 a3 a4 a5 a6 a7 p q : Prop} (h1 : a1) (h2 : a2) (h3 : a3) (h4 : a4) (h5 : a5) (h6 : a6) (h7 : a7) (h : q) (hq : a1 → a2 → a3 → a4 → a5 → a6 → a7 → Wr q → p := by intro h1 h2 h3 h4 h5 h6 h7 h; (repeat ((repeat1' (first | simp -implicitDefEqProofs -dsimp only [go_sem, h1, h2, h3, h4, h5, h6, h7] | simp -dsimp (disch := omega) only [wrap_i64])); repeat (with_reducible refine df ?_))); exact h.o) : p := hq h1 h2 h3 h4 h5 h6 h7 ⟨h⟩
theorem rn8 {a1 a2 a3 a4 a5 a6 a7 a8 p q : Prop} (h1 : a1) (h2 : a2) (h3 : a3) (h4 : a4) (h5 : a5) (h6 : a6) (h7 : a7) (h8 : a8) (h : q) (hq : a1 → a2 → a3 → a4 → a5 → a6 → a7 → a8 → Wr q → p := by intro h1 h2 h3 h4 h5 h6 h7 h8 h; (repeat ((repeat1' (first | simp -implicitDefEqProofs -dsimp only [go_sem, h1, h2, h3, h4, h5, h6, h7, h8] | simp -dsimp (disch := omega) only [wrap_i64])); repeat (with_reducible refine df ?_))); exact h.o) : p := hq h1 h2 h3 h4 h5 h6 h7 h8 ⟨h⟩
theorem rn11 {a1 a2 a3 a4 a5 a6 a7 a8 a9 a10 a11 p q : Prop} (h1 : a1) (h2 : a2) (h3 : a3) (h4 : a4) (h5 : a5) (h6 : a6) (h7 : a7) (h8 : a8) (h9 : a9) (h10 : a10) (h11 : a11) (h : q) (hq : a1 → a2 → a3 → a4 → a5 → a6 → a7 → a8 → a9 → a10 → a11 → Wr q → p := by intro h1 h2 h3 h4 h5 h6 h7 h8 h9 h10 h11 h; (repeat ((repeat1' (first | simp -implicitDefEqProofs -dsimp only [go_sem, h1, h2, h3, h4, h5, h6, h7, h8, h9, h10, h11] | simp -dsimp (disch := omega) only [wrap_i64])); repeat (with_reducible refine df ?_))); exact h.o) : p := hq h1 h2 h3 h4 h5 h6 h7 h8 h9 h10 h11 ⟨h⟩
theorem atq {a1 a2 a3 a4 a5 a6 a7 a8 a9 a10 a11 a12 a13 p q : Prop} (h1 : a1) (h2 : a2) (h3 : a3) (h4 : a4) (h5 : a5) (h6 : a6) (h7 : a7) (h8 : a8) (h9 : a9) (h10 : a10) (h11 : a11) (h12 : a12) (h13 : a13) (h : q) (hq : a1 → a2 → a3 → a4 → a5 → a6 → a7 → a8 → a9 → a10 → a11 → a12 → a13 → Wr q → p := by intro h1 h2 h3 h4 h5 h6 h7 h8 h9 h10 h11 h12 h13 h; (repeat ((repeat1' (first | simp -implicitDefEqProofs -dsimp only [go_sem, h1, h2, h3, h4, h5, h6, h7, h8, h9, h10, h11, h12, h13] | simp -dsimp (disch := omega) only [wrap_i64])); repeat (with_reducible refine df ?_))); exact h.o) : p := hq h1 h2 h3 h4 h5 h6 h7 h8 h9 h10 h11 h12 h13 ⟨h⟩
theorem rn15 {a1 a2 a3 a4 a5 a6 a7 a8 a9 a10 a11 a12 a13 a14 a15 p q : Prop} (h1 : a1) (h2 : a2) (h3 : a3) (h4 : a4) (h5 : a5) (h6 : a6) (h7 : a7) (h8 : a8) (h9 : a9) (h10 : a10) (h11 : a11) (h12 : a12) (h13 : a13) (h14 : a14) (h15 : a15) (h : q) (hq : a1 → a2 → a3 → a4 → a5 → a6 → a7 → a8 → a9 → a10 → a11 → a12 → a13 → a14 → a15 → Wr q → p := by intro h1 h2 h3 h4 h5 h6 h7 h8 h9 h10 h11 h12 h13 h14 h15 h; (repeat ((repeat1' (first | simp -implicitDefEqProofs -dsimp only [go_sem, h1, h2, h3, h4, h5, h6, h7, h8, h9, h10, h11, h12, h13, h14, h15] | simp -dsimp (disch := omega) only [wrap_i64])); repeat (with_reducible refine df ?_))); exact h.o) : p := hq h1 h2 h3 h4 h5 h6 h7 h8 h9 h10 h11 h12 h13 h14 h15 ⟨h⟩
theorem rn16 {a1 a2 a3 a4 a5 a6 a7 a8 a9 a10 a11 a12 a13 a14 a15 a16 p q : Prop} (h1 : a1) (h2 : a2) (h3 : a3) (h4 : a4) (h5 : a5) (h6 : a6) (h7 : a7) (h8 : a8) (h9 : a9) (h10 : a10) (h11 : a11) (h12 : a12) (h13 : a13) (h14 : a14) (h15 : a15) (h16 : a16) (h : q) (hq : a1 → a2 → a3 → a4 → a5 → a6 → a7 → a8 → a9 → a10 → a11 → a12 → a13 → a14 → a15 → a16 → Wr q → p := by intro h1 h2 h3 h4 h5 h6 h7 h8 h9 h10 h11 h12 h13 h14 h15 h16 h; (repeat ((repeat1' (first | simp -implicitDefEqProofs -dsimp only [go_sem, h1, h2, h3, h4, h5, h6, h7, h8, h9, h10, h11, h12, h13, h14, h15, h16] | simp -dsimp (disch := omega) only [wrap_i64])); repeat (with_reducible refine df ?_))); exact h.o) : p := hq h1 h2 h3 h4 h5 h6 h7 h8 h9 h10 h11 h12 h13 h14 h15 h16 ⟨h⟩
theorem rn17 {a1 a2 a3 a4 a5 a6 a7 a8 a9 a10 a11 a12 a13 a14 a15 a16 a17 p q : Prop} (h1 : a1) (h2 : a2) (h3 : a3) (h4 : a4) (h5 : a5) (h6 : a6) (h7 : a7) (h8 : a8) (h9 : a9) (h10 : a10) (h11 : a11) (h12 : a12) (h13 : a13) (h14 : a14) (h15 : a15) (h16 : a16) (h17 : a17) (h : q) (hq : a1 → a2 → a3 → a4 → a5 → a6 → a7 → a8 → a9 → a10 → a11 → a12 → a13 → a14 → a15 → a16 → a17 → Wr q → p := by intro h1 h2 h3 h4 h5 h6 h7 h8 h9 h10 h11 h12 h13 h14 h15 h16 h17 h; (repeat ((repeat1' (first | simp -implicitDefEqProofs -dsimp only [go_sem, h1, h2, h3, h4, h5, h6, h7, h8, h9, h10, h11, h12, h13, h14, h15, h16, h17] | simp -dsimp (disch := omega) only [wrap_i64])); repeat (with_reducible refine df ?_))); exact h.o) : p := hq h1 h2 h3 h4 h5 h6 h7 h8 h9 h10 h11 h12 h13 h14 h15 h16 h17 ⟨h⟩
theorem ev0 {p q : Prop} (h : q) (hq : Wr q → p := by intro h; simp -implicitDefEqProofs -dsimp only [go_sem]; exact h.o) : p := hq ⟨h⟩
theorem ev1 {a1 p q : Prop} (h1 : a1) (h : q) (hq : a1 → Wr q → p := by intro h1 h; simp -implicitDefEqProofs -dsimp only [go_sem, h1]; exact h.o) : p := hq h1 ⟨h⟩
theorem ev2 {a1 a2 p q : Prop} (h1 : a1) (h2 : a2) (h : q) (hq : a1 → a2 → Wr q → p := by intro h1 h2 h; simp -implicitDefEqProofs -dsimp only [go_sem, h1, h2]; exact h.o) : p := hq h1 h2 ⟨h⟩
theorem ev3 {a1 a2 a3 p q : Prop} (h1 : a1) (h2 : a2) (h3 : a3) (h : q) (hq : a1 → a2 → a3 → Wr q → p := by intro h1 h2 h3 h; simp -implicitDefEqProofs -dsimp only [go_sem, h1, h2, h3]; exact h.o) : p := hq h1 h2 h3 ⟨h⟩
theorem ev4 {a1 a2 a3 a4 p q : Prop} (h1 : a1) (h2 : a2) (h3 : a3) (h4 : a4) (h : q) (hq : a1 → a2 → a3 → a4 → Wr q → p := by intro h1 h2 h3 h4 h; simp -implicitDefEqProofs -dsimp only [go_sem, h1, h2, h3, h4]; exact h.o) : p := hq h1 h2 h3 h4 ⟨h⟩
theorem ev7 {a1 a2 a3 a4 a5 a6 a7 p q : Prop} (h1 : a1) (h2 : a2) (h3 : a3) (h4 : a4) (h5 : a5) (h6 : a6) (h7 : a7) (h : q) (hq : a1 → a2 → a3 → a4 → a5 → a6 → a7 → Wr q → p := by intro h1 h2 h3 h4 h5 h6 h7 h; simp -implicitDefEqProofs -dsimp only [go_sem, h1, h2, h3, h4, h5, h6, h7]; exact h.o) : p := hq h1 h2 h3 h4 h5 h6 h7 ⟨h⟩
theorem ew0 {p q : Prop} (h : q) (hq : Wr q → p := by intro h; (repeat1' (first | simp -implicitDefEqProofs -dsimp only [go_sem] | simp -dsimp (disch := omega) only [wrap_i64])); exact h.o) : p := hq ⟨h⟩
theorem ew1 {a1 p q : Prop} (h1 : a1) (h : q) (hq : a1 → Wr q → p := by intro h1 h; (repeat1' (first | simp -implicitDefEqProofs -dsimp only [go_sem, h1] | simp -dsimp (disch := omega) only [wrap_i64])); exact h.o) : p := hq h1 ⟨h⟩
theorem ew2 {a1 a2 p q : Prop} (h1 : a1) (h2 : a2) (h : q) (hq : a1 → a2 → Wr q → p := by intro h1 h2 h; (repeat1' (first | simp -implicitDefEqProofs -dsimp only [go_sem, h1, h2] | simp -dsimp (disch := omega) only [wrap_i64])); exact h.o) : p := hq h1 h2 ⟨h⟩
theorem ew3 {a1 a2 a3 p q : Prop} (h1 : a1) (h2 : a2) (h3 : a3) (h : q) (hq : a1 → a2 → a3 → Wr q → p := by intro h1 h2 h3 h; (repeat1' (first | simp -implicitDefEqProofs -dsimp only [go_sem, h1, h2, h3] | simp -dsimp (disch := omega) only [wrap_i64])); exact h.o) : p := hq h1 h2 h3 ⟨h⟩
theorem ew5 {a1 a2 a3 a4 a5 p q : Prop} (h1 : a1) (h2 : a2) (h3 : a3) (h4 : a4) (h5 : a5) (h : q) (hq : a1 → a2 → a3 → a4 → a5 → Wr q → p := by intro h1 h2 h3 h4 h5 h; (repeat1' (first | simp -implicitDefEqProofs -dsimp only [go_sem, h1, h2, h3, h4, h5] | simp -dsimp (disch := omega) only [wrap_i64])); exact h.o) : p := hq h1 h2 h3 h4 h5 ⟨h⟩
theorem ew6 {a1 a2 a3 a4 a5 a6 p q : Prop} (h1 : a1) (h2 : a2) (h3 : a3) (h4 : a4) (h5 : a5) (h6 : a6) (h : q) (hq : a1 → a2 → a3 → a4 → a5 → a6 → Wr q → p := by intro h1 h2 h3 h4 h5 h6 h; (repeat1' (first | simp -implicitDefEqProofs -dsimp only [go_sem, h1, h2, h3, h4, h5, h6] | simp -dsimp (disch := omega) only [wrap_i64])); exact h.o) : p := hq h1 h2 h3 h4 h5 h6 ⟨h⟩
end Go.Lv
end
section
namespace Go.Lv
theorem ob {α : Type} {cs : α → List V} {w : Nat} (hw : ∀ a, (cs a).length = w) {L : List α} {i : Nat} (hi : i < L.length) (x : α) : dq (rows cs L) (i * w) (cs x) = rows cs (L.set i x) := by
 have e : L = L.take i ++ L[i] :: L.drop (i + 1) := by rw [← List.drop_eq_getElem_cons hi, List.take_append_drop]
 have e2 : L.set i x = L.take i ++ x :: L.drop (i + 1) := by rw [List.set_eq_take_append_cons_drop, if_pos hi]
 have hA : (rows cs (L.take i)).length = i * w := by rw [lu hw, List.length_take, Nat.min_eq_left (by omega)]
 rw [e2, jk, e9]
 conv => lhs; rw [e, jk, e9]
 rw [aks hA, aci]
 congr 2
 rw [List.drop_append_of_le_length (by rw [hw, hw]; exact Nat.le_refl _), List.drop_of_length_le (by rw [hw, hw]; exact Nat.le_refl _)]
 rfl
end Go.Lv
end
section
namespace Go.Lv
theorem aky {A B ns : List V} {f : Nat} (h : f + ns.length ≤ A.length) : dq (A ++ B) f ns = dq A f ns ++ B := by
 unfold dq
 rw [List.take_append_of_le_length (by omega), List.drop_append_of_le_length (by omega)]
 simp [List.append_assoc]
theorem pb {α : Type} {cs : α → List V} {w : Nat} (hw : ∀ a, (cs a).length = w) {L : List α} {j f : Nat} {v : V} {x : α} (hj : j < L.length) (hf : f < w) (hx : cs x = dq (cs L[j]) f [v]) : dq (rows cs L) (j * w + f) [v] = rows cs (L.set j x) := by
 have e : L = L.take j ++ L[j] :: L.drop (j + 1) := by rw [← List.drop_eq_getElem_cons hj, List.take_append_drop]
 have e2 : L.set j x = L.take j ++ x :: L.drop (j + 1) := by rw [List.set_eq_take_append_cons_drop, if_pos hj]
 have hA : (rows cs (L.take j)).length = j * w := by rw [lu hw, List.length_take, Nat.min_eq_left (by omega)]
 rw [e2, jk, e9]
 conv => lhs; rw [e, jk, e9]
 rw [adr hA, aky (by rw [hw]; simp; omega), hx]

def fits (id n : Nat) : Nat → V → Bool
 | _, .osl i off m w => i != id || decide (off + m * w ≤ n)
 | d + 1, .agg cs => cs.all (fits id n d)
 | d + 1, .tup cs => cs.all (fits id n d)
 | d + 1, .fn _ a c => a.all (fits id n d) && c.all (fits id n d)
 | 0, .agg _ => false
 | 0, .tup _ => false
 | 0, .fn _ _ _ => false
 | _, _ => true

theorem RV.trim {w : World} {m : Nat → Nat} {h : Hp} {av av' : Nat → Prop} {id n : Nat} {cs : List V} (hid : h[id]? = some (some cs)) (hmb : ix cs = false) (hmb' : ix (cs.take n) = false) (hn : n ≤ cs.length) (hav : ∀ b, av' b → av b) {o : Bool} {v : Value} {x : V}
 (hx : RV w m h av o v x) : ∀ d, fits id n d x = true → RV w m (h.set id (some (cs.take n))) av' o v x := by
 have hro : ∀ {v : Value} {x : V}, RV w m h av false v x → RV w m (h.set id (some (cs.take n))) av' false v x := fun hx =>
  hx.x6 (fun b off v hb hc => ⟨fun h => hb (hav b h), hc⟩) rfl
 have hset : ∀ {i : Nat} {c : List V}, h[i]? = some (some c) → i ≠ id → (h.set id (some (cs.take n)))[i]? = some (some c) := fun h e => by
  rw [List.getElem?_set_ne (Ne.symm e)]; exact h
 have hself : (h.set id (some (cs.take n)))[id]? = some (some (cs.take n)) := List.getElem?_set_self (e8 hid)
 induction hx with
 | undef v => exact fun _ _ => .undef v
 | skip => exact fun _ _ => .skip
 | bool b => exact fun _ _ => .bool b
 | int k n => exact fun _ _ => .int k n
 | str s => exact fun _ _ => .str s
 | nilsl => exact fun _ _ => .nilsl
 | slz a c wd => exact fun _ _ => .slz a c wd
 | sl b off n' cap wd cs' vals hl ha hc hv hr _ => exact fun _ _ => .sl b off n' cap wd cs' vals hl (fun hne h => ha hne (hav b h)) hc hv (fun i hi => hro (hr i hi))
 | pt b off cs' vals ha hv hr _ => exact fun _ _ => .pt b off cs' vals (fun hne h => ha hne (hav b h)) hv (fun i hi => hro (hr i hi))
 | osl id' off n' cap wd cs' hid' hl hc hs =>
  intro d hf
  by_cases e : id' = id
  · subst e
    have he : cs = cs' := by have := hid'.1; rw [hid] at this; simpa using this
    subst he
    have hf' : off + n' * wd ≤ n := by cases d <;> simpa [fits] using hf
    exact .osl id' off n' cap wd (cs.take n) ⟨hself, hmb'⟩ (by simp; omega) hc hs
  · exact .osl id' off n' cap wd cs' ⟨hset hid'.1 e, hid'.2⟩ hl hc hs
 | ptr id' off cs' hid' =>
  intro d _
  by_cases e : id' = id
  · subst e
    exact .ptr id' off (cs.take n) ⟨hself, hmb'⟩
  · exact .ptr id' off cs' ⟨hset hid'.1 e, hid'.2⟩
 | fn g a c a' c' ha hc hra hrc iha ihc =>
  intro d hf
  cases d with
  | zero => simp [fits] at hf
  | succ d =>
   simp only [fits, Bool.and_eq_true, List.all_eq_true] at hf
   exact .fn g a c a' c' ha hc (fun i hi => iha i hi d (hf.1 _ (List.getElem_mem hi))) (fun i hi => ihc i hi d (hf.2 _ (List.getElem_mem hi)))
 | agg a a' ha hra iha =>
  intro d hf
  cases d with
  | zero => simp [fits] at hf
  | succ d =>
   simp only [fits, List.all_eq_true] at hf
   exact .agg a a' ha (fun i hi => iha i hi d (hf _ (List.getElem_mem hi)))
 | tup a a' ha hra iha =>
  intro d hf
  cases d with
  | zero => simp [fits] at hf
  | succ d =>
   simp only [fits, List.all_eq_true] at hf
   exact .tup a a' ha (fun i hi => iha i hi d (hf _ (List.getElem_mem hi)))
 | lit v => exact fun _ _ => .lit v
 | mp id' cs' hid' hm =>
  intro d _
  by_cases e : id' = id
  · subst e
    rw [hid] at hid'
    have he : cs = cs' := by simpa using hid'
    subst he
    rw [hmb] at hm; cases hm
  · exact .mp id' cs' (hset hid' e) hm

theorem aj.trim {k : Nat} {v r : V} {h hout : Hp} (id n : Nat) {cs : List V} (hid : h[id]? = some (some cs)) (hk : k ≤ id) (hn : n ≤ cs.length) (hmb : ix cs = false) (hmb' : ix (cs.take n) = false) (hv : fits id n 3 v = true)
 (hh : (h.all fun b => match b with | some cs => cs.all (fits id n 2) | none => true) = true) (hr : aj k v (h.set id (some (cs.take n))) r hout) : aj k v h r hout := by
 intro w0 m0 h0 av0 w m val e1 e2 hlt hle H hx hI
 have hfit : ∀ (j : Nat) (c : List V), h[j]? = some (some c) → ∀ x ∈ c, fits id n 2 x = true := by
  intro j c hj x hxc
  have := List.all_eq_true.1 hh _ (List.mem_of_getElem? hj)
  exact List.all_eq_true.1 this x hxc
 have hown : ∀ b, own m (h.set id (some (cs.take n))) b → own m h b := by
  rintro b ⟨j, c, h1, rfl⟩
  rcases oe hid h1 with ⟨rfl, _⟩ | ⟨_, h2⟩
  · exact ⟨j, cs, hid, rfl⟩
  · exact ⟨j, c, h2, rfl⟩
 have hav : ∀ b, avm av0 m (h.set id (some (cs.take n))) b → avm av0 m h b := fun b hb => hb.imp (fun x => x) (hown b)
 have hcase : ∀ (j : Nat) (c : List V), (h.set id (some (cs.take n)))[j]? = some (some c) → ∃ c0, h[j]? = some (some c0) ∧ (∃ q, c = c0.take q) := by
  intro j c h1
  rcases oe hid h1 with ⟨rfl, rfl⟩ | ⟨_, h2⟩
  · exact ⟨cs, hid, n, rfl⟩
  · exact ⟨c, h2, c.length, by simp⟩
 refine hr w0 m0 h0 av0 w m val e1 (by simpa using e2) hlt hle ⟨fun i j ci cj h1 h2 he => ?_, fun j c h1 => .inr ⟨j, c, h1, rfl⟩, fun j c h1 => ?_⟩ (hx.trim hid hmb hmb' hn hav 3 hv) (fun j c h1 => ?_)
 · obtain ⟨c1, g1, _⟩ := hcase i ci h1
   obtain ⟨c2, g2, _⟩ := hcase j cj h2
   exact H.inj i j c1 c2 g1 g2 he
 · rcases oe hid h1 with ⟨rfl, rfl⟩ | ⟨_, h2⟩
   · obtain ⟨C, T, fr, g1, hfr, g2, g3⟩ := (H.blk j cs hid).cells hmb
     refine .inl ⟨C, T, fr, g1, hfr, by simp; omega, fun i hi => ?_⟩
     have hi' : i < cs.length := by simp at hi; omega
     rw [List.getElem_take]
     exact (g3 i hi').trim hid hmb hmb' hn hav 2 (hfit j cs hid _ (List.getElem_mem _))
   · rcases H.blk j c h2 with ⟨C, T, fr, g1, hfr, g2, g3⟩ | h3
     · exact .inl ⟨C, T, fr, g1, hfr, g2, fun i hi => (g3 i hi).trim hid hmb hmb' hn hav 2 (hfit j c h2 _ (List.getElem_mem _))⟩
     · exact .inr h3
 · rcases oe hid h1 with ⟨rfl, rfl⟩ | ⟨_, h2⟩
   · rcases hI j cs hid with ⟨q1, _⟩ | q1
     · omega
     · exact .inr q1
   · exact hI j c h2

theorem aek (id n : Nat) : ∀ (d : Nat) (x : V), de d x = true → fits id n d x = true
 | 0, x, hx => by cases x <;> simp_all [de, fits]
 | d + 1, x, hx => by
  have hall : ∀ l : List V, l.all (de d) = true → l.all (fits id n d) = true := fun l h =>
   List.all_eq_true.2 fun y hy => aek id n d y (List.all_eq_true.1 h y hy)
  cases x <;> first | (simp only [de, fits, Bool.and_eq_true] at hx ⊢; exact ⟨hall _ hx.1, hall _ hx.2⟩) | (simp only [de, fits] at hx ⊢; exact hall _ hx) | rfl | cases hx
theorem ahm {α : Type} {cs : α → List V} {w : Nat} [na cs w] (id n d : Nat) (L : List α) : (rows cs L).all (fits id n d) = true :=
 List.all_eq_true.2 fun x hx => aek id n d x (List.all_eq_true.1 (mg (cs := cs) L d) x hx)
end Go.Lv
end
section
set_option maxRecDepth 100000
namespace Go.Proofs
open Go.Lv
def u8R (x : Int) : Prop := 0 ≤ x ∧ x ≤ 255
def ByteS.cs (x : Int) : List V := [.int .u8 x]
instance instFlatPByteS : r3 ByteS.cs 1 := ⟨fun _ => rfl, fun _ d => by cases d <;> rfl, fun _ => rfl, fun _ => rfl⟩
theorem ByteS.csl (a : Int) : (ByteS.cs a).length = 1 := rfl
abbrev ByteS.ok (x : Int) : Prop := u8R x
abbrev ByteS.sl (L : List Int) : V := .sl L.length 1 (Go.Lv.rows ByteS.cs L)

def sc (b : ByteArray) : List Int := b.data.toList.map fun c => (c.toNat : Int)
theorem ou (b : ByteArray) : strCells b = Go.Lv.rows ByteS.cs (sc b) := by
 unfold strCells sc Go.Lv.rows
 generalize b.data.toList = l
 induction l with
 | nil => rfl
 | cons c l ih => simp only [List.map_cons, List.flatMap_cons, ← ih]; rfl
theorem tq (b : ByteArray) : (sc b).length = b.size := by simp [sc]
theorem ali (L : List Int) : oa (Go.Lv.rows ByteS.cs L) = some L := by
 induction L with
 | nil => rfl
 | cons x l ih =>
  have : Go.Lv.rows ByteS.cs (x :: l) = .int .u8 x :: Go.Lv.rows ByteS.cs l := rfl
  rw [this]
  simp [oa, ih]
theorem nw (b : ByteArray) : strOfNums (sc b) = b := by
 unfold strOfNums sc
 rw [List.map_map]
 have : (fun n : Int => UInt8.ofNat n.toNat) ∘ (fun c : UInt8 => (c.toNat : Int)) = id := by
  funext c; simp
 rw [this, List.map_id]
theorem abg (x y : List Int) : strOfNums (x ++ y) = strOfNums x ++ strOfNums y := by
 unfold strOfNums
 apply ByteArray.ext
 simp
theorem aju (x y : ByteArray) : sc (x ++ y) = sc x ++ sc y := by simp [sc]
theorem aus {b : ByteArray} {x : Int} (h : x ∈ sc b) : 0 ≤ x ∧ x ≤ 255 := by
 simp only [sc, List.mem_map] at h
 obtain ⟨c, _, rfl⟩ := h
 have := c.toNat_lt
 omega
end Go.Proofs
end
section
namespace Go.Proofs
open Go.Lv

theorem Tryz.mixed : Tryz.prog.follows .mixedOrders = true := by kernel_rfl
@[go_sem] theorem Tryz.tsz3 : jl Tryz.prog 3 = some (1, false) := by kernel_rfl
@[go_sem] theorem Tryz.udef3 : (Tryz.prog.underlying 3).isSome = true := by kernel_rfl
@[go_sem] theorem Tryz.zero3 : zeroOf Tryz.prog 3 = some [.int .i64 0] := by kernel_rfl
@[go_sem] theorem Tryz.isInt3 : xf Tryz.prog 3 = some .i64 := by kernel_rfl
@[go_sem] theorem Tryz.tsz4 : jl Tryz.prog 4 = some (1, false) := by kernel_rfl
@[go_sem] theorem Tryz.bal : aav Tryz.prog 4 = true := by kernel_rfl
@[go_sem] theorem Tryz.tsz5 : jl Tryz.prog 5 = some (1, false) := by kernel_rfl
theorem Tryz.cz5 : Tryz.prog.cellsOf 5 = 1 := by kernel_rfl
@[go_sem] theorem Tryz.udef5 : (Tryz.prog.underlying 5).isSome = true := by kernel_rfl
@[go_sem] theorem Tryz.zero5 : zeroOf Tryz.prog 5 = some [.int .u8 0] := by kernel_rfl
@[go_sem] theorem Tryz.tsz9 : jl Tryz.prog 9 = some (1, false) := by kernel_rfl
@[go_sem] theorem Tryz.udef9 : (Tryz.prog.underlying 9).isSome = true := by kernel_rfl
@[go_sem] theorem Tryz.zero9 : zeroOf Tryz.prog 9 = some [.str ByteArray.empty] := by kernel_rfl
@[go_sem] theorem Tryz.isStr9 : isStr Tryz.prog 9 = true := by kernel_rfl
@[go_sem] theorem Tryz.tsz22 : jl Tryz.prog 22 = some (1, false) := by kernel_rfl
@[go_sem] theorem Tryz.el22 : jo Tryz.prog 22 = some (5, 1, 1) := by kernel_rfl
@[go_sem] theorem Tryz.isSl22 : x8 Tryz.prog 22 = true := by kernel_rfl
@[go_sem] theorem Tryz.bab : sr Tryz.prog 22 = true := by kernel_rfl
@[go_sem] theorem Tryz.tsz24 : jl Tryz.prog 24 = some (1, false) := by kernel_rfl
@[go_sem] theorem Tryz.el24 : jo Tryz.prog 24 = some (100, 3, 24) := by kernel_rfl
@[go_sem] theorem Tryz.isSl24 : x8 Tryz.prog 24 = true := by kernel_rfl
@[go_sem] theorem Tryz.tsz25 : jl Tryz.prog 25 = some (1, false) := by kernel_rfl
@[go_sem] theorem Tryz.el25 : jo Tryz.prog 25 = some (80, 5, 40) := by kernel_rfl
@[go_sem] theorem Tryz.isSl25 : x8 Tryz.prog 25 = true := by kernel_rfl
@[go_sem] theorem Tryz.tsz27 : jl Tryz.prog 27 = some (5, true) := by kernel_rfl
@[go_sem] theorem Tryz.zero27 : zeroOf Tryz.prog 27 = some [.int .i64 0, .nilsl, .nilsl, .int .i64 0, .int .i64 0] := by kernel_rfl
@[go_sem] theorem Tryz.pl27 : ac1 Tryz.prog 27 = some [(0, 1), (1, 1), (2, 1), (3, 1), (4, 1)] := by kernel_rfl
@[go_sem] theorem Tryz.fd27_0 : kr Tryz.prog 27 0 = some (0, 1, false) := by kernel_rfl
@[go_sem] theorem Tryz.fd27_1 : kr Tryz.prog 27 1 = some (1, 1, false) := by kernel_rfl
@[go_sem] theorem Tryz.fd27_2 : kr Tryz.prog 27 2 = some (2, 1, false) := by kernel_rfl
@[go_sem] theorem Tryz.fd27_3 : kr Tryz.prog 27 3 = some (3, 1, false) := by kernel_rfl
@[go_sem] theorem Tryz.fd27_4 : kr Tryz.prog 27 4 = some (4, 1, false) := by kernel_rfl
@[go_sem] theorem Tryz.tsz29 : jl Tryz.prog 29 = some (3, true) := by kernel_rfl
@[go_sem] theorem Tryz.zero29 : zeroOf Tryz.prog 29 = some [.str ByteArray.empty, .str ByteArray.empty, .int .i64 0] := by kernel_rfl
@[go_sem] theorem Tryz.a35 : xh Tryz.prog 29 = some [.string, .string, .int .i64] := by kernel_rfl
@[go_sem] theorem Tryz.pl29 : ac1 Tryz.prog 29 = some [(0, 1), (1, 1), (2, 1)] := by kernel_rfl
@[go_sem] theorem Tryz.fd29_0 : kr Tryz.prog 29 0 = some (0, 1, false) := by kernel_rfl
@[go_sem] theorem Tryz.fd29_1 : kr Tryz.prog 29 1 = some (1, 1, false) := by kernel_rfl
@[go_sem] theorem Tryz.fd29_2 : kr Tryz.prog 29 2 = some (2, 1, false) := by kernel_rfl
@[go_sem] theorem Tryz.tsz31 : jl Tryz.prog 31 = some (8, true) := by kernel_rfl
@[go_sem] theorem Tryz.zero31 : zeroOf Tryz.prog 31 = some [.int .i64 0, .nilsl, .nilsl, .int .i64 0, .int .i64 0, .str ByteArray.empty, .str ByteArray.empty, .int .i64 0] := by kernel_rfl
@[go_sem] theorem Tryz.pl31 : ac1 Tryz.prog 31 = some [(0, 5), (5, 3)] := by kernel_rfl
@[go_sem] theorem Tryz.fd31_0 : kr Tryz.prog 31 0 = some (0, 5, true) := by kernel_rfl
@[go_sem] theorem Tryz.fd31_1 : kr Tryz.prog 31 1 = some (5, 3, true) := by kernel_rfl
@[go_sem] theorem Tryz.el37 : jo Tryz.prog 37 = some (41, 2, 32) := by kernel_rfl
@[go_sem] theorem Tryz.isSl37 : x8 Tryz.prog 37 = true := by kernel_rfl
@[go_sem] theorem Tryz.tsz41 : jl Tryz.prog 41 = some (2, true) := by kernel_rfl
@[go_sem] theorem Tryz.zero41 : zeroOf Tryz.prog 41 = some [.str ByteArray.empty, .str ByteArray.empty] := by kernel_rfl
@[go_sem] theorem Tryz.pl41 : ac1 Tryz.prog 41 = some [(0, 1), (1, 1)] := by kernel_rfl
@[go_sem] theorem Tryz.fd41_0 : kr Tryz.prog 41 0 = some (0, 1, false) := by kernel_rfl
@[go_sem] theorem Tryz.fd41_1 : kr Tryz.prog 41 1 = some (1, 1, false) := by kernel_rfl
@[go_sem] theorem Tryz.el42 : jo Tryz.prog 42 = some (9, 1, 16) := by kernel_rfl
@[go_sem] theorem Tryz.isSl42 : x8 Tryz.prog 42 = true := by kernel_rfl
@[go_sem] theorem Tryz.el48 : jo Tryz.prog 48 = some (3, 1, 8) := by kernel_rfl
@[go_sem] theorem Tryz.isSl48 : x8 Tryz.prog 48 = true := by kernel_rfl
@[go_sem] theorem Tryz.tsz59 : jl Tryz.prog 59 = some (1, false) := by kernel_rfl
@[go_sem] theorem Tryz.udef59 : (Tryz.prog.underlying 59).isSome = true := by kernel_rfl
@[go_sem] theorem Tryz.a9f : xf Tryz.prog 59 = some .u64 := by kernel_rfl
@[go_sem] theorem Tryz.zero61 : zeroOf Tryz.prog 61 = some [.nilsl, .int .i64 0, .int .u64 0] := by kernel_rfl
@[go_sem] theorem Tryz.pl61 : ac1 Tryz.prog 61 = some [(0, 1), (1, 1), (2, 1)] := by kernel_rfl
@[go_sem] theorem Tryz.fd61_0 : kr Tryz.prog 61 0 = some (0, 1, false) := by kernel_rfl
@[go_sem] theorem Tryz.fd61_1 : kr Tryz.prog 61 1 = some (1, 1, false) := by kernel_rfl
@[go_sem] theorem Tryz.fd61_2 : kr Tryz.prog 61 2 = some (2, 1, false) := by kernel_rfl
@[go_sem] theorem Tryz.tsz80 : jl Tryz.prog 80 = some (5, true) := by kernel_rfl
@[go_sem] theorem Tryz.zero80 : zeroOf Tryz.prog 80 = some [.int .i64 0, .int .i64 0, .int .i64 0, .int .i64 0, .int .i64 0] := by kernel_rfl
@[go_sem] theorem Tryz.a71 : xh Tryz.prog 80 = some [.int .i64, .int .i64, .int .i64, .int .i64, .int .i64] := by kernel_rfl
@[go_sem] theorem Tryz.pl80 : ac1 Tryz.prog 80 = some [(0, 1), (1, 1), (2, 1), (3, 1), (4, 1)] := by kernel_rfl
@[go_sem] theorem Tryz.fd80_0 : kr Tryz.prog 80 0 = some (0, 1, false) := by kernel_rfl
@[go_sem] theorem Tryz.fd80_1 : kr Tryz.prog 80 1 = some (1, 1, false) := by kernel_rfl
@[go_sem] theorem Tryz.fd80_2 : kr Tryz.prog 80 2 = some (2, 1, false) := by kernel_rfl
@[go_sem] theorem Tryz.fd80_3 : kr Tryz.prog 80 3 = some (3, 1, false) := by kernel_rfl
@[go_sem] theorem Tryz.fd80_4 : kr Tryz.prog 80 4 = some (4, 1, false) := by kernel_rfl
@[go_sem] theorem Tryz.tsz95 : jl Tryz.prog 95 = some (3, true) := by kernel_rfl
@[go_sem] theorem Tryz.zero95 : zeroOf Tryz.prog 95 = some [.int .i64 0, .int .i64 0, .int .i64 0] := by kernel_rfl
@[go_sem] theorem Tryz.pl95 : ac1 Tryz.prog 95 = some [(0, 1), (1, 1), (2, 1)] := by kernel_rfl
@[go_sem] theorem Tryz.fd95_0 : kr Tryz.prog 95 0 = some (0, 1, false) := by kernel_rfl
@[go_sem] theorem Tryz.fd95_1 : kr Tryz.prog 95 1 = some (1, 1, false) := by kernel_rfl
@[go_sem] theorem Tryz.fd95_2 : kr Tryz.prog 95 2 = some (2, 1, false) := by kernel_rfl
@[go_sem] theorem Tryz.tsz100 : jl Tryz.prog 100 = some (3, true) := by kernel_rfl
@[go_sem] theorem Tryz.baw : zeroOf Tryz.prog 100 = some [.int .i64 0, .bool false, .int .i64 0] := by kernel_rfl
@[go_sem] theorem Tryz.a1l : xh Tryz.prog 100 = some [.int .i64, .bool, .int .i64] := by kernel_rfl
@[go_sem] theorem Tryz.pl100 : ac1 Tryz.prog 100 = some [(0, 1), (1, 1), (2, 1)] := by kernel_rfl
@[go_sem] theorem Tryz.a9e : kr Tryz.prog 100 0 = some (0, 1, false) := by kernel_rfl
@[go_sem] theorem Tryz.a86 : kr Tryz.prog 100 1 = some (1, 1, false) := by kernel_rfl
@[go_sem] theorem Tryz.bav : kr Tryz.prog 100 2 = some (2, 1, false) := by kernel_rfl
@[go_sem] theorem Tryz.a5i : mapOf Tryz.prog 141 = some (.string, .int .i64 0) := by kernel_rfl
@[go_sem] theorem Tryz.isPt3 : abe Tryz.prog 3 = false := by kernel_rfl
@[go_sem] theorem Tryz.isPt9 : abe Tryz.prog 9 = false := by kernel_rfl
@[go_sem] theorem Tryz.isPt24 : abe Tryz.prog 24 = false := by kernel_rfl
@[go_sem] theorem Tryz.isPt25 : abe Tryz.prog 25 = false := by kernel_rfl
@[go_sem] theorem Tryz.isPt27 : abe Tryz.prog 27 = false := by kernel_rfl
@[go_sem] theorem Tryz.isPt29 : abe Tryz.prog 29 = false := by kernel_rfl
@[go_sem] theorem Tryz.isPt31 : abe Tryz.prog 31 = false := by kernel_rfl
@[go_sem] theorem Tryz.isPt41 : abe Tryz.prog 41 = false := by kernel_rfl
@[go_sem] theorem Tryz.isPt58 : abe Tryz.prog 58 = true := by kernel_rfl
@[go_sem] theorem Tryz.isPt80 : abe Tryz.prog 80 = false := by kernel_rfl
@[go_sem] theorem Tryz.bai : abe Tryz.prog 100 = false := by kernel_rfl
theorem Tryz.okF5 : okF Tryz.prog 5 = true := by kernel_rfl
theorem Tryz.okF6 : okF Tryz.prog 6 = true := by kernel_rfl
theorem Tryz.aqs : okF Tryz.prog 8 = true := by kernel_rfl
theorem Tryz.aum : okF Tryz.prog 9 = true := by kernel_rfl
theorem Tryz.a67 : okF Tryz.prog 10 = true := by kernel_rfl
theorem Tryz.a7x : okF Tryz.prog 11 = true := by kernel_rfl
theorem Tryz.a8h : okF Tryz.prog 14 = true := by kernel_rfl
theorem Tryz.a7n : okF Tryz.prog 17 = true := by kernel_rfl
theorem Tryz.a68 : okF Tryz.prog 20 = true := by kernel_rfl
theorem Tryz.aqv : okF Tryz.prog 21 = true := by kernel_rfl
theorem Tryz.aru : okF Tryz.prog 22 = true := by kernel_rfl
theorem Tryz.aqh : okF Tryz.prog 23 = true := by kernel_rfl
theorem Tryz.aw1 : okF Tryz.prog 24 = true := by kernel_rfl
theorem Tryz.a4b : okF Tryz.prog 25 = true := by kernel_rfl
theorem Tryz.a8n : okF Tryz.prog 26 = true := by kernel_rfl
theorem Tryz.a79 : okF Tryz.prog 27 = true := by kernel_rfl
theorem Tryz.a5p : okF Tryz.prog 28 = true := by kernel_rfl
theorem Tryz.aqm : okF Tryz.prog 29 = true := by kernel_rfl
theorem Tryz.a5w : okF Tryz.prog 30 = true := by kernel_rfl
theorem Tryz.a6q : okF Tryz.prog 31 = true := by kernel_rfl
theorem Tryz.a55 : okF Tryz.prog 32 = true := by kernel_rfl
theorem Tryz.a4u : okF Tryz.prog 33 = true := by kernel_rfl
theorem Tryz.a7t : okF Tryz.prog 34 = true := by kernel_rfl
theorem Tryz.aw2 : okF Tryz.prog 35 = true := by kernel_rfl
theorem Tryz.a4p : okF Tryz.prog 36 = true := by kernel_rfl
theorem Tryz.a4f : okF Tryz.prog 37 = true := by kernel_rfl
theorem Tryz.a5m : okF Tryz.prog 38 = true := by kernel_rfl
theorem Tryz.a3r : okF Tryz.prog 39 = true := by kernel_rfl
theorem Tryz.a6e : okF Tryz.prog 40 = true := by kernel_rfl
theorem Tryz.a5k : okF Tryz.prog 41 = true := by kernel_rfl
theorem Tryz.a8c : okF Tryz.prog 42 = true := by kernel_rfl
theorem Tryz.a7j : okF Tryz.prog 43 = true := by kernel_rfl
theorem Tryz.a8v : okF Tryz.prog 44 = true := by kernel_rfl
theorem Tryz.a7o : okF Tryz.prog 45 = true := by kernel_rfl
theorem Tryz.a5x : okF Tryz.prog 46 = true := by kernel_rfl
theorem Tryz.a32 : okF Tryz.prog 47 = true := by kernel_rfl
theorem Tryz.a7f : okF Tryz.prog 48 = true := by kernel_rfl
theorem Tryz.axg : okF Tryz.prog 49 = true := by kernel_rfl
theorem Tryz.a4k : okF Tryz.prog 50 = true := by kernel_rfl
theorem Tryz.a6i : okF Tryz.prog 51 = true := by kernel_rfl
theorem Tryz.a8x : okF Tryz.prog 52 = true := by kernel_rfl
theorem Tryz.a6s : okF Tryz.prog 53 = true := by kernel_rfl
theorem Tryz.a6f : okF Tryz.prog 54 = true := by kernel_rfl
theorem Tryz.a5s : okF Tryz.prog 55 = true := by kernel_rfl
theorem Tryz.a50 : okF Tryz.prog 56 = true := by kernel_rfl
theorem Tryz.a8a : okF Tryz.prog 57 = true := by kernel_rfl
theorem Tryz.a6p : okF Tryz.prog 58 = true := by kernel_rfl
theorem Tryz.a61 : okF Tryz.prog 59 = true := by kernel_rfl
theorem Tryz.a64 : okF Tryz.prog 60 = true := by kernel_rfl
theorem Tryz.axs : okF Tryz.prog 61 = true := by kernel_rfl
theorem Tryz.a4i : okF Tryz.prog 62 = true := by kernel_rfl
theorem Tryz.awc : okF Tryz.prog 63 = true := by kernel_rfl
theorem Tryz.a4h : okF Tryz.prog 64 = true := by kernel_rfl
theorem Tryz.a38 : okF Tryz.prog 65 = true := by kernel_rfl
theorem Tryz.a43 : okF Tryz.prog 66 = true := by kernel_rfl
theorem Tryz.a39 : okF Tryz.prog 67 = true := by kernel_rfl
theorem Tryz.a5d : okF Tryz.prog 68 = true := by kernel_rfl
theorem Tryz.a3p : okF Tryz.prog 69 = true := by kernel_rfl
theorem Tryz.a6w : okF Tryz.prog 70 = true := by kernel_rfl
theorem Tryz.ach : okF Tryz.prog 71 = true := by kernel_rfl
theorem Tryz.aba : okF Tryz.prog 72 = true := by kernel_rfl
theorem Tryz.a56 : okF Tryz.prog 73 = true := by kernel_rfl
theorem Tryz.agv : okF Tryz.prog 74 = true := by kernel_rfl
theorem Tryz.a4a : okF Tryz.prog 75 = true := by kernel_rfl
theorem Tryz.a7m : okF Tryz.prog 76 = true := by kernel_rfl
theorem Tryz.a60 : okF Tryz.prog 77 = true := by kernel_rfl
theorem Tryz.a4y : okF Tryz.prog 78 = true := by kernel_rfl
theorem Tryz.a4v : okF Tryz.prog 79 = true := by kernel_rfl
theorem Tryz.a69 : okF Tryz.prog 80 = true := by kernel_rfl
theorem Tryz.aap : okF Tryz.prog 81 = true := by kernel_rfl
theorem Tryz.aeo : okF Tryz.prog 82 = true := by kernel_rfl
theorem Tryz.afc : okF Tryz.prog 83 = true := by kernel_rfl
theorem Tryz.arq : okF Tryz.prog 84 = true := by kernel_rfl
theorem Tryz.a4j : okF Tryz.prog 85 = true := by kernel_rfl
theorem Tryz.a3l : okF Tryz.prog 86 = true := by kernel_rfl
theorem Tryz.a5z : okF Tryz.prog 87 = true := by kernel_rfl
theorem Tryz.a8i : okF Tryz.prog 88 = true := by kernel_rfl
theorem Tryz.a73 : okF Tryz.prog 89 = true := by kernel_rfl
theorem Tryz.a74 : okF Tryz.prog 90 = true := by kernel_rfl
theorem Tryz.a6g : okF Tryz.prog 91 = true := by kernel_rfl
theorem Tryz.a6r : okF Tryz.prog 92 = true := by kernel_rfl
theorem Tryz.a8q : okF Tryz.prog 93 = true := by kernel_rfl
theorem Tryz.a62 : okF Tryz.prog 94 = true := by kernel_rfl
theorem Tryz.a8s : okF Tryz.prog 95 = true := by kernel_rfl
theorem Tryz.a5q : okF Tryz.prog 97 = true := by kernel_rfl
theorem Tryz.a5v : okF Tryz.prog 98 = true := by kernel_rfl
theorem Tryz.a8p : okF Tryz.prog 99 = true := by kernel_rfl
theorem Tryz.ay4 : okF Tryz.prog 100 = true := by kernel_rfl
theorem Tryz.a0v : okF Tryz.prog 101 = true := by kernel_rfl
theorem Tryz.azj : okF Tryz.prog 102 = true := by kernel_rfl
theorem Tryz.ayu : okF Tryz.prog 103 = true := by kernel_rfl
theorem Tryz.a0q : okF Tryz.prog 104 = true := by kernel_rfl
theorem Tryz.azu : okF Tryz.prog 108 = true := by kernel_rfl
theorem Tryz.a0l : okF Tryz.prog 109 = true := by kernel_rfl
theorem Tryz.atc : okF Tryz.prog 110 = true := by kernel_rfl
theorem Tryz.aza : okF Tryz.prog 111 = true := by kernel_rfl
theorem Tryz.a0b : okF Tryz.prog 112 = true := by kernel_rfl
theorem Tryz.ay8 : okF Tryz.prog 113 = true := by kernel_rfl
theorem Tryz.ax5 : okF Tryz.prog 114 = true := by kernel_rfl
theorem Tryz.ays : okF Tryz.prog 115 = true := by kernel_rfl
theorem Tryz.ax9 : okF Tryz.prog 116 = true := by kernel_rfl
theorem Tryz.azr : okF Tryz.prog 117 = true := by kernel_rfl
theorem Tryz.azt : okF Tryz.prog 118 = true := by kernel_rfl
theorem Tryz.aya : okF Tryz.prog 119 = true := by kernel_rfl
theorem Tryz.ax2 : okF Tryz.prog 120 = true := by kernel_rfl
theorem Tryz.ax7 : okF Tryz.prog 121 = true := by kernel_rfl
theorem Tryz.ayt : okF Tryz.prog 122 = true := by kernel_rfl
theorem Tryz.a04 : okF Tryz.prog 123 = true := by kernel_rfl
theorem Tryz.azs : okF Tryz.prog 124 = true := by kernel_rfl
theorem Tryz.amp : okF Tryz.prog 125 = true := by kernel_rfl
theorem Tryz.a03 : okF Tryz.prog 126 = true := by kernel_rfl
theorem Tryz.a0i : okF Tryz.prog 127 = true := by kernel_rfl
theorem Tryz.a0o : okF Tryz.prog 131 = true := by kernel_rfl
theorem Tryz.azc : okF Tryz.prog 132 = true := by kernel_rfl
theorem Tryz.yn : okF Tryz.prog 133 = true := by kernel_rfl
theorem Tryz.xa : okF Tryz.prog 134 = true := by kernel_rfl
theorem Tryz.a0m : okF Tryz.prog 135 = true := by kernel_rfl
theorem Tryz.azv : okF Tryz.prog 136 = true := by kernel_rfl
theorem Tryz.a0n : okF Tryz.prog 141 = true := by kernel_rfl
theorem Tryz.y8 : okF Tryz.prog 144 = true := by kernel_rfl
theorem Tryz.wh : okF Tryz.prog 145 = true := by kernel_rfl
theorem Tryz.aym : okF Tryz.prog 146 = true := by kernel_rfl
theorem Tryz.azi : okF Tryz.prog 147 = true := by kernel_rfl
theorem Tryz.a0h : okF Tryz.prog 148 = true := by kernel_rfl
theorem Tryz.azb : okF Tryz.prog 149 = true := by kernel_rfl
theorem Tryz.ay5 : okF Tryz.prog 150 = true := by kernel_rfl
theorem Tryz.ayx : okF Tryz.prog 151 = true := by kernel_rfl
theorem Tryz.azw : okF Tryz.prog 152 = true := by kernel_rfl
theorem Tryz.a06 : okF Tryz.prog 153 = true := by kernel_rfl
theorem Tryz.ax4 : okF Tryz.prog 154 = true := by kernel_rfl
theorem Tryz.az3 : okF Tryz.prog 155 = true := by kernel_rfl
theorem Tryz.azm : okF Tryz.prog 156 = true := by kernel_rfl
theorem Tryz.a0u : okF Tryz.prog 161 = true := by kernel_rfl
theorem Tryz.ayg : okF Tryz.prog 162 = true := by kernel_rfl
theorem Tryz.ax6 : okF Tryz.prog 163 = true := by kernel_rfl
theorem Tryz.az4 : okF Tryz.prog 164 = true := by kernel_rfl
theorem Tryz.ax8 : okF Tryz.prog 165 = true := by kernel_rfl
theorem Tryz.amx : okF Tryz.prog 166 = true := by kernel_rfl
theorem Tryz.a00 : okF Tryz.prog 178 = true := by kernel_rfl
theorem Tryz.aji : okF Tryz.prog 179 = true := by kernel_rfl
theorem Tryz.azq : okF Tryz.prog 183 = true := by kernel_rfl
theorem Tryz.aye : okF Tryz.prog 184 = true := by kernel_rfl
theorem Tryz.a0w : okF Tryz.prog 195 = true := by kernel_rfl
theorem Tryz.ax3 : okF Tryz.prog 196 = true := by kernel_rfl
theorem Tryz.ayj : okF Tryz.prog 200 = true := by kernel_rfl
end Go.Proofs
end
section
set_option maxRecDepth 100000
namespace Go.Proofs
open Go.Lv
def IntS.cs (x : Int) : List V := [.int .i64 x]
instance : r3 IntS.cs 1 := ⟨fun _ => rfl, fun _ d => by cases d <;> rfl, fun _ => rfl, fun _ => rfl⟩
theorem IntS.csl (a : Int) : (IntS.cs a).length = 1 := rfl
abbrev IntS.ok (x : Int) : Prop := bu x
abbrev IntS.sl (L : List Int) : V := .sl L.length 1 (Go.Lv.rows IntS.cs L)
abbrev IntS.zs : List V := [.int .i64 0]
def IntS.marks (k : Int) (n : Nat) : List Int := (List.range n).map fun i : Nat => k + (i : Int)
@[simp] theorem IntS.uq (k : Int) (n : Nat) : (IntS.marks k n).length = n := by simp [IntS.marks]
abbrev IntS.v (x : Int) : V := .int .i64 x
end Go.Proofs
end
section
set_option maxRecDepth 100000
set_option maxHeartbeats 1000000
namespace Go.Proofs
open Go.Lv
structure Cur where
 a : Int
 s : Int
def Cur.cs (B : List Int) (c : Cur) : List V := [ByteS.sl B, .int .i64 c.a, .int .u64 c.s]
def CB (B : List Int) : Prop := afz u8R B
def Cur.le (c : Cur) (k : Int) : Prop := 0 ≤ c.a ∧ c.a ≤ k
theorem Cur.ren (B : List Int) (c : Cur) (f : Nat → R) (d : Nat) : (c.cs B).map (Go.Lv.ren f d) = c.cs B := by cases d <;> simp [Cur.cs, Go.Lv.ren]
theorem dm {B : List Int} {c : Cur} {h : Hp} {id : Nat} (hid : h[id]? = some (some (c.cs B))) : az [id] h false = [some (c.cs B)] := by
 simp only [az, List.map_cons, List.map_nil, bg, hid, Cur.ren]
theorem br {α : Type} {cs : α → List V} {w : Nat} [r3 cs w] {L : List α} {B : List Int} {c : Cur} {h : Hp} {i j : Nat} (hi : h[i]? = some (some (c.cs B))) (hj : h[j]? = some (some (rows cs L))) : az [i, j] h false = [some (c.cs B), some (rows cs L)] := by
 simp only [az, List.map_cons, List.map_nil, bg, hi, hj, Cur.ren, ab]
theorem il (B : List Int) (c c' : Cur) : grown [some (c.cs B)] [some (c'.cs B)] := ⟨⟨rfl, rfl⟩, trivial⟩
theorem bq {α : Type} {cs : α → List V} {L : List α} (B : List Int) (c c' : Cur) : grown [some (c.cs B), some (rows cs L)] [some (c'.cs B), some (rows cs L)] := ⟨⟨rfl, rfl⟩, ⟨rfl, rfl⟩, trivial⟩
theorem aj2 (x : Int) : 0 ≤ ai9 .u64 x 255 ∧ ai9 .u64 x 255 ≤ 255 := by
 have h : ∀ y : BitVec 64, (y &&& BitVec.ofInt 64 255).toNat ≤ 255 := fun y => by
  rw [BitVec.toNat_and]
  exact Nat.le_trans Nat.and_le_right (by decide)
 have hb : (BitVec.ofInt 64 x &&& BitVec.ofInt 64 255).toNat ≤ 255 := h _
 have hw : ai9 .u64 x 255 = (((BitVec.ofInt 64 x &&& BitVec.ofInt 64 255).toNat : Nat) : Int) := by
  unfold ai9
  show IntKind.u64.wrap (((BitVec.ofInt 64 x &&& BitVec.ofInt 64 255).toNat : Nat) : Int) = _
  generalize (BitVec.ofInt 64 x &&& BitVec.ofInt 64 255).toNat = n at hb
  simp [IntKind.wrap, IntKind.bits, IntKind.signed]
  omega
 rw [hw]
 omega
def np (B : List Int) (c : Cur) : Int := if c.a < B.length then B.getD c.a.toNat 0 else 0
def aj3 (B : List Int) (c : Cur) : Int := IntKind.u64.wrap (IntKind.u64.wrap (IntKind.u64.wrap (c.s * 6364136223846793005) + IntKind.u64.wrap (np B c)) + 101717)
def r6 (B : List Int) (c : Cur) : Cur := ⟨c.a + 1, aj3 B c⟩
def pa (B : List Int) (c : Cur) : Int := if c.a < B.length then np B c else ai9 .u64 (aps .u64 (aj3 B c) 40) 255
theorem atf {B : List Int} (hB : CB B) {c : Cur} (h : 0 ≤ c.a) : 0 ≤ np B c ∧ np B c ≤ 255 := by
 unfold np
 split
 · have hi : c.a.toNat < B.length := by omega
   have := hB.2 _ (List.getElem_mem hi)
   simpa [List.getD, hi, u8R] using this
 · omega
theorem zp {B : List Int} (hB : CB B) {c : Cur} (h : 0 ≤ c.a) : 0 ≤ pa B c ∧ pa B c ≤ 255 := by
 unfold pa
 split
 · exact atf hB h
 · exact aj2 _
theorem anr {B : List Int} (hB : CB B) {c : Cur} (hc : c.le 4611686018427387904) : Ctr Tryz.prog 61 [.ptr 0 0] [some (c.cs B)] (.int .i64 (pa B c)) [some ((r6 B c).cs B)] := by
 obtain ⟨a, s⟩ := c
 obtain ⟨ha, hak⟩ := hc
 dsimp only at ha hak
 have hw : IntKind.i64.wrap (a + 1) = a + 1 := wrap_i64 (by omega) (by omega)
 have hbl := hB.1
 by_cases h1 : a < B.length
 · obtain ⟨i, rfl⟩ : ∃ i : Nat, a = i := ⟨a.toNat, by omega⟩
   have hi : i < B.length := by omega
   have hr := bw ByteS.csl hi
   obtain ⟨b0, b1⟩ : 0 ≤ B[i] ∧ B[i] ≤ 255 := by have := hB.2 _ (List.getElem_mem hi); simpa [u8R] using this
   have hwb : IntKind.i64.wrap B[i] = B[i] := wrap_i64 (by omega) (by omega)
   have hd : decide ((i : Int) < (B.length : Int)) = true := by simp; omega
   have hd2 : decide ((i : Int) + 1 ≤ (B.length : Int)) = true := by simp; omega
   have e1 : np B ⟨i, s⟩ = B[i] := by simp [np, h1, List.getD, hi]
   have e2 : pa B ⟨i, s⟩ = B[i] := by simp [pa, h1, e1]
   rw [r6, aj3, e1, e2]
   refine Ctr.intro Tryz.mixed Tryz.func61 rfl Tryz.axs ?_
   refine ev2 @Tryz.ntmps61 @Tryz.results61 ?_
   refine rn7 @Cur.cs.eq_1 @hw @hd @hd2 @hr @ByteS.cs.eq_1 @hwb ?_
   exact aj.refl _ _ _
 · have hd : decide (a < (B.length : Int)) = false := by simp; omega
   have hd2 : decide (a + 1 ≤ (B.length : Int)) = false := by simp; omega
   have e3 : pa B ⟨a, s⟩ = ai9 .u64 (aps .u64 (aj3 B ⟨a, s⟩) 40) 255 := by simp [pa, h1]
   have e4 : np B ⟨a, s⟩ = 0 := by simp [np, h1]
   rw [r6, e3]
   rw [aj3, e4]
   obtain ⟨e1, e2⟩ := aj2 (aps .u64 (IntKind.u64.wrap (IntKind.u64.wrap (IntKind.u64.wrap (s * 6364136223846793005) + IntKind.u64.wrap 0) + 101717)) 40)
   generalize hq : ai9 .u64 (aps .u64 (IntKind.u64.wrap (IntKind.u64.wrap (IntKind.u64.wrap (s * 6364136223846793005) + IntKind.u64.wrap 0) + 101717)) 40) 255 = q at e1 e2 ⊢
   have hwq : IntKind.i64.wrap q = q := wrap_i64 (by omega) (by omega)
   refine Ctr.intro Tryz.mixed Tryz.func61 rfl Tryz.axs ?_
   refine ev2 @Tryz.ntmps61 @Tryz.results61 ?_
   refine rn5 @Cur.cs.eq_1 @hw @hd @hd2 @hq ?_
   exact aj.refl _ _ _
def iy (B : List Int) (n : Int) (c : Cur) : Int := if n ≤ 1 then 0 else if 200 < n then (pa B c * 256 + pa B (r6 B c)).tmod n else (pa B c).tmod n
def fj (B : List Int) (n : Int) (c : Cur) : Cur := if n ≤ 1 then c else if 200 < n then r6 B (r6 B c) else r6 B c
theorem dt {B : List Int} {n k : Int} {c : Cur} (h : c.le k) : (fj B n c).le (k + 2) := by
 unfold fj r6 Cur.le at *
 split
 · omega
 · split <;> (simp only []; omega)
theorem fb {B : List Int} (hB : CB B) {n : Int} {c : Cur} (h : 0 ≤ c.a) : 0 ≤ iy B n c ∧ (1 ≤ n → iy B n c < n) := by
 have h1 := zp hB h
 have h2 := zp hB (c := r6 B c) (by simp [r6]; omega)
 unfold iy
 split
 · omega
 · split
   · exact ⟨Int.tmod_nonneg _ (by omega), fun _ => Int.tmod_lt_of_pos _ (by omega)⟩
   · exact ⟨Int.tmod_nonneg _ (by omega), fun _ => Int.tmod_lt_of_pos _ (by omega)⟩
theorem j6 {B : List Int} (hB : CB B) {c : Cur} (hc : c.le 4611686018427387903) (n : Int) (hn : n ≤ 1000000000) : Ctr Tryz.prog 29 [.ptr 0 0, .int .i64 n] [some (c.cs B)] (.int .i64 (iy B n c)) [some ((fj B n c).cs B)] := by
 obtain ⟨r1, r2⟩ := zp hB hc.1
 have hc1 : (r6 B c).le 4611686018427387904 := by obtain ⟨h, h'⟩ := hc; exact ⟨by simp [r6]; omega, by simp [r6]; omega⟩
 obtain ⟨q1, q2⟩ := zp hB hc1.1
 have p4 := anr hB (c := c) ⟨hc.1, by have := hc.2; omega⟩
 have q4 := anr hB hc1
 by_cases h1 : n ≤ 1
 · have hd : decide (n ≤ 1) = true := by simp [h1]
   rw [iy, fj, if_pos h1, if_pos h1]
   refine Ctr.intro Tryz.mixed Tryz.func29 rfl Tryz.aqm ?_
   refine ev2 @Tryz.ntmps29 @Tryz.results29 ?_
   refine rn1 @hd ?_
   exact aj.refl _ _ _
 have hd : decide (n ≤ 1) = false := by simp; omega
 by_cases h2 : 200 < n
 · have hd2 : decide (200 < n) = true := by simp [h2]
   have hw : IntKind.i64.wrap (pa B c * 256) = pa B c * 256 := wrap_i64 (by omega) (by omega)
   have hw2 : IntKind.i64.wrap (pa B c * 256 + pa B (r6 B c)) = pa B c * 256 + pa B (r6 B c) := wrap_i64 (by omega) (by omega)
   rw [iy, fj, if_neg h1, if_neg h1, if_pos h2, if_pos h2]
   refine Ctr.intro Tryz.mixed Tryz.func29 rfl Tryz.aqm ?_
   refine ev2 @Tryz.ntmps29 @Tryz.results29 ?_
   refine rn1 @hd ?_
   refine ai.dp [0] false p4 (by decide) ⟨leO, trivial⟩ (dm rfl) (il B _ _) (.inl rfl) ?_
   refine rn3 @hd2 @hw @Cur.ren ?_
   refine ai.dp [0] false q4 (by decide) ⟨leO, trivial⟩ (dm rfl) (il B _ _) (.inl rfl) ?_
   refine rn2 @hw2 @Cur.ren ?_
   exact aj.refl _ _ _
 · have hd2 : decide (200 < n) = false := by simp [h2]
   rw [iy, fj, if_neg h1, if_neg h1, if_neg h2, if_neg h2]
   refine Ctr.intro Tryz.mixed Tryz.func29 rfl Tryz.aqm ?_
   refine ev2 @Tryz.ntmps29 @Tryz.results29 ?_
   refine rn1 @hd ?_
   refine ai.dp [0] false p4 (by decide) ⟨leO, trivial⟩ (dm rfl) (il B _ _) (.inl rfl) ?_
   refine rn2 @hd2 @Cur.ren ?_
   exact aj.refl _ _ _
theorem gj {B : List Int} (hB : CB B) {c : Cur} {k : Int} (hc : c.le k) (hk : k ≤ 4000000) (n : Int) (hn : n ≤ 1000000000) {t : List V} {h : Hp} {kk : Nat} {dst : Option Tmp} {Q : St → Prop} {x : Tag Q} {ci : Nat} (h0 : h[ci]? = some (some (c.cs B)))
 (hq : ∀ (v : Int) (c' : Cur), (0 ≤ v ∧ (1 ≤ n → v < n)) → c'.le (k + 2) → Q (tj ⟨t, h, kk⟩ dst [ci] (.int .i64 v) [some (c'.cs B)])) : ai Tryz.prog ⟨t, h, kk⟩ dst (.fn (.func 29) [] []) [.ptr ci 0, .int .i64 n] Q x :=
 ai.dp [ci] false (j6 hB ⟨hc.1, by have := hc.2; omega⟩ n hn) (by simp) ⟨by simp [ren, bb, posOf, LeV], leO, trivial⟩ (dm h0) (il B _ _) (.inl rfl) (hq _ _ (fb hB hc.1) (dt hc))
def oneV (B : List Int) (n : Int) (c : Cur) : Bool := iy B n c == 0
theorem aqf {B : List Int} (hB : CB B) {c : Cur} (hc : c.le 4611686018427387903) (n : Int) (hn : n ≤ 1000000000) : Ctr Tryz.prog 28 [.ptr 0 0, .int .i64 n] [some (c.cs B)] (.bool (oneV B n c)) [some ((fj B n c).cs B)] := by
 refine Ctr.intro Tryz.mixed Tryz.func28 rfl Tryz.a5p ?_
 refine ev2 @Tryz.ntmps28 @Tryz.results28 ?_
 refine rn0 ?_
 refine ai.dp [0] false (j6 hB hc n hn) (by decide) ⟨leO, leO, trivial⟩ (dm rfl) (il B _ _) (.inl rfl) ?_
 refine rn1 @Cur.ren ?_
 exact aj.refl _ _ _
theorem eb {B : List Int} (hB : CB B) {c : Cur} {k : Int} (hc : c.le k) (hk : k ≤ 4000000) (n : Int) (hn : n ≤ 1000000000) {t : List V} {h : Hp} {kk : Nat} {dst : Option Tmp} {Q : St → Prop} {x : Tag Q} {ci : Nat} (h0 : h[ci]? = some (some (c.cs B)))
 (hq : ∀ (v : Bool) (c' : Cur), c'.le (k + 2) → Q (tj ⟨t, h, kk⟩ dst [ci] (.bool v) [some (c'.cs B)])) : ai Tryz.prog ⟨t, h, kk⟩ dst (.fn (.func 28) [] []) [.ptr ci 0, .int .i64 n] Q x :=
 ai.dp [ci] false (aqf hB ⟨hc.1, by have := hc.2; omega⟩ n hn) (by simp) ⟨by simp [ren, bb, posOf, LeV], leO, trivial⟩ (dm h0) (il B _ _) (.inl rfl) (hq _ _ (dt hc))
def nb (B : List Int) (K : List Int) (c : Cur) : Int := K.getD (iy B K.length c).toNat 0
theorem mh {B : List Int} (hB : CB B) {K : List Int} (hK : 0 < K.length) {c : Cur} (h : 0 ≤ c.a) : nb B K c ∈ K := by
 obtain ⟨h1, h2⟩ := fb hB (n := K.length) h
 have hi : (iy B K.length c).toNat < K.length := by omega
 simp [nb, List.getD, hi]
theorem o6 {B : List Int} (hB : CB B) {c : Cur} (hc : c.le 4611686018427387903) (K : List Int) (hK0 : 0 < K.length) (hK : K.length ≤ 1000000000) : Ctr Tryz.prog 98 [.ptr 0 0, .osl 1 0 K.length 1] [some (c.cs B), some (rows IntS.cs K)] (.int .i64 (nb B K c)) [some ((fj B K.length c).cs B), some (rows IntS.cs K)] := by
 obtain ⟨h1, h2⟩ := fb hB (n := K.length) hc.1
 obtain ⟨i, hi'⟩ : ∃ i : Nat, iy B K.length c = i := ⟨(iy B K.length c).toNat, by omega⟩
 have hi : i < K.length := by omega
 have hr := bw IntS.csl hi
 have e : nb B K c = K[i] := by simp [nb, hi', List.getD, hi]
 have hp := j6 hB hc K.length (by omega)
 rw [hi'] at hp
 rw [e]
 refine Ctr.intro Tryz.mixed Tryz.func98 rfl Tryz.a5v ?_
 refine ev2 @Tryz.ntmps98 @Tryz.results98 ?_
 refine rn0 ?_
 refine ai.dp [0] false hp (by decide) ⟨leO, leO, trivial⟩ (dm rfl) (il B _ _) (.inl rfl) ?_
 refine rn3 @Cur.ren @hr @IntS.cs.eq_1 ?_
 exact aj.refl _ _ _
theorem an {B : List Int} (hB : CB B) {c : Cur} {k : Int} (hc : c.le k) (hk : k ≤ 4000000) (K : List Int) (hK0 : 0 < K.length) (hK : K.length ≤ 1000000000) {t : List V} {h : Hp} {kk : Nat} {dst : Option Tmp} {Q : St → Prop} {x : Tag Q} {ci : Nat} (h0 : h[ci]? = some (some (c.cs B))) {i : Nat} (h1 : h[i]? = some (some (rows IntS.cs K))) (hne : (ci == i) = false)
 (hq : ∀ (v : Int) (c' : Cur), v ∈ K → c'.le (k + 2) → Q (tj ⟨t, h, kk⟩ dst [ci, i] (.int .i64 v) [some (c'.cs B), some (rows IntS.cs K)])) : ai Tryz.prog ⟨t, h, kk⟩ dst (.fn (.func 98) [] []) [.ptr ci 0, .osl i 0 K.length 1] Q x := by
 have hn : ci ≠ i := by simpa using hne
 have hn' : (i == ci) = false := by simpa using Ne.symm hn
 exact ai.dp [ci, i] false (o6 hB ⟨hc.1, by have := hc.2; omega⟩ K hK0 hK) (by simp [hn]) ⟨by simp [ren, bb, posOf, LeV], by simp [ren, bb, posOf, LeV, Ne.symm hn], trivial⟩ (br h0 h1) (bq B _ _) (.inl rfl) (hq _ _ (mh hB hK0 hc.1) (dt hc))
end Go.Proofs
end
section
set_option maxRecDepth 100000
namespace Go.Proofs
open Go.Lv
def ep (n a b : Int) : Bool := decide (a ≤ n) && decide (n ≤ b)
theorem gg {n a b : Int} : ep n a b = true ↔ a ≤ n ∧ n ≤ b := by simp [ep]
theorem j4 (n a b : Int) : Ctr Tryz.prog 57 [.int .i64 n, .int .i64 a, .int .i64 b] [] (.bool (ep n a b)) [] := by
 refine Ctr.intro Tryz.mixed Tryz.func57 rfl Tryz.a8a ?_
 refine ev2 @Tryz.ntmps57 @Tryz.results57 ?_
 refine ax.bz (fun h1 => ?_) (fun h1 => ?_) <;> refine ev1 @h1 ?_
 · exact aj.of_eq (by simp [ep, h1])
 · exact aj.of_eq (by simp [ep, h1])
theorem ef (n a b : Int) : Ctr Tryz.prog 104 [.int .i64 n, .int .i64 a, .int .i64 b] [] (.bool (ep n a b)) [] := by
 refine Ctr.intro Tryz.mixed Tryz.func104 rfl Tryz.a0q ?_
 refine ev2 @Tryz.ntmps104 @Tryz.results104 ?_
 refine ax.bz (fun h1 => ?_) (fun h1 => ?_) <;> refine ev1 @h1 ?_
 · exact aj.of_eq (by simp [ep, h1])
 · exact aj.of_eq (by simp [ep, h1])
theorem ace {α : Type} {p : α → Bool} {k : α → Int} {m : Nat} {L : List α} (h : ij p k m L = true) : (∀ x ∈ L, p x = true) ∧ L.length ≤ m := by
 simp only [ij, Bool.and_eq_true, decide_eq_true_eq, List.all_eq_true, List.mem_range] at h
 refine ⟨fun x hx => ?_, h.2⟩
 obtain ⟨i, hi, rfl⟩ := List.getElem_of_mem hx
 have := h.1 i hi
 simp only [gy, List.getElem?_eq_getElem hi, Bool.and_eq_true] at this
 exact this.1
theorem ad6 {α : Type} {p : α → Bool} {k : α → Int} {m : Nat} {L : List α} (h : ij p k m L = true) : (L.map k).Pairwise (· < ·) := by
 simp only [ij, Bool.and_eq_true, List.all_eq_true, List.mem_range] at h
 have adj : ∀ j, (hj : j + 1 < L.length) → k (L[j]'(by omega)) < k L[j + 1] := by
  intro j hj
  have := h.1 (j + 1) hj
  rw [ik hj] at this
  simp at this
  exact this.2
 rw [List.pairwise_iff_getElem]
 intro i j hi hj hij
 simp only [List.length_map] at hi hj
 simp only [List.getElem_map]
 induction j with
 | zero => omega
 | succ j ih =>
  have h1 := adj j hj
  rcases Nat.lt_succ_iff_lt_or_eq.1 hij with h2 | h2
  · have := ih (by simpa using (by omega : j < L.length)) h2 (by omega)
    omega
  · subst h2; exact h1
end Go.Proofs
end
section
set_option maxRecDepth 100000
namespace Go.Proofs
open Go.Lv
def aja (x y : Int) : Bool := ep x 0 999 && ep y 0 999
theorem aha (n : Int) : Ctr Tryz.prog 91 [.int .i64 n] [] (.bool (ep n 0 1000000)) [] := by
 refine Ctr.intro Tryz.mixed Tryz.func91 rfl Tryz.a6g ?_
 refine ev2 @Tryz.ntmps91 @Tryz.results91 ?_
 repeat' (first | (refine aj.au ?_ (by rfl); first | rfl | (simp [aja, *]; done)) | ((first | refine ak.at (j4 _ _ _) ⟨leA, leA, leA, trivial⟩ ?_ | refine ai.at (j4 _ _ _) ⟨leA, leA, leA, trivial⟩ ?_); simp -implicitDefEqProofs -dsimp only [go_sem, *]) | (refine ax.bz (fun _ => ?_) (fun _ => ?_) <;> simp -implicitDefEqProofs -dsimp only [go_sem, *]) | (refine ax.cu (fun _ => ?_) (fun _ => ?_) <;> simp -implicitDefEqProofs -dsimp only [go_sem, *]) | (refine aw.split (fun _ => ?_) (fun _ => ?_) <;> simp -implicitDefEqProofs -dsimp only [go_sem, *]))
theorem ahd (n : Int) : Ctr Tryz.prog 119 [.int .i64 n] [] (.bool (ep n 0 1000000)) [] := by
 refine Ctr.intro Tryz.mixed Tryz.func119 rfl Tryz.aya ?_
 refine ev2 @Tryz.ntmps119 @Tryz.results119 ?_
 repeat' (first | (refine aj.au ?_ (by rfl); first | rfl | (simp [aja, *]; done)) | ((first | refine ak.at (ef _ _ _) ⟨leA, leA, leA, trivial⟩ ?_ | refine ai.at (ef _ _ _) ⟨leA, leA, leA, trivial⟩ ?_); simp -implicitDefEqProofs -dsimp only [go_sem, *]) | (refine ax.bz (fun _ => ?_) (fun _ => ?_) <;> simp -implicitDefEqProofs -dsimp only [go_sem, *]) | (refine ax.cu (fun _ => ?_) (fun _ => ?_) <;> simp -implicitDefEqProofs -dsimp only [go_sem, *]) | (refine aw.split (fun _ => ?_) (fun _ => ?_) <;> simp -implicitDefEqProofs -dsimp only [go_sem, *]))
theorem wz (n : Int) : Ctr Tryz.prog 88 [.int .i64 n] [] (.bool (ep n 1 99)) [] := by
 refine Ctr.intro Tryz.mixed Tryz.func88 rfl Tryz.a8i ?_
 refine ev2 @Tryz.ntmps88 @Tryz.results88 ?_
 repeat' (first | (refine aj.au ?_ (by rfl); first | rfl | (simp [aja, *]; done)) | ((first | refine ak.at (j4 _ _ _) ⟨leA, leA, leA, trivial⟩ ?_ | refine ai.at (j4 _ _ _) ⟨leA, leA, leA, trivial⟩ ?_); simp -implicitDefEqProofs -dsimp only [go_sem, *]) | (refine ax.bz (fun _ => ?_) (fun _ => ?_) <;> simp -implicitDefEqProofs -dsimp only [go_sem, *]) | (refine ax.cu (fun _ => ?_) (fun _ => ?_) <;> simp -implicitDefEqProofs -dsimp only [go_sem, *]) | (refine aw.split (fun _ => ?_) (fun _ => ?_) <;> simp -implicitDefEqProofs -dsimp only [go_sem, *]))
theorem nh (n : Int) : Ctr Tryz.prog 90 [.int .i64 n] [] (.bool (ep n (-20) 95)) [] := by
 refine Ctr.intro Tryz.mixed Tryz.func90 rfl Tryz.a74 ?_
 refine ev2 @Tryz.ntmps90 @Tryz.results90 ?_
 repeat' (first | (refine aj.au ?_ (by rfl); first | rfl | (simp [aja, *]; done)) | ((first | refine ak.at (j4 _ _ _) ⟨leA, leA, leA, trivial⟩ ?_ | refine ai.at (j4 _ _ _) ⟨leA, leA, leA, trivial⟩ ?_); simp -implicitDefEqProofs -dsimp only [go_sem, *]) | (refine ax.bz (fun _ => ?_) (fun _ => ?_) <;> simp -implicitDefEqProofs -dsimp only [go_sem, *]) | (refine ax.cu (fun _ => ?_) (fun _ => ?_) <;> simp -implicitDefEqProofs -dsimp only [go_sem, *]) | (refine aw.split (fun _ => ?_) (fun _ => ?_) <;> simp -implicitDefEqProofs -dsimp only [go_sem, *]))
end Go.Proofs
end
section
set_option maxRecDepth 100000
namespace Go.Proofs
open Go.Lv
structure bc where
 Station : Int
 Up : Bool
 Since : Int
def bc.cs (r : bc) : List V := [.int .i64 r.Station, .bool r.Up, .int .i64 r.Since]
def bc.v (r : bc) : V := .agg [.int .i64 r.Station, .bool r.Up, .int .i64 r.Since]
theorem bc.csl (a : bc) : a.cs.length = 3 := rfl
instance : r3 bc.cs 3 := ⟨fun _ => rfl, fun _ d => by cases d <;> rfl, fun _ => rfl, fun _ => rfl⟩
def bc.ok (r : bc) : Prop := bu r.Station ∧ bu r.Since
abbrev bc.rows (L : List bc) : List V := Go.Lv.rows bc.cs L
abbrev bc.sl (L : List bc) : V := .sl L.length 3 (Go.Lv.rows bc.cs L)
abbrev bc.zs : List V := [.int .i64 0, .bool false, .int .i64 0]
def bc.mk1 (k : Int) : bc := ⟨k, ((k + 1).tmod 3 == 0), k + 1 + 1⟩
def bc.marks (k : Int) (n : Nat) : List bc := (List.range n).map fun i : Nat => bc.mk1 (k + 3 * (i : Int))
@[simp] theorem bc.uq (k : Int) (n : Nat) : (bc.marks k n).length = n := by simp [bc.marks]
theorem uc (L : List bc) (p : bc → Bool) (key : bc → Int) (most : Int) (fv fk : Nat) (vc kc : List V) (hvc : ∀ d, vc.all (de d) = true) (hkc : ∀ d, kc.all (de d) = true) (hv : ∀ x, Ctr Tryz.prog fv (bc.v x :: vc) [] (.bool (p x)) []) (hkey : ∀ x, Ctr Tryz.prog fk (bc.v x :: kc) [] (.int .i64 (key x)) []) (m : Nat) (hm : most = m) (hl : L.length ≤ 281474976710656) :
 Ctr Tryz.prog 92 [bc.sl L, .int .i64 most, .fn (.func fv) [] vc, .fn (.func fk) [] kc] [] (.bool (ij p key m L)) [] := by
 subst hm
 refine Ctr.intro Tryz.mixed Tryz.func92 rfl Tryz.a6r ?_
 refine ev2 @Tryz.ntmps92 @Tryz.results92 ?_
 have hvc2 : ∀ f d, vc.map (ren f d) = vc := fun f d => sg f (hvc d)
 have hkc2 : ∀ f d, kc.map (ren f d) = kc := fun f d => sg f (hkc d)
 refine dn.intro (fun i : Nat => i ≤ L.length ∧ (List.range i).all (gy p key L) = true) (fun i => ⟨(bc.sl L :: .int .i64 m :: .fn (.func fv) [] vc :: .fn (.func fk) [] kc :: (un 7 (bc.sl L :: .int .i64 L.length :: .int .i64 i :: (un 30 [])))), [], 0⟩) (fun i => L.length - i) 0 ⟨Nat.zero_le _, rfl⟩ ?_ (fun i hi => ?_)
 · refine bo.cut (0) (by simp) (by simp) ?_ ?_
   · simp [LeC, LeV, ren, bh, hvc2, hkc2]
   · rfl
 refine ev0 ?_
 refine aw.split (fun h1 => ?_) (fun h1 => ?_)
 · refine ev1 @h1 ?_
   have hi' : i < L.length := by simpa using h1
   have h5 := bc.csl L[i]
   have hr := bw bc.csl hi'
   refine ew2 @hr @bc.cs.eq_1 ?_
   repeat (with_reducible refine df ?_)
   refine ak.intro (hv L[i]) ⟨.inl rfl, ln (hvc2 _ _)⟩ (.inl (by simp only [List.nil_append, List.cons_append, List.all_cons, hvc, Bool.and_true]; rfl)) ⟨uj (hvc 3), rfl⟩ ?_
   refine ev0 ?_
   refine ax.cu (fun h2 => ?_) (fun h2 => ?_) <;> refine ev1 @h2 ?_
   · have hw : p L[i] = true := by simpa using h2
     refine ax.bz (fun h3 => ?_) (fun h3 => ?_) <;> refine ev1 @h3 ?_
     · obtain ⟨j, rfl⟩ : ∃ j, i = j + 1 := ⟨i - 1, by simp at h3; omega⟩
       have hj : j < L.length := by omega
       refine ak.intro (hkey L[j + 1]) ⟨.inl rfl, ln (hkc2 _ _)⟩ (.inl (by simp only [List.nil_append, List.cons_append, List.all_cons, hkc, Bool.and_true]; rfl)) ⟨uj (hkc 3), rfl⟩ ?_
       have hw1 : IntKind.i64.wrap (((j + 1 : Nat) : Int) - 1) = (j : Int) := by rw [wrap_i64 (by omega) (by omega)]; omega
       have hr2 := bw bc.csl hj
       refine ew3 @hw1 @hr2 @bc.cs.eq_1 ?_
       repeat (with_reducible refine df ?_)
       refine ak.intro (hkey L[j]) ⟨.inl rfl, ln (hkc2 _ _)⟩ (.inl (by simp only [List.nil_append, List.cons_append, List.all_cons, hkc, Bool.and_true]; rfl)) ⟨uj (hkc 3), rfl⟩ ?_
       refine ew0 ?_
       refine aw.split (fun h4 => ?_) (fun h4 => ?_) <;> refine ev1 @h4 ?_
       · refine aj.au ?_ rfl
         have hq : gy p key L (j + 1) = false := by
          rw [ik hi', hw]
          simp at h4 ⊢
          omega
         rw [j0 hi' hq]
       · refine ⟨j + 1 + 1, ⟨hi', gw hi.2 (by rw [ik hi', hw]; simp at h4 ⊢; omega)⟩, ?_, by omega⟩
         refine bo.cut (0) (by simp) (by simp) ?_ ?_
         · rw [wrap_i64 (by omega) (by omega)]
           simp [LeC, LeV, ren, bh, hvc2, hkc2]
         · rfl
     · have h0 : i = 0 := by simp at h3; omega
       refine ⟨i + 1, ⟨hi', gw hi.2 (by subst h0; rw [kx hi', hw])⟩, ?_, by omega⟩
       refine bo.cut (0) (by simp) (by simp) ?_ ?_
       · rw [wrap_i64 (by omega) (by omega)]
         simp [LeC, LeV, ren, bh, hvc2, hkc2]
       · rfl
   · have hw : p L[i] = false := by simpa using h2
     refine aj.au ?_ rfl
     have hq : gy p key L i = false := by simp [gy, hi', hw]
     rw [j0 hi' hq]
 · refine ev1 @h1 ?_
   refine aj.au ?_ rfl
   have : i = L.length := by simp at h1; omega
   subst this
   rw [ij, hi.2]
   simp
   try omega
end Go.Proofs
end
section
set_option maxRecDepth 100000
namespace Go.Proofs
open Go.Lv
structure al where
 Number : Int
 State : Int
 Seen : Int
 Size : Int
 Tick : Int
def al.cs (r : al) : List V := [.int .i64 r.Number, .int .i64 r.State, .int .i64 r.Seen, .int .i64 r.Size, .int .i64 r.Tick]
def al.v (r : al) : V := .agg [.int .i64 r.Number, .int .i64 r.State, .int .i64 r.Seen, .int .i64 r.Size, .int .i64 r.Tick]
theorem al.csl (a : al) : a.cs.length = 5 := rfl
instance : r3 al.cs 5 := ⟨fun _ => rfl, fun _ d => by cases d <;> rfl, fun _ => rfl, fun _ => rfl⟩
def al.ok (r : al) : Prop := bu r.Number ∧ bu r.State ∧ bu r.Seen ∧ bu r.Size ∧ bu r.Tick
abbrev al.rows (L : List al) : List V := Go.Lv.rows al.cs L
abbrev al.sl (L : List al) : V := .sl L.length 5 (Go.Lv.rows al.cs L)
abbrev al.zs : List V := [.int .i64 0, .int .i64 0, .int .i64 0, .int .i64 0, .int .i64 0]
def al.mk1 (k : Int) : al := ⟨k, k + 1, k + 1 + 1, k + 1 + 1 + 1, k + 1 + 1 + 1 + 1⟩
def al.marks (k : Int) (n : Nat) : List al := (List.range n).map fun i : Nat => al.mk1 (k + 5 * (i : Int))
@[simp] theorem al.uq (k : Int) (n : Nat) : (al.marks k n).length = n := by simp [al.marks]
theorem s7 (L : List al) (p : al → Bool) (key : al → Int) (most : Int) (fv fk : Nat) (vc kc : List V) (hvc : ∀ d, vc.all (de d) = true) (hkc : ∀ d, kc.all (de d) = true) (hv : ∀ x, Ctr Tryz.prog fv (al.v x :: vc) [] (.bool (p x)) []) (hkey : ∀ x, Ctr Tryz.prog fk (al.v x :: kc) [] (.int .i64 (key x)) []) (m : Nat) (hm : most = m) (hl : L.length ≤ 281474976710656) :
 Ctr Tryz.prog 94 [al.sl L, .int .i64 most, .fn (.func fv) [] vc, .fn (.func fk) [] kc] [] (.bool (ij p key m L)) [] := by
 subst hm
 refine Ctr.intro Tryz.mixed Tryz.func94 rfl Tryz.a62 ?_
 refine ev2 @Tryz.ntmps94 @Tryz.results94 ?_
 have hvc2 : ∀ f d, vc.map (ren f d) = vc := fun f d => sg f (hvc d)
 have hkc2 : ∀ f d, kc.map (ren f d) = kc := fun f d => sg f (hkc d)
 refine dn.intro (fun i : Nat => i ≤ L.length ∧ (List.range i).all (gy p key L) = true) (fun i => ⟨(al.sl L :: .int .i64 m :: .fn (.func fv) [] vc :: .fn (.func fk) [] kc :: (un 7 (al.sl L :: .int .i64 L.length :: .int .i64 i :: (un 30 [])))), [], 0⟩) (fun i => L.length - i) 0 ⟨Nat.zero_le _, rfl⟩ ?_ (fun i hi => ?_)
 · refine bo.cut (0) (by simp) (by simp) ?_ ?_
   · simp [LeC, LeV, ren, bh, hvc2, hkc2]
   · rfl
 refine ev0 ?_
 refine aw.split (fun h1 => ?_) (fun h1 => ?_)
 · refine ev1 @h1 ?_
   have hi' : i < L.length := by simpa using h1
   have h5 := al.csl L[i]
   have hr := bw al.csl hi'
   refine ew2 @hr @al.cs.eq_1 ?_
   repeat (with_reducible refine df ?_)
   refine ak.intro (hv L[i]) ⟨.inl rfl, ln (hvc2 _ _)⟩ (.inl (by simp only [List.nil_append, List.cons_append, List.all_cons, hvc, Bool.and_true]; rfl)) ⟨uj (hvc 3), rfl⟩ ?_
   refine ev0 ?_
   refine ax.cu (fun h2 => ?_) (fun h2 => ?_) <;> refine ev1 @h2 ?_
   · have hw : p L[i] = true := by simpa using h2
     refine ax.bz (fun h3 => ?_) (fun h3 => ?_) <;> refine ev1 @h3 ?_
     · obtain ⟨j, rfl⟩ : ∃ j, i = j + 1 := ⟨i - 1, by simp at h3; omega⟩
       have hj : j < L.length := by omega
       refine ak.intro (hkey L[j + 1]) ⟨.inl rfl, ln (hkc2 _ _)⟩ (.inl (by simp only [List.nil_append, List.cons_append, List.all_cons, hkc, Bool.and_true]; rfl)) ⟨uj (hkc 3), rfl⟩ ?_
       have hw1 : IntKind.i64.wrap (((j + 1 : Nat) : Int) - 1) = (j : Int) := by rw [wrap_i64 (by omega) (by omega)]; omega
       have hr2 := bw al.csl hj
       refine ew3 @hw1 @hr2 @al.cs.eq_1 ?_
       repeat (with_reducible refine df ?_)
       refine ak.intro (hkey L[j]) ⟨.inl rfl, ln (hkc2 _ _)⟩ (.inl (by simp only [List.nil_append, List.cons_append, List.all_cons, hkc, Bool.and_true]; rfl)) ⟨uj (hkc 3), rfl⟩ ?_
       refine ew0 ?_
       refine aw.split (fun h4 => ?_) (fun h4 => ?_) <;> refine ev1 @h4 ?_
       · refine aj.au ?_ rfl
         have hq : gy p key L (j + 1) = false := by
          rw [ik hi', hw]
          simp at h4 ⊢
          omega
         rw [j0 hi' hq]
       · refine ⟨j + 1 + 1, ⟨hi', gw hi.2 (by rw [ik hi', hw]; simp at h4 ⊢; omega)⟩, ?_, by omega⟩
         refine bo.cut (0) (by simp) (by simp) ?_ ?_
         · rw [wrap_i64 (by omega) (by omega)]
           simp [LeC, LeV, ren, bh, hvc2, hkc2]
         · rfl
     · have h0 : i = 0 := by simp at h3; omega
       refine ⟨i + 1, ⟨hi', gw hi.2 (by subst h0; rw [kx hi', hw])⟩, ?_, by omega⟩
       refine bo.cut (0) (by simp) (by simp) ?_ ?_
       · rw [wrap_i64 (by omega) (by omega)]
         simp [LeC, LeV, ren, bh, hvc2, hkc2]
       · rfl
   · have hw : p L[i] = false := by simpa using h2
     refine aj.au ?_ rfl
     have hq : gy p key L i = false := by simp [gy, hi', hw]
     rw [j0 hi' hq]
 · refine ev1 @h1 ?_
   refine aj.au ?_ rfl
   have : i = L.length := by simp at h1; omega
   subst this
   rw [ij, hi.2]
   simp
   try omega
theorem wv (L : List al) (p : al → Bool) (fv : Nat) (vc : List V) (hvc : ∀ d, vc.all (de d) = true) (hv : ∀ x, Ctr Tryz.prog fv (al.v x :: vc) [] (.bool (p x)) []) (hl : L.length ≤ 16777216) :
 Ctr Tryz.prog 149 [al.sl L, .fn (.func fv) [] vc] [] (.osl 0 0 (L.filter p).length 5) [some (rows al.cs (L.filter p))] := by
 refine Ctr.intro Tryz.mixed Tryz.func149 rfl Tryz.azb ?_
 refine ev2 @Tryz.ntmps149 @Tryz.results149 ?_
 have hvc2 : ∀ f d, vc.map (ren f d) = vc := fun f d => sg f (hvc d)
 have hstep : ∀ {i : Nat} (hi : i < L.length), (L.take (i + 1)).filter p = (L.take i).filter p ++ if p L[i] then [L[i]] else [] := fun {i} hi => by
  rw [List.take_succ_eq_append_getElem hi, List.filter_append]
  congr 1
  cases h : p L[i] <;> simp [h]
 refine dn.intro (fun i : Nat => i ≤ L.length) (fun i => ⟨(.undef :: .fn (.func fv) [] vc :: (un 3 (.osl 0 0 ((L.take i).filter p).length 5 :: (un 3 (al.sl L :: .int .i64 L.length :: .int .i64 i :: (un 12 [])))))), [some (rows al.cs ((L.take i).filter p))], 0⟩) (fun i => L.length - i) 0 (Nat.zero_le _) ?_ (fun i hi => ?_)
 · refine bo.cut (1) (by simp) (by simp) ?_ ?_
   · simp [LeC, LeV, ren, bh, hvc2]
   · simp [cb, ck, rows]
 refine ev0 ?_
 refine aw.split (fun h1 => ?_) (fun h1 => ?_)
 · refine ev1 @h1 ?_
   have hi' : i < L.length := by simpa using h1
   have hf : ((L.take i).filter p).length ≤ i := Nat.le_trans (List.length_filter_le _ _) (by simp; omega)
   have h5 := al.csl L[i]
   have hr := bw al.csl hi'
   refine ew2 @hr @al.cs.eq_1 ?_
   repeat (with_reducible refine df ?_)
   refine ai.intro (hv L[i]) ⟨.inl rfl, ln (hvc2 _ _)⟩ (.inl (by simp only [List.nil_append, List.cons_append, List.all_cons, hvc, Bool.and_true]; rfl)) ?_
   refine ev0 ?_
   refine aw.split (fun h2 => ?_) (fun h2 => ?_) <;> refine ev1 @h2 ?_
   · try refine ew6 @ay @Nat.mul_one @bf @List.length_append.{0} @List.length_cons.{0} @List.length_nil.{0} ?_
     repeat (with_reducible refine df ?_)
     refine ⟨i + 1, hi', ?_, by omega⟩
     refine bo.cut (1) (by simp) (by simp) ?_ ?_
     · rw [hstep hi', h2]
       simp [LeC, LeV, ren, bh, hvc2]
     · rw [hstep hi', h2, if_pos rfl, ← dy]
       simp [cb, ck, ab, dj, ren, al.cs]
   · refine ⟨i + 1, hi', ?_, by omega⟩
     refine bo.cut (1) (by simp) (by simp) ?_ ?_
     · rw [hstep hi', h2, wrap_i64 (by omega) (by omega)]
       simp [LeC, LeV, ren, bh, hvc2]
     · rw [hstep hi', h2]
       simp [cb, ck, ab]
 · refine ev1 @h1 ?_
   have hi' : i = L.length := by simp at h1; omega
   subst hi'
   rw [List.take_length]
   exact aj.refl _ _ _
end Go.Proofs
end
section
set_option maxRecDepth 100000
namespace Go.Proofs
open Go.Lv
structure ae where
 Now : Int
 Posts : List bc
 Shocks : List al
 Next : Int
 Archived : Int
def ae.cs (r : ae) : List V := [.int .i64 r.Now, .sl r.Posts.length 3 (Go.Lv.rows bc.cs r.Posts), .sl r.Shocks.length 5 (Go.Lv.rows al.cs r.Shocks), .int .i64 r.Next, .int .i64 r.Archived]
def ae.v (r : ae) : V := .agg [.int .i64 r.Now, .sl r.Posts.length 3 (Go.Lv.rows bc.cs r.Posts), .sl r.Shocks.length 5 (Go.Lv.rows al.cs r.Shocks), .int .i64 r.Next, .int .i64 r.Archived]
def ae.o (r : ae) (i0 i1 : Nat) : V := .agg [.int .i64 r.Now, .osl i0 0 r.Posts.length 3, .osl i1 0 r.Shocks.length 5, .int .i64 r.Next, .int .i64 r.Archived]
theorem ae.csl (a : ae) : a.cs.length = 5 := rfl
def ae.ok (r : ae) : Prop := bu r.Now ∧ afz bc.ok r.Posts ∧ afz al.ok r.Shocks ∧ bu r.Next ∧ bu r.Archived
theorem ae.le {h : Hp} {r : ae} {i0 i1 : Nat} (h0 : h[i0]? = some (some (rows bc.cs r.Posts))) (h1 : h[i1]? = some (some (rows al.cs r.Shocks))) : LeV (ren (fh h 3) 3 (r.o i0 i1)) r.v := by
 refine .inl ?_
 simp only [ae.o, ae.v, ren, List.map_cons, List.map_nil, fh, h0, h1, ab, List.drop_zero, db]
end Go.Proofs
end
section
set_option maxRecDepth 100000
namespace Go.Proofs
open Go.Lv
def sx (now : Int) (p : bc) : Bool := ep p.Station 1 99 && ep p.Since 0 now
def lh (next now : Int) (x : al) : Bool := ep x.Number 1 (next - 1) && ep x.State 0 3 && ep x.Seen 0 8 && ep x.Size (-20) 95 && (x.State != 0 || x.Size == 0) && ep x.Tick 0 now
def ji (w : ae) : Bool := ep w.Now 0 1000000 && ep w.Next 1 999 && ep w.Archived 0 999
def wB (w : ae) : Bool := ji w && ij (sx w.Now) bc.Station 8 w.Posts && ij (lh w.Next w.Now) al.Number 6 w.Shocks
theorem xm {w : ae} : ji w = true ↔ (0 ≤ w.Now ∧ w.Now ≤ 1000000) ∧ (1 ≤ w.Next ∧ w.Next ≤ 999) ∧ 0 ≤ w.Archived ∧ w.Archived ≤ 999 := by simp [ji, ep, and_assoc]
theorem mn {now : Int} {p : bc} : sx now p = true ↔ (1 ≤ p.Station ∧ p.Station ≤ 99) ∧ 0 ≤ p.Since ∧ p.Since ≤ now := by simp [sx, ep, and_assoc]
theorem gk {next now : Int} {x : al} : lh next now x = true ↔ (1 ≤ x.Number ∧ x.Number ≤ next - 1) ∧ (0 ≤ x.State ∧ x.State ≤ 3) ∧ (0 ≤ x.Seen ∧ x.Seen ≤ 8) ∧ (-20 ≤ x.Size ∧ x.Size ≤ 95) ∧ (x.State ≠ 0 ∨ x.Size = 0) ∧ 0 ≤ x.Tick ∧ x.Tick ≤ now := by
 simp [lh, ep, and_assoc]
structure auk (w : ae) : Prop where
 now : 0 ≤ w.Now ∧ w.Now ≤ 1000000
 next : 1 ≤ w.Next ∧ w.Next ≤ 999
 arch : 0 ≤ w.Archived ∧ w.Archived ≤ 999
 posts : ∀ p ∈ w.Posts, sx w.Now p = true
 plen : w.Posts.length ≤ 8
 shocks : ∀ x ∈ w.Shocks, lh w.Next w.Now x = true
 slen : w.Shocks.length ≤ 6
 pasc : (w.Posts.map bc.Station).Pairwise (· < ·)
 sasc : (w.Shocks.map al.Number).Pairwise (· < ·)
theorem ew {w : ae} (h : wB w = true) : auk w := by
 simp only [wB, Bool.and_eq_true] at h
 obtain ⟨⟨h1, h2⟩, h3⟩ := h
 obtain ⟨a, b, c⟩ := xm.1 h1
 obtain ⟨d, e⟩ := ace h2
 obtain ⟨f, g⟩ := ace h3
 exact ⟨a, b, c, d, e, f, g, ad6 h2, ad6 h3⟩
theorem ag2 (w : ae) (p : bc) : Ctr Tryz.prog 87 [p.v, .pt w.cs] [] (.bool (sx w.Now p)) [] := by
 refine Ctr.intro Tryz.mixed Tryz.func87 rfl Tryz.a5z ?_
 refine ev2 @Tryz.ntmps87 @Tryz.results87 ?_
 refine ev2 @bc.v.eq_1 @ae.cs.eq_1 ?_
 repeat' (first | (refine aj.au ?_ (by rfl); first | rfl | (simp [sx, *]; done)) | ((first | refine ak.at (j4 _ _ _) ⟨leA, leA, leA, trivial⟩ ?_ | refine ai.at (j4 _ _ _) ⟨leA, leA, leA, trivial⟩ ?_); simp -implicitDefEqProofs -dsimp only [go_sem, *]) | ((first | refine ak.at (wz _) ⟨leA, trivial⟩ ?_ | refine ai.at (wz _) ⟨leA, trivial⟩ ?_); simp -implicitDefEqProofs -dsimp only [go_sem, *]) | (refine ax.bz (fun _ => ?_) (fun _ => ?_) <;> simp -implicitDefEqProofs -dsimp only [go_sem, *]) | (refine ax.cu (fun _ => ?_) (fun _ => ?_) <;> simp -implicitDefEqProofs -dsimp only [go_sem, *]) | (refine aw.split (fun _ => ?_) (fun _ => ?_) <;> simp -implicitDefEqProofs -dsimp only [go_sem, *]))
theorem afs (w : ae) (hw : 1 ≤ w.Next ∧ w.Next ≤ 999) (x : al) : Ctr Tryz.prog 89 [x.v, .pt w.cs] [] (.bool (lh w.Next w.Now x)) [] := by
 refine Ctr.intro Tryz.mixed Tryz.func89 rfl Tryz.a73 ?_
 refine ev2 @Tryz.ntmps89 @Tryz.results89 ?_
 refine ev2 @al.v.eq_1 @ae.cs.eq_1 ?_
 have hw1 : IntKind.i64.wrap (w.Next - 1) = w.Next - 1 := wrap_i64 (by omega) (by omega)
 repeat' (first | (refine aj.au ?_ (by rfl); first | rfl | (simp [lh, *]; done)) | ((first | refine ak.at (j4 _ _ _) ⟨leA, leA, leA, trivial⟩ ?_ | refine ai.at (j4 _ _ _) ⟨leA, leA, leA, trivial⟩ ?_); simp -implicitDefEqProofs -dsimp only [go_sem, *]) | ((first | refine ak.at (nh _) ⟨leA, trivial⟩ ?_ | refine ai.at (nh _) ⟨leA, trivial⟩ ?_); simp -implicitDefEqProofs -dsimp only [go_sem, *]) | (refine ax.bz (fun _ => ?_) (fun _ => ?_) <;> simp -implicitDefEqProofs -dsimp only [go_sem, *]) | (refine ax.cu (fun _ => ?_) (fun _ => ?_) <;> simp -implicitDefEqProofs -dsimp only [go_sem, *]))
theorem abb (p : bc) : Ctr Tryz.prog 93 [p.v] [] (.int .i64 p.Station) [] := by
 refine Ctr.intro Tryz.mixed Tryz.func93 rfl Tryz.a8q ?_
 refine ev2 @Tryz.ntmps93 @Tryz.results93 ?_
 refine ev1 @bc.v.eq_1 ?_
 exact aj.au rfl (by rfl)
theorem acq (x : al) : Ctr Tryz.prog 95 [x.v] [] (.int .i64 x.Number) [] := by
 refine Ctr.intro Tryz.mixed Tryz.func95 rfl Tryz.a8s ?_
 refine ev2 @Tryz.ntmps95 @Tryz.results95 ?_
 refine ev1 @al.v.eq_1 ?_
 exact aj.au rfl (by rfl)
theorem dx (w : ae) (hp : w.Posts.length ≤ 281474976710656) (hs : w.Shocks.length ≤ 281474976710656) : Ctr Tryz.prog 42 [w.v] [] (.bool (wB w)) [] := by
 refine Ctr.intro Tryz.mixed Tryz.func42 rfl Tryz.a8c ?_
 refine ev2 @Tryz.ntmps42 @Tryz.results42 ?_
 refine ev1 @ae.v.eq_1 ?_
 have fin : ∀ b, b = wB w → aj 0 (.bool b) [some w.cs] (.bool (wB w)) [] := fun b h => aj.au (by rw [h]) (by rfl)
 (first | refine ak.at (aha _) ⟨leA, trivial⟩ ?_ | refine ai.at (aha _) ⟨leA, trivial⟩ ?_)
 refine ev0 ?_
 refine ax.bz (fun h1 => ?_) (fun h1 => ?_) <;> refine ev1 @h1 ?_
 rotate_left
 · exact aj.au (by simp [wB, ji, h1]) (by rfl)
 (first | refine ak.at (j4 _ _ _) ⟨leA, leA, leA, trivial⟩ ?_ | refine ai.at (j4 _ _ _) ⟨leA, leA, leA, trivial⟩ ?_)
 refine ev1 @h1 ?_
 refine ax.bz (fun h2 => ?_) (fun h2 => ?_) <;> refine ev2 @h1 @h2 ?_
 rotate_left
 · exact aj.au (by simp [wB, ji, h1, h2]) (by rfl)
 (first | refine ak.at (j4 _ _ _) ⟨leA, leA, leA, trivial⟩ ?_ | refine ai.at (j4 _ _ _) ⟨leA, leA, leA, trivial⟩ ?_)
 refine ev2 @h1 @h2 ?_
 refine ax.bz (fun h3 => ?_) (fun h3 => ?_) <;> refine ev3 @h1 @h2 @h3 ?_
 rotate_left
 · exact aj.au (by simp [wB, ji, h1, h2, h3]) (by rfl)
 have hc : ji w = true := by simp [ji, h1, h2, h3]
 have hw := (xm.1 hc).2.1
 (first | refine ak.at (uc w.Posts (sx w.Now) bc.Station 8 _ _ [.pt w.cs] [] (fun d => by cases d <;> rfl) (fun _ => rfl) (fun x => ag2 w x) abb 8 rfl hp) ⟨leA, leA, leA, leA, trivial⟩ ?_ | refine ai.at (uc w.Posts (sx w.Now) bc.Station 8 _ _ [.pt w.cs] [] (fun d => by cases d <;> rfl) (fun _ => rfl) (fun x => ag2 w x) abb 8 rfl hp) ⟨leA, leA, leA, leA, trivial⟩ ?_)
 refine ev3 @h1 @h2 @h3 ?_
 refine ax.bz (fun h4 => ?_) (fun h4 => ?_) <;> refine ev4 @h1 @h2 @h3 @h4 ?_
 rotate_left
 · exact aj.au (by simp [wB, hc, h4]) (by rfl)
 (first | refine ak.at (s7 w.Shocks (lh w.Next w.Now) al.Number 6 _ _ [.pt w.cs] [] (fun d => by cases d <;> rfl) (fun _ => rfl) (fun x => afs w hw x) acq 6 rfl hs) ⟨leA, leA, leA, leA, trivial⟩ ?_ | refine ai.at (s7 w.Shocks (lh w.Next w.Now) al.Number 6 _ _ [.pt w.cs] [] (fun d => by cases d <;> rfl) (fun _ => rfl) (fun x => afs w hw x) acq 6 rfl hs) ⟨leA, leA, leA, leA, trivial⟩ ?_)
 refine ev4 @h1 @h2 @h3 @h4 ?_
 exact aj.au (by simp [wB, hc, h4]) (by rfl)
theorem ad0 {α : Type} {p : α → Bool} {k : α → Int} {m : Nat} {L : List α} (h : (List.range L.length).all (gy p k L) = true) (hm : L.length ≤ m) : ij p k m L = true := by
 simp [ij, h, hm]
theorem acu (w : ae) (hw : 1 ≤ w.Next ∧ w.Next ≤ 999) (x : al) : Ctr Tryz.prog 120 [w.v, x.v] [] (.bool (lh w.Next w.Now x)) [] := by
 refine Ctr.intro Tryz.mixed Tryz.func120 rfl Tryz.ax2 ?_
 refine ev2 @Tryz.ntmps120 @Tryz.results120 ?_
 refine ev2 @al.v.eq_1 @ae.v.eq_1 ?_
 have hw1 : IntKind.i64.wrap (w.Next - 1) = w.Next - 1 := wrap_i64 (by omega) (by omega)
 repeat' (first | (refine aj.au ?_ (by rfl); first | rfl | (simp [lh, *]; done)) | ((first | refine ak.at (ef _ _ _) ⟨leA, leA, leA, trivial⟩ ?_ | refine ai.at (ef _ _ _) ⟨leA, leA, leA, trivial⟩ ?_); simp -implicitDefEqProofs -dsimp only [go_sem, *]) | (refine ax.bz (fun _ => ?_) (fun _ => ?_) <;> simp -implicitDefEqProofs -dsimp only [go_sem, *]) | (refine ax.cu (fun _ => ?_) (fun _ => ?_) <;> simp -implicitDefEqProofs -dsimp only [go_sem, *]))
theorem ey (w : ae) (hp : w.Posts.length ≤ 281474976710656) (hs : w.Shocks.length ≤ 281474976710656) : Ctr Tryz.prog 77 [w.v] [] (.bool (wB w)) [] := by
 refine Ctr.intro Tryz.mixed Tryz.func77 rfl Tryz.a60 ?_
 refine ev2 @Tryz.ntmps77 @Tryz.results77 ?_
 refine ev1 @ae.v.eq_1 ?_
 (first | refine ak.at (ahd _) ⟨leA, trivial⟩ ?_ | refine ai.at (ahd _) ⟨leA, trivial⟩ ?_)
 refine ev0 ?_
 refine ax.cu (fun h1 => ?_) (fun h1 => ?_) <;> refine ev1 @h1 ?_
 rotate_left
 · exact aj.au (by simp at h1; simp [wB, ji, h1]) (by rfl)
 refine ax.cu (fun h2 => ?_) (fun h2 => ?_) <;> refine ev1 @h2 ?_
 rotate_left
 · have : ¬ w.Posts.length ≤ 8 := by simp at h2; omega
   exact aj.au (by simp [wB, ij, this]) (by rfl)
 refine ax.cu (fun h3 => ?_) (fun h3 => ?_) <;> refine ev1 @h3 ?_
 rotate_left
 · have : ¬ w.Shocks.length ≤ 6 := by simp at h3; omega
   exact aj.au (by simp [wB, ij, this]) (by rfl)
 (first | refine ak.at (ef _ _ _) ⟨leA, leA, leA, trivial⟩ ?_ | refine ai.at (ef _ _ _) ⟨leA, leA, leA, trivial⟩ ?_)
 refine ev0 ?_
 refine ax.cu (fun h4 => ?_) (fun h4 => ?_) <;> refine ev1 @h4 ?_
 rotate_left
 · exact aj.au (by simp at h4; simp [wB, ji, h4]) (by rfl)
 (first | refine ak.at (ef _ _ _) ⟨leA, leA, leA, trivial⟩ ?_ | refine ai.at (ef _ _ _) ⟨leA, leA, leA, trivial⟩ ?_)
 refine ev0 ?_
 refine aw.split (fun h5 => ?_) (fun h5 => ?_) <;> refine ev1 @h5 ?_
 · exact aj.au (by simp at h5; simp [wB, ji, h5]) (by rfl)
 have hc : ji w = true := by simp at h1 h4 h5; simp [ji, h1, h4, h5]
 have hcn := xm.1 hc
 have hpl : w.Posts.length ≤ 8 := by simp at h2; omega
 have hsl : w.Shocks.length ≤ 6 := by simp at h3; omega
 clear h1 h2 h3 h4 h5
 refine dn.intro (fun i : Nat => i ≤ (w.Posts).length ∧ (List.range i).all (gy (sx w.Now) bc.Station (w.Posts)) = true) (fun i => ⟨(.undef :: .ptr 0 0 :: .undef :: .int .i64 i :: (un 105 [])), [some w.cs], 0⟩) (fun i => (w.Posts).length - i) 0 ⟨Nat.zero_le _, rfl⟩ ?_ (fun i hi => ?_)
 · refine bo.cut (1) (by simp) (by simp) ?_ ?_
   · simp [LeC, LeV, ren, bh]
   · first | rfl | simp [cb, ck, ren, ab, ae.cs]
 refine ev1 @ae.cs.eq_1 ?_
 refine aw.split (fun h1 => ?_) (fun h1 => ?_)
 rotate_left
 · refine ev2 @h1 @ae.cs.eq_1 ?_
   have hi' : i = (w.Posts).length := by simp at h1; omega
   subst hi'
   have hpq := ad0 hi.2 hpl
   refine dn.intro (fun i : Nat => i ≤ (w.Shocks).length ∧ (List.range i).all (gy (lh w.Next w.Now) al.Number (w.Shocks)) = true) (fun i => ⟨(.undef :: .ptr 0 0 :: (un 3 (.int .i64 i :: (un 103 [])))), [some w.cs], 0⟩) (fun i => (w.Shocks).length - i) 0 ⟨Nat.zero_le _, rfl⟩ ?_ (fun i hi => ?_)
   · refine bo.cut (1) (by simp) (by simp) ?_ ?_
     · simp [LeC, LeV, ren, bh]
     · first | rfl | simp [cb, ck, ren, ab, ae.cs]
   refine ev1 @ae.cs.eq_1 ?_
   refine aw.split (fun h1 => ?_) (fun h1 => ?_)
   rotate_left
   · refine ev2 @h1 @ae.cs.eq_1 ?_
     have hi' : i = (w.Shocks).length := by simp at h1; omega
     subst hi'
     exact aj.au (by rw [wB, hc, hpq, ad0 hi.2 hsl]; rfl) (by rfl)
   · refine ev2 @h1 @ae.cs.eq_1 ?_
     have hi' : i < (w.Shocks).length := by simpa using h1
     have h5 := al.csl (w.Shocks)[i]
     have hr := bw al.csl hi'
     have hbad : gy (lh w.Next w.Now) al.Number (w.Shocks) i = false → _ := fun hq => (show V.bool false = V.bool (wB w) by rw [wB, j0 hi' hq]; simp)
     cases i with
     | zero =>
      have hz : ((0 : Nat) : Int) = 0 := rfl
      have hr0 := hr
      rw [Nat.zero_mul, List.drop_zero] at hr0
      refine rn5 @hr @hr0 @hz @al.cs.eq_1 @ae.cs.eq_1 ?_
      repeat' (first | (refine aj.au (hbad ?_) (by rfl); (rw [kx hi']; (try simp only [Bool.not_eq_false', Bool.not_eq_true', decide_eq_false_iff_not, decide_eq_true_eq] at *); simp [*]; try omega; done)) | ((have ct := acu w hcn.2.1 (w.Shocks[0]); (first | refine ak.at ct ⟨leA, leA, trivial⟩ ?_ | refine ai.at ct ⟨leA, leA, trivial⟩ ?_); clear ct); simp -implicitDefEqProofs -dsimp only [go_sem, *, ae.cs]) | (refine ax.bz (fun _ => ?_) (fun _ => ?_) <;> simp -implicitDefEqProofs -dsimp only [go_sem, *, ae.cs]) | (refine ax.cu (fun _ => ?_) (fun _ => ?_) <;> simp -implicitDefEqProofs -dsimp only [go_sem, *, ae.cs]) | (refine aw.split (fun _ => ?_) (fun _ => ?_) <;> simp -implicitDefEqProofs -dsimp only [go_sem, *, ae.cs]) | (with_reducible refine And.intro (by first | omega | (show cc _ = true; kernel_rfl)) ?_; (repeat ((repeat1' (first | simp -implicitDefEqProofs -dsimp only [go_sem, *, al.cs, ae.cs] | simp -dsimp (disch := omega) only [wrap_i64])); repeat (with_reducible refine df ?_)))) | (refine ⟨0 + 1, ⟨hi', gw hi.2 (by rw [kx hi']; (try simp only [Bool.not_eq_false', Bool.not_eq_true', decide_eq_false_iff_not, decide_eq_true_eq] at *); simp [*]; try omega)⟩, ?_, by omega⟩; refine bo.cut (1) (by simp) (by simp) ?_ ?_; (· (try refine ew0 ?_; simp [LeC, LeV, ren, bh]; try omega)); (· (first | rfl | simp [cb, ck, ren, ab, ae.cs]))))
     | succ j =>
      have hj : j < (w.Shocks).length := by omega
      have hw1 : IntKind.i64.wrap (((j + 1 : Nat) : Int) - 1) = (j : Int) := by rw [wrap_i64 (by omega) (by omega)]; omega
      have hg : decide ((0 : Int) < ((j + 1 : Nat) : Int)) = true := decide_eq_true (by omega)
      have hr2 := bw al.csl hj
      refine rn6 @hr @hg @hw1 @hr2 @al.cs.eq_1 @ae.cs.eq_1 ?_
      repeat' (first | (refine aj.au (hbad ?_) (by rfl); (rw [ik hi']; (try simp only [Bool.not_eq_false', Bool.not_eq_true', decide_eq_false_iff_not, decide_eq_true_eq] at *); simp [*]; try omega; done)) | ((have ct := acu w hcn.2.1 (w.Shocks[j + 1]); (first | refine ak.at ct ⟨leA, leA, trivial⟩ ?_ | refine ai.at ct ⟨leA, leA, trivial⟩ ?_); clear ct); simp -implicitDefEqProofs -dsimp only [go_sem, *, ae.cs]) | (refine ax.bz (fun _ => ?_) (fun _ => ?_) <;> simp -implicitDefEqProofs -dsimp only [go_sem, *, ae.cs]) | (refine ax.cu (fun _ => ?_) (fun _ => ?_) <;> simp -implicitDefEqProofs -dsimp only [go_sem, *, ae.cs]) | (refine aw.split (fun _ => ?_) (fun _ => ?_) <;> simp -implicitDefEqProofs -dsimp only [go_sem, *, ae.cs]) | (with_reducible refine And.intro (by first | omega | (show cc _ = true; kernel_rfl)) ?_; (repeat ((repeat1' (first | simp -implicitDefEqProofs -dsimp only [go_sem, *, al.cs, ae.cs] | simp -dsimp (disch := omega) only [wrap_i64])); repeat (with_reducible refine df ?_)))) | (refine ⟨j + 1 + 1, ⟨hi', gw hi.2 (by rw [ik hi']; (try simp only [Bool.not_eq_false', Bool.not_eq_true', decide_eq_false_iff_not, decide_eq_true_eq] at *); simp [*]; try omega)⟩, ?_, by omega⟩; refine bo.cut (1) (by simp) (by simp) ?_ ?_; (· (try refine ew0 ?_; simp [LeC, LeV, ren, bh]; try omega)); (· (first | rfl | simp [cb, ck, ren, ab, ae.cs]))))
 · refine ev2 @h1 @ae.cs.eq_1 ?_
   have hi' : i < (w.Posts).length := by simpa using h1
   have h5 := bc.csl (w.Posts)[i]
   have hr := bw bc.csl hi'
   have hbad : gy (sx w.Now) bc.Station (w.Posts) i = false → _ := fun hq => (show V.bool false = V.bool (wB w) by rw [wB, j0 hi' hq]; simp)
   cases i with
   | zero =>
    have hz : ((0 : Nat) : Int) = 0 := rfl
    have hr0 := hr
    rw [Nat.zero_mul, List.drop_zero] at hr0
    refine rn5 @hr @hr0 @hz @bc.cs.eq_1 @ae.cs.eq_1 ?_
    repeat' (first | (refine aj.au (hbad ?_) (by rfl); (rw [kx hi']; (try simp only [Bool.not_eq_false', Bool.not_eq_true', decide_eq_false_iff_not, decide_eq_true_eq] at *); simp [sx, *]; try omega; done)) | ((first | refine ak.at (ef _ _ _) ⟨leA, leA, leA, trivial⟩ ?_ | refine ai.at (ef _ _ _) ⟨leA, leA, leA, trivial⟩ ?_); simp -implicitDefEqProofs -dsimp only [go_sem, *, ae.cs]) | (refine ax.bz (fun _ => ?_) (fun _ => ?_) <;> simp -implicitDefEqProofs -dsimp only [go_sem, *, ae.cs]) | (refine ax.cu (fun _ => ?_) (fun _ => ?_) <;> simp -implicitDefEqProofs -dsimp only [go_sem, *, ae.cs]) | (refine aw.split (fun _ => ?_) (fun _ => ?_) <;> simp -implicitDefEqProofs -dsimp only [go_sem, *, ae.cs]) | (with_reducible refine And.intro (by first | omega | (show cc _ = true; kernel_rfl)) ?_; (repeat ((repeat1' (first | simp -implicitDefEqProofs -dsimp only [go_sem, *, bc.cs, ae.cs] | simp -dsimp (disch := omega) only [wrap_i64])); repeat (with_reducible refine df ?_)))) | (refine ⟨0 + 1, ⟨hi', gw hi.2 (by rw [kx hi']; (try simp only [Bool.not_eq_false', Bool.not_eq_true', decide_eq_false_iff_not, decide_eq_true_eq] at *); simp [sx, *]; try omega)⟩, ?_, by omega⟩; refine bo.cut (1) (by simp) (by simp) ?_ ?_; (· (try refine ew0 ?_; simp [LeC, LeV, ren, bh]; try omega)); (· (first | rfl | simp [cb, ck, ren, ab, ae.cs]))))
   | succ j =>
    have hj : j < (w.Posts).length := by omega
    have hw1 : IntKind.i64.wrap (((j + 1 : Nat) : Int) - 1) = (j : Int) := by rw [wrap_i64 (by omega) (by omega)]; omega
    have hg : decide ((0 : Int) < ((j + 1 : Nat) : Int)) = true := decide_eq_true (by omega)
    have hr2 := bw bc.csl hj
    refine rn6 @hr @hg @hw1 @hr2 @bc.cs.eq_1 @ae.cs.eq_1 ?_
    repeat' (first | (refine aj.au (hbad ?_) (by rfl); (rw [ik hi']; (try simp only [Bool.not_eq_false', Bool.not_eq_true', decide_eq_false_iff_not, decide_eq_true_eq] at *); simp [sx, *]; try omega; done)) | ((first | refine ak.at (ef _ _ _) ⟨leA, leA, leA, trivial⟩ ?_ | refine ai.at (ef _ _ _) ⟨leA, leA, leA, trivial⟩ ?_); simp -implicitDefEqProofs -dsimp only [go_sem, *, ae.cs]) | (refine ax.bz (fun _ => ?_) (fun _ => ?_) <;> simp -implicitDefEqProofs -dsimp only [go_sem, *, ae.cs]) | (refine ax.cu (fun _ => ?_) (fun _ => ?_) <;> simp -implicitDefEqProofs -dsimp only [go_sem, *, ae.cs]) | (refine aw.split (fun _ => ?_) (fun _ => ?_) <;> simp -implicitDefEqProofs -dsimp only [go_sem, *, ae.cs]) | (with_reducible refine And.intro (by first | omega | (show cc _ = true; kernel_rfl)) ?_; (repeat ((repeat1' (first | simp -implicitDefEqProofs -dsimp only [go_sem, *, bc.cs, ae.cs] | simp -dsimp (disch := omega) only [wrap_i64])); repeat (with_reducible refine df ?_)))) | (refine ⟨j + 1 + 1, ⟨hi', gw hi.2 (by rw [ik hi']; (try simp only [Bool.not_eq_false', Bool.not_eq_true', decide_eq_false_iff_not, decide_eq_true_eq] at *); simp [sx, *]; try omega)⟩, ?_, by omega⟩; refine bo.cut (1) (by simp) (by simp) ?_ ?_; (· (try refine ew0 ?_; simp [LeC, LeV, ren, bh]; try omega)); (· (first | rfl | simp [cb, ck, ren, ab, ae.cs]))))
end Go.Proofs
end
section
set_option maxRecDepth 100000
set_option maxHeartbeats 1000000
namespace Go.Proofs
open Go.Lv
theorem xz {x y : V} (h : LeV x y := by first | exact leA | exact LeV.aqd ⟨.inl rfl, zg rfl (by simp [cn, fq]) (by simp [fq]), zg rfl rfl rfl, .inl rfl, .inl rfl, trivial⟩ | exact LeV.aqd ⟨.inl rfl, zg rfl (by simp [cn, fq]) (by simp [fq]), LeE.nil, .inl rfl, .inl rfl, trivial⟩) : LeV x y := h
def cn (K : List Int) : List bc := K.map fun n => ⟨n, true, 0⟩
def fq (K : List Int) : ae := ⟨0, cn K, [], 1, 0⟩
theorem tl {K : List Int} {i : Nat} (hi : i < K.length) : cn (K.take (i + 1)) = cn (K.take i) ++ [⟨K[i], true, 0⟩] := by
 rw [cn, List.take_succ_eq_append_getElem hi, List.map_append]; rfl
theorem aan {K : List Int} {i : Nat} (hi : i ≤ K.length) : (cn (K.take i)).length = i := by simp [cn]; omega
def yo : V := .tup [.agg [.int .i64 0, .nilsl, .nilsl, .int .i64 0, .int .i64 0], .bool false]
theorem ar8 {K : List Int} (h : wB (fq K) = true) : K.length ≤ 8 := by
 have := (ew h).plen
 simpa [fq, cn] using this
theorem yg (K : List Int) (hk : K.length ≤ 16777216) (r : V) (hout : Hp)
 (fin : wB (fq K) = true → aj 0 (.tup [.agg [.int .i64 0, .osl 1 0 K.length 3, .osl 2 0 0 5, .int .i64 1, .int .i64 0], .bool true]) [some [.int .i64 0, .osl 1 0 K.length 3, .osl 2 0 0 5, .int .i64 1, .int .i64 0], some (rows bc.cs (cn K)), some [], some [.int .i64 0, .osl 1 0 K.length 3, .osl 2 0 0 5, .int .i64 1, .int .i64 0]] r hout)
 (no : wB (fq K) = false → r = yo ∧ hout = []) : Ctr Tryz.prog 56 [IntS.sl K] [] r hout := by
 refine Ctr.intro Tryz.mixed Tryz.func56 rfl Tryz.a50 ?_
 refine ev2 @Tryz.ntmps56 @Tryz.results56 ?_
 refine dn.intro (fun i : Nat => i ≤ K.length) (fun i => ⟨(IntS.sl K :: .undef :: .ptr 0 0 :: .undef :: .ptr 3 0 :: .int .i64 i :: (un 24 [])), [some [.int .i64 0, .nilsl, .nilsl, .int .i64 0, .int .i64 0], some (rows bc.cs (cn (K.take i))), some [], some [.int .i64 0, .osl 1 0 i 3, .osl 2 0 0 5, .int .i64 1, .int .i64 0]], 0⟩) (fun i => K.length - i) 0 (Nat.zero_le _) ?_ (fun i hi => ?_)
 · refine bo.cut (4) (by simp) (by simp) ?_ ?_
   · simp [LeC, LeV, ren, bh]
   · simp [cb, ck, ren, bh, cn, rows]
 refine ev0 ?_
 refine aw.split (fun h1 => ?_) (fun h1 => ?_)
 · refine ev1 @h1 ?_
   have hi' : i < K.length := by simpa using h1
   have hr := bw IntS.csl hi'
   have hn := aan hi
   refine rn5 @hr @IntS.cs.eq_1 @ay @hn @bf ?_
   refine ⟨i + 1, hi', ?_, by omega⟩
   refine bo.cut (4) (by simp) (by simp) ?_ ?_
   · simp [LeC, LeV, ren, bh]
   · rw [tl hi', ← dy]
     simp [cb, ck, ren, bh, ab, dj, bc.cs]
 · refine ev1 @h1 ?_
   have hi' : i = K.length := by simp at h1; omega
   subst hi'
   rw [List.take_length]
   (have ct := ey (fq K) (by simp [fq, cn]; omega) (by simp [fq]); (first | refine ak.at ct ⟨xz, trivial⟩ ?_ | refine ai.at ct ⟨xz, trivial⟩ ?_); clear ct)
   cases h : wB (fq K) with
   | false =>
    refine ev1 @h ?_
    obtain ⟨rfl, rfl⟩ := no h
    exact aj.au rfl (by rfl)
   | true =>
    refine ev1 @h ?_
    exact fin h
theorem aax (K : List Int) (hk : K.length ≤ 16777216) (h : wB (fq K) = false) : Ctr Tryz.prog 56 [IntS.sl K] [] yo [] :=
 yg K hk _ _ (fun h' => by rw [h] at h'; cases h') (fun _ => ⟨rfl, rfl⟩)
theorem aa4 (K : List Int) (hk : K.length ≤ 16777216) (h : wB (fq K) = true) : Ctr Tryz.prog 56 [IntS.sl K] [] (.tup [.agg [.int .i64 0, .osl 0 0 K.length 3, .osl 1 0 0 5, .int .i64 1, .int .i64 0], .bool true]) [some (rows bc.cs (cn K)), some []] := by
 refine yg K hk _ _ (fun _ => ?_) (fun h' => by rw [h] at h'; cases h')
 refine aj.pick [1, 2] (by decide) (fun j hj => by omega) (.inl ?_) ?_
 · first | rfl | (simp [ren, bb, posOf]; done)
 · simp only [az, List.map_cons, List.map_nil, bg, List.getElem?_cons_zero, List.getElem?_cons_succ, ab]
def arb (K : List Int) : Nat → Hp
 | 0 => [some [.int .i64 0, .nilsl, .nilsl, .int .i64 1, .int .i64 0]]
 | i + 1 => [some [.int .i64 0, .osl 2 0 (i + 1) 3, .nilsl, .int .i64 1, .int .i64 0], some (rows bc.cs (cn (K.take (i + 1))))]
theorem asd (K : List Int) : arb K 0 = [some [.int .i64 0, .nilsl, .nilsl, .int .i64 1, .int .i64 0]] := rfl
theorem aiy (K : List Int) (i : Nat) : arb K (i + 1) = [some [.int .i64 0, .osl 2 0 (i + 1) 3, .nilsl, .int .i64 1, .int .i64 0], some (rows bc.cs (cn (K.take (i + 1))))] := rfl
theorem ta (K : List Int) (hk : K.length ≤ 16777216) (r : V) (hout : Hp)
 (fin0 : K = [] → aj 0 (.tup [.agg [.int .i64 0, .nilsl, .nilsl, .int .i64 1, .int .i64 0], .bool true]) [some [.int .i64 0, .nilsl, .nilsl, .int .i64 1, .int .i64 0], some [.int .i64 0, .nilsl, .nilsl, .int .i64 1, .int .i64 0]] r hout)
 (fin : K ≠ [] → wB (fq K) = true → aj 0 (.tup [.agg [.int .i64 0, .osl 2 0 K.length 3, .nilsl, .int .i64 1, .int .i64 0], .bool true]) [some [.int .i64 0, .osl 2 0 K.length 3, .nilsl, .int .i64 1, .int .i64 0], some [.int .i64 0, .osl 2 0 K.length 3, .nilsl, .int .i64 1, .int .i64 0], some (rows bc.cs (cn K))] r hout)
 (no : wB (fq K) = false → r = yo ∧ hout = []) : Ctr Tryz.prog 55 [IntS.sl K] [] r hout := by
 refine Ctr.intro Tryz.mixed Tryz.func55 rfl Tryz.a5s ?_
 refine ev2 @Tryz.ntmps55 @Tryz.results55 ?_
 refine dn.intro (fun i : Nat => i ≤ K.length) (fun i => ⟨(IntS.sl K :: .undef :: .ptr 0 0 :: .undef :: .ptr 1 0 :: (un 3 (IntS.sl K :: .int .i64 K.length :: .int .i64 i :: (un 21 [])))), some [.int .i64 0, .nilsl, .nilsl, .int .i64 0, .int .i64 0] :: arb K i, 0⟩) (fun i => K.length - i) 0 (Nat.zero_le _) ?_ (fun i hi => ?_)
 · refine bo.cut (2) (by simp) (by simp) ?_ ?_
   · simp [LeC, LeV, ren, bh]
   · simp [cb, ck, ren, bh, arb]
 refine ev0 ?_
 refine aw.split (fun h1 => ?_) (fun h1 => ?_)
 · have hi' : i < K.length := by simpa using h1
   have hr := bw IntS.csl hi'
   cases i with
   | zero =>
    have hr0 := hr
    rw [Nat.zero_mul, List.drop_zero] at hr0
    refine rn5 @h1 @hr @hr0 @IntS.cs.eq_1 @asd ?_
    refine ⟨1, by omega, ?_, by omega⟩
    refine bo.pick [0, 1, 3] (by decide) (fun j hj => by omega) ?_ ?_
    · simp [LeG, LeV, ren, bb, posOf]
    · rw [aiy, tl hi']
      simp [az, bg, ren, bb, posOf, cn, rows, bc.cs]
   | succ i =>
    have hn := aan hi
    refine rn7 @h1 @hr @IntS.cs.eq_1 @aiy @ay @hn @bf ?_
    refine ⟨i + 2, by omega, ?_, by omega⟩
    refine bo.cut (3) (by simp) (by simp) ?_ ?_
    · simp [LeC, LeV, ren, bh]
      omega
    · rw [aiy, tl hi', ← dy]
      simp [cb, ck, ren, bh, ab, dj, bc.cs]
 · refine ev1 @h1 ?_
   have hi' : i = K.length := by simp at h1; omega
   subst hi'
   by_cases hK : K = []
   · subst hK
     have h0 : wB (fq []) = true := by simp [wB, fq, cn, ji, ep, ij]
     refine ev3 @List.length_nil.{0} @asd @Int.natCast_zero ?_
     repeat (first | ((have ct := dx (fq []) (by simp [fq, cn]) (by simp [fq]); (first | refine ak.at ct ⟨xz, trivial⟩ ?_ | refine ai.at ct ⟨xz, trivial⟩ ?_); clear ct); refine ev1 @h0 ?_) | (with_reducible refine And.intro (by first | omega | (show cc _ = true; kernel_rfl)) ?_; try refine ew1 @h0 ?_))
     exact fin0 rfl
   · have e : arb K K.length = [some [.int .i64 0, .osl 2 0 K.length 3, .nilsl, .int .i64 1, .int .i64 0], some (rows bc.cs (cn K))] := by
      obtain ⟨m, hm⟩ : ∃ m, K.length = m + 1 := ⟨K.length - 1, by have := List.length_pos_iff.2 hK; omega⟩
      rw [hm, aiy, ← hm, List.take_length]
     rw [e]
     by_cases g : K.length ≤ 8
     · have g' : decide ((8 : Int) < K.length) = false := decide_eq_false (by omega)
       refine ev1 @g' ?_
       (have ct := dx (fq K) (by simp [fq, cn]; omega) (by simp [fq]); (first | refine ak.at ct ⟨xz, trivial⟩ ?_ | refine ai.at ct ⟨xz, trivial⟩ ?_); clear ct)
       cases h : wB (fq K) with
       | false =>
        refine ev1 @h ?_
        obtain ⟨rfl, rfl⟩ := no h
        exact aj.au rfl (by rfl)
       | true =>
        refine ev1 @h ?_
        exact fin hK h
     · have g' : decide ((8 : Int) < K.length) = true := decide_eq_true (by omega)
       refine ev1 @g' ?_
       have h : wB (fq K) = false := by
        cases h : wB (fq K) with
        | false => rfl
        | true => exact absurd (ar8 h) g
       obtain ⟨rfl, rfl⟩ := no h
       exact aj.au rfl (by rfl)
theorem aif (K : List Int) (hk : K.length ≤ 16777216) (h : wB (fq K) = false) : Ctr Tryz.prog 55 [IntS.sl K] [] yo [] := by
 refine ta K hk _ _ (fun h' => ?_) (fun _ h' => by rw [h] at h'; cases h') (fun _ => ⟨rfl, rfl⟩)
 subst h'
 simp [wB, fq, cn, ji, ep, ij] at h
theorem afy : Ctr Tryz.prog 55 [IntS.sl []] [] (.tup [.agg [.int .i64 0, .nilsl, .nilsl, .int .i64 1, .int .i64 0], .bool true]) [] := by
 refine ta [] (by simp) _ _ (fun _ => aj.au rfl (by rfl)) (fun h => absurd rfl h) (fun h => ?_)
 simp [wB, fq, cn, ji, ep, ij] at h
theorem ah1 (K : List Int) (hk : K.length ≤ 16777216) (hK : K ≠ []) (h : wB (fq K) = true) : Ctr Tryz.prog 55 [IntS.sl K] [] (.tup [.agg [.int .i64 0, .osl 0 0 K.length 3, .nilsl, .int .i64 1, .int .i64 0], .bool true]) [some (rows bc.cs (cn K))] := by
 refine ta K hk _ _ (fun h' => absurd h' hK) (fun _ _ => ?_) (fun h' => by rw [h] at h'; cases h')
 refine aj.pick [2] (by decide) (fun j hj => by omega) (.inl ?_) ?_
 · first | rfl | (simp [ren, bb, posOf]; done)
 · simp only [az, List.map_cons, List.map_nil, bg, List.getElem?_cons_zero, List.getElem?_cons_succ, ab]
end Go.Proofs
end
section
namespace Go.Lv
def jx {α : Type} (p : α → Bool) (L : List α) : Int := match L.findIdx? p with
 | some i => i
 | none => -1
theorem vp {α : Type} {p : α → Bool} {L : List α} {i : Nat} (h : i < L.length) (h0 : (L.take i).any p = false) (h1 : p L[i] = true) : jx p L = i := by
 have : L.findIdx? p = some i := by
  rw [List.findIdx?_eq_some_iff_getElem]
  refine ⟨h, h1, fun j hj => ?_⟩
  have := List.any_eq_false.1 h0 L[j] (by rw [List.mem_take_iff_getElem]; exact ⟨j, by omega, rfl⟩)
  simpa using this
 simp [jx, this]
theorem xu {α : Type} {p : α → Bool} {L : List α} (h : L.any p = false) : jx p L = -1 := by
 have : L.findIdx? p = none := by
  rw [List.findIdx?_eq_none_iff]
  intro x hx
  have := List.any_eq_false.1 h x hx
  simpa using this
 simp [jx, this]
end Go.Lv
end
section
set_option maxRecDepth 100000
namespace Go.Proofs
open Go.Lv
theorem uf (L : List bc) (p : bc → Bool) (fv : Nat) (vc : List V) (hvc : ∀ d, vc.all (de d) = true) (hv : ∀ x, Ctr Tryz.prog fv (bc.v x :: vc) [] (.bool (p x)) []) (hl : L.length ≤ 281474976710656) :
 Ctr Tryz.prog 195 [bc.sl L, .fn (.func fv) [] vc] [] (.int .i64 (jx p L)) [] := by
 refine Ctr.intro Tryz.mixed Tryz.func195 rfl Tryz.a0w ?_
 refine ev2 @Tryz.ntmps195 @Tryz.results195 ?_
 have hvc2 : ∀ f d, vc.map (ren f d) = vc := fun f d => sg f (hvc d)
 refine dn.intro (fun i : Nat => i ≤ L.length ∧ (L.take i).any p = false) (fun i => ⟨(bc.sl L :: .fn (.func fv) [] vc :: (un 5 (.int .i64 L.length :: .int .i64 i :: (un 10 [])))), [], 0⟩) (fun i => L.length - i) 0 ⟨Nat.zero_le _, rfl⟩ ?_ (fun i hi => ?_)
 · refine bo.cut (0) (by simp) (by simp) ?_ ?_
   · simp [LeC, LeV, ren, bh, hvc2]
   · rfl
 refine ev0 ?_
 refine aw.split (fun h1 => ?_) (fun h1 => ?_)
 · refine ev1 @h1 ?_
   have hi' : i < L.length := by simpa using h1
   have h5 := bc.csl L[i]
   have hr := bw bc.csl hi'
   refine ew2 @hr @bc.cs.eq_1 ?_
   repeat (with_reducible refine df ?_)
   refine ai.intro (hv L[i]) ⟨.inl rfl, ln (hvc2 _ _)⟩ (.inl (by simp only [List.nil_append, List.cons_append, List.all_cons, hvc, Bool.and_true]; rfl)) ?_
   refine ev0 ?_
   refine aw.split (fun h2 => ?_) (fun h2 => ?_) <;> refine ev1 @h2 ?_
   · exact aj.au (by rw [vp hi' hi.2 h2]) (by rfl)
   · refine ⟨i + 1, ⟨hi', by rw [List.take_succ_eq_append_getElem hi']; simp only [List.any_append, hi.2, List.any_cons, h2, List.any_nil, Bool.or_self]⟩, ?_, by omega⟩
     refine bo.cut (0) (by simp) (by simp) ?_ ?_
     · rw [wrap_i64 (by omega) (by omega)]
       simp [LeC, LeV, ren, bh, hvc2]
     · rfl
 · refine ev1 @h1 ?_
   have hi' : i = L.length := by simp at h1; omega
   subst hi'
   have h2 := hi.2
   rw [List.take_length] at h2
   exact aj.au (by rw [xu h2]) (by rfl)
end Go.Proofs
end
section
set_option maxRecDepth 100000
namespace Go.Proofs
open Go.Lv
theorem ss (L : List al) (p : al → Bool) (fv : Nat) (vc : List V) (hvc : ∀ d, vc.all (de d) = true) (hv : ∀ x, Ctr Tryz.prog fv (al.v x :: vc) [] (.bool (p x)) []) (hl : L.length ≤ 281474976710656) :
 Ctr Tryz.prog 147 [al.sl L, .fn (.func fv) [] vc] [] (.int .i64 (jx p L)) [] := by
 refine Ctr.intro Tryz.mixed Tryz.func147 rfl Tryz.azi ?_
 refine ev2 @Tryz.ntmps147 @Tryz.results147 ?_
 have hvc2 : ∀ f d, vc.map (ren f d) = vc := fun f d => sg f (hvc d)
 refine dn.intro (fun i : Nat => i ≤ L.length ∧ (L.take i).any p = false) (fun i => ⟨(al.sl L :: .fn (.func fv) [] vc :: (un 5 (.int .i64 L.length :: .int .i64 i :: (un 10 [])))), [], 0⟩) (fun i => L.length - i) 0 ⟨Nat.zero_le _, rfl⟩ ?_ (fun i hi => ?_)
 · refine bo.cut (0) (by simp) (by simp) ?_ ?_
   · simp [LeC, LeV, ren, bh, hvc2]
   · rfl
 refine ev0 ?_
 refine aw.split (fun h1 => ?_) (fun h1 => ?_)
 · refine ev1 @h1 ?_
   have hi' : i < L.length := by simpa using h1
   have h5 := al.csl L[i]
   have hr := bw al.csl hi'
   refine ew2 @hr @al.cs.eq_1 ?_
   repeat (with_reducible refine df ?_)
   refine ai.intro (hv L[i]) ⟨.inl rfl, ln (hvc2 _ _)⟩ (.inl (by simp only [List.nil_append, List.cons_append, List.all_cons, hvc, Bool.and_true]; rfl)) ?_
   refine ev0 ?_
   refine aw.split (fun h2 => ?_) (fun h2 => ?_) <;> refine ev1 @h2 ?_
   · exact aj.au (by rw [vp hi' hi.2 h2]) (by rfl)
   · refine ⟨i + 1, ⟨hi', by rw [List.take_succ_eq_append_getElem hi']; simp only [List.any_append, hi.2, List.any_cons, h2, List.any_nil, Bool.or_self]⟩, ?_, by omega⟩
     refine bo.cut (0) (by simp) (by simp) ?_ ?_
     · rw [wrap_i64 (by omega) (by omega)]
       simp [LeC, LeV, ren, bh, hvc2]
     · rfl
 · refine ev1 @h1 ?_
   have hi' : i = L.length := by simp at h1; omega
   subst hi'
   have h2 := hi.2
   rw [List.take_length] at h2
   exact aj.au (by rw [xu h2]) (by rfl)
end Go.Proofs
end
section
set_option maxRecDepth 100000
namespace Go.Proofs
open Go.Lv
def dz (n : Int) (x : al) : Bool := x.Number == n
def lk (n : Int) (x : bc) : Bool := x.Station == n
theorem aec (x : al) (n : Int) : Ctr Tryz.prog 148 [x.v, .pt [.int .i64 n]] [] (.bool (dz n x)) [] := by
 refine Ctr.intro Tryz.mixed Tryz.func148 rfl Tryz.a0h ?_
 refine ev2 @Tryz.ntmps148 @Tryz.results148 ?_
 refine ev1 @al.v.eq_1 ?_
 exact aj.au rfl (by rfl)
theorem kg (w : ae) (n : Int) (hs : w.Shocks.length ≤ 281474976710656) : Ctr Tryz.prog 112 [w.v, .int .i64 n] [] (.int .i64 (jx (dz n) w.Shocks)) [] := by
 refine Ctr.intro Tryz.mixed Tryz.func112 rfl Tryz.a0b ?_
 refine ev2 @Tryz.ntmps112 @Tryz.results112 ?_
 refine ev1 @ae.v.eq_1 ?_
 (first | refine ak.at (ss w.Shocks (dz n) _ [.pt [.int .i64 n]] (fun d => by cases d <;> rfl) (fun x => aec x n) hs) ⟨leA, leA, trivial⟩ ?_ | refine ai.at (ss w.Shocks (dz n) _ [.pt [.int .i64 n]] (fun d => by cases d <;> rfl) (fun x => aec x n) hs) ⟨leA, leA, trivial⟩ ?_)
 refine ev0 ?_
 exact aj.au rfl (by rfl)
theorem kp (w : ae) (n : Int) (hs : w.Shocks.length ≤ 281474976710656) : Ctr Tryz.prog 163 [w.v, .int .i64 n] [] (.int .i64 (jx (dz n) w.Shocks)) [] := by
 refine Ctr.intro Tryz.mixed Tryz.func163 rfl Tryz.ax6 ?_
 refine ev2 @Tryz.ntmps163 @Tryz.results163 ?_
 refine ev1 @ae.v.eq_1 ?_
 refine dn.intro (fun i : Nat => i ≤ w.Shocks.length ∧ (w.Shocks.take i).any (dz n) = false) (fun i => ⟨(.undef :: .int .i64 n :: .ptr 0 0 :: .undef :: .undef :: .int .i64 i :: (un 16 [])), [some w.cs], 0⟩) (fun i => w.Shocks.length - i) 0 ⟨Nat.zero_le _, rfl⟩ ?_ (fun i hi => ?_)
 · refine bo.cut (1) (by simp) (by simp) ?_ ?_
   · simp [LeC, LeV, ren, bh]
   · simp [cb, ck, ren, ab, ae.cs]
 refine ev1 @ae.cs.eq_1 ?_
 refine aw.split (fun h1 => ?_) (fun h1 => ?_)
 · refine ev2 @h1 @ae.cs.eq_1 ?_
   have hi' : i < w.Shocks.length := by simpa using h1
   have h5 := al.csl w.Shocks[i]
   have hr := bw al.csl hi'
   refine rn3 @hr @al.cs.eq_1 @ae.cs.eq_1 ?_
   refine aw.split (fun h2 => ?_) (fun h2 => ?_) <;> refine rn1 @h2 ?_
   · exact aj.au (by rw [vp hi' hi.2 h2]) (by rfl)
   · refine ⟨i + 1, ⟨hi', by rw [List.take_succ_eq_append_getElem hi']; simp only [List.any_append, hi.2, List.any_cons, dz, h2, List.any_nil, Bool.or_self]⟩, ?_, by omega⟩
     refine bo.cut (1) (by simp) (by simp) ?_ ?_
     · simp [LeC, LeV, ren, bh]
     · simp [cb, ck, ren, ab, ae.cs]
 · refine ev1 @h1 ?_
   have hi' : i = w.Shocks.length := by simp at h1; omega
   subst hi'
   have h2 := hi.2
   rw [List.take_length] at h2
   exact aj.au (by rw [xu h2]) (by rfl)
theorem agc (x : bc) (n : Int) : Ctr Tryz.prog 196 [x.v, .pt [.int .i64 n]] [] (.bool (lk n x)) [] := by
 refine Ctr.intro Tryz.mixed Tryz.func196 rfl Tryz.ax3 ?_
 refine ev2 @Tryz.ntmps196 @Tryz.results196 ?_
 refine ev1 @bc.v.eq_1 ?_
 exact aj.au rfl (by rfl)
theorem qt (w : ae) (n : Int) (hs : w.Posts.length ≤ 281474976710656) : Ctr Tryz.prog 178 [w.v, .int .i64 n] [] (.int .i64 (jx (lk n) w.Posts)) [] := by
 refine Ctr.intro Tryz.mixed Tryz.func178 rfl Tryz.a00 ?_
 refine ev2 @Tryz.ntmps178 @Tryz.results178 ?_
 refine ev1 @ae.v.eq_1 ?_
 (first | refine ak.at (uf w.Posts (lk n) _ [.pt [.int .i64 n]] (fun d => by cases d <;> rfl) (fun x => agc x n) hs) ⟨leA, leA, trivial⟩ ?_ | refine ai.at (uf w.Posts (lk n) _ [.pt [.int .i64 n]] (fun d => by cases d <;> rfl) (fun x => agc x n) hs) ⟨leA, leA, trivial⟩ ?_)
 refine ev0 ?_
 exact aj.au rfl (by rfl)
theorem od (w : ae) (n : Int) (hs : w.Posts.length ≤ 281474976710656) : Ctr Tryz.prog 162 [w.v, .int .i64 n] [] (.int .i64 (jx (lk n) w.Posts)) [] := by
 refine Ctr.intro Tryz.mixed Tryz.func162 rfl Tryz.ayg ?_
 refine ev2 @Tryz.ntmps162 @Tryz.results162 ?_
 refine ev1 @ae.v.eq_1 ?_
 refine dn.intro (fun i : Nat => i ≤ w.Posts.length ∧ (w.Posts.take i).any (lk n) = false) (fun i => ⟨(.undef :: .int .i64 n :: .ptr 0 0 :: .undef :: .undef :: .int .i64 i :: (un 16 [])), [some w.cs], 0⟩) (fun i => w.Posts.length - i) 0 ⟨Nat.zero_le _, rfl⟩ ?_ (fun i hi => ?_)
 · refine bo.cut (1) (by simp) (by simp) ?_ ?_
   · simp [LeC, LeV, ren, bh]
   · simp [cb, ck, ren, ab, ae.cs]
 refine ev1 @ae.cs.eq_1 ?_
 refine aw.split (fun h1 => ?_) (fun h1 => ?_)
 · refine ev2 @h1 @ae.cs.eq_1 ?_
   have hi' : i < w.Posts.length := by simpa using h1
   have h5 := bc.csl w.Posts[i]
   have hr := bw bc.csl hi'
   refine rn3 @hr @bc.cs.eq_1 @ae.cs.eq_1 ?_
   refine aw.split (fun h2 => ?_) (fun h2 => ?_) <;> refine rn1 @h2 ?_
   · exact aj.au (by rw [vp hi' hi.2 h2]) (by rfl)
   · refine ⟨i + 1, ⟨hi', by rw [List.take_succ_eq_append_getElem hi']; simp only [List.any_append, hi.2, List.any_cons, lk, h2, List.any_nil, Bool.or_self]⟩, ?_, by omega⟩
     refine bo.cut (1) (by simp) (by simp) ?_ ?_
     · simp [LeC, LeV, ren, bh]
     · simp [cb, ck, ren, ab, ae.cs]
 · refine ev1 @h1 ?_
   have hi' : i = w.Posts.length := by simp at h1; omega
   subst hi'
   have h2 := hi.2
   rw [List.take_length] at h2
   exact aj.au (by rw [xu h2]) (by rfl)
end Go.Proofs
end
section
set_option maxRecDepth 100000
namespace Go.Proofs
open Go.Lv
structure cr where
 Kind : Int
 Number : Int
 Value : Int
def cr.cs (r : cr) : List V := [.int .i64 r.Kind, .int .i64 r.Number, .int .i64 r.Value]
def cr.v (r : cr) : V := .agg [.int .i64 r.Kind, .int .i64 r.Number, .int .i64 r.Value]
theorem cr.csl (a : cr) : a.cs.length = 3 := rfl
instance : r3 cr.cs 3 := ⟨fun _ => rfl, fun _ d => by cases d <;> rfl, fun _ => rfl, fun _ => rfl⟩
def cr.ok (r : cr) : Prop := bu r.Kind ∧ bu r.Number ∧ bu r.Value
abbrev cr.rows (L : List cr) : List V := Go.Lv.rows cr.cs L
abbrev cr.sl (L : List cr) : V := .sl L.length 3 (Go.Lv.rows cr.cs L)
abbrev cr.zs : List V := [.int .i64 0, .int .i64 0, .int .i64 0]
def cr.mk1 (k : Int) : cr := ⟨k, k + 1, k + 1 + 1⟩
def cr.marks (k : Int) (n : Nat) : List cr := (List.range n).map fun i : Nat => cr.mk1 (k + 3 * (i : Int))
@[simp] theorem cr.uq (k : Int) (n : Nat) : (cr.marks k n).length = n := by simp [cr.marks]
end Go.Proofs
end
section
set_option maxRecDepth 100000
set_option maxHeartbeats 1000000
namespace Go.Proofs
open Go.Lv
theorem am8 {α : Type} (p : α → Bool) (L : List α) : (∃ i, ∃ h : i < L.length, jx p L = (i : Int) ∧ p L[i] = true) ∨ jx p L = -1 := by
 unfold jx
 cases h : L.findIdx? p with
 | none => exact .inr rfl
 | some i =>
  obtain ⟨h1, h2, _⟩ := List.findIdx?_eq_some_iff_getElem.1 h
  exact .inl ⟨i, h1, rfl, h2⟩
theorem uw {α : Type} {p : α → Bool} {L : List α} (h : decide (0 ≤ jx p L) = true) : ∃ i, ∃ h : i < L.length, jx p L = (i : Int) ∧ p L[i] = true := by
 rcases am8 p L with h1 | h1
 · exact h1
 · rw [h1] at h; simp at h
def pAt (w : ae) (n : Int) : Nat := (jx (lk n) w.Posts).toNat
def sAt (w : ae) (n : Int) : Nat := (jx (dz n) w.Shocks).toNat
def ea (w : ae) (k n v : Int) : Bool :=
 if k = 1 then n == 0 && decide (1 ≤ v)
 else if k = 2 ∨ k = 3 then decide (0 ≤ jx (lk n) w.Posts) && v == 0
 else if k = 4 then n == 0 && v == 0
 else if k = 5 then decide (0 ≤ jx (dz n) w.Shocks) && ep v (-20) 95
 else if k = 6 then decide (0 ≤ jx (dz n) w.Shocks) && ep v (-10) 10
 else (k == 7 || k == 8) && decide (0 ≤ jx (dz n) w.Shocks) && v == 0
def w4 (x : al) (k v : Int) : al := if k = 5 then ⟨x.Number, 1, x.Seen, v, x.Tick⟩ else if k = 6 then ⟨x.Number, 2, x.Seen, x.Size + v, x.Tick⟩ else ⟨x.Number, 3, x.Seen, x.Size, x.Tick⟩
def abx (x : al) (k : Int) : Bool := if k = 5 then x.State == 0 && decide (3 ≤ x.Seen) else if k = 6 then x.State == 1 else x.State == 2 || (x.State == 1 && decide (50 ≤ x.Size))
def aev (w : ae) (x : al) : Bool := x.State == 3 || (x.State == 0 && decide (6000 < w.Now - x.Tick))
def upN (w : ae) (i : Nat) : Nat := ((w.Posts.take i).filter bc.Up).length
def am6 (w : ae) (i : Nat) : al := (w.Shocks[i]?).getD ⟨0, 0, 0, 0, 0⟩
def ayz (w : ae) (i : Nat) : bc := (w.Posts[i]?).getD ⟨0, false, 0⟩
theorem zt {w : ae} {i : Nat} (h : i < w.Shocks.length) : am6 w i = w.Shocks[i] := by simp [am6, h]
theorem akr {w : ae} {i : Nat} (h : i < w.Posts.length) : ayz w i = w.Posts[i] := by simp [ayz, h]
def fu (w : ae) (k n v : Int) : ae :=
 if k = 1 then ⟨w.Now + v, w.Posts, w.Shocks, w.Next, w.Archived⟩
 else if k = 2 ∨ k = 3 then ⟨w.Now, w.Posts.set (pAt w n) ⟨n, decide (k = 3), w.Now⟩, w.Shocks, w.Next, w.Archived⟩
 else if k = 4 then ⟨w.Now, w.Posts, w.Shocks ++ [⟨w.Next, 0, (upN w w.Posts.length : Int), 0, w.Now⟩], w.Next + 1, w.Archived⟩
 else if k = 8 then ⟨w.Now, w.Posts, w.Shocks.take (sAt w n) ++ w.Shocks.drop (sAt w n + 1), w.Next, w.Archived + 1⟩
 else ⟨w.Now, w.Posts, w.Shocks.set (sAt w n) (w4 (am6 w (sAt w n)) k v), w.Next, w.Archived⟩
def pn (w : ae) (k n v : Int) : Bool :=
 if k = 1 then decide (v ≤ 1000000 - w.Now)
 else if k = 2 ∨ k = 3 then (ayz w (pAt w n)).Up != decide (k = 3)
 else if k = 4 then true
 else if k = 8 then aev w (am6 w (sAt w n))
 else abx (am6 w (sAt w n)) k
def gh (w : ae) (k n v : Int) : ae := if k = 1 ∧ ¬ v ≤ 1000000 - w.Now then w else fu w k n v
theorem ams (w : ae) (k n v : Int) (hp : w.Posts.length ≤ 16777216) (hs : w.Shocks.length ≤ 16777216) : Ctr Tryz.prog 133 [w.v, .agg [.int .i64 k, .int .i64 n, .int .i64 v]] [] (.bool (ea w k n v)) [] := by
 by_cases k1 : k = 1
 · subst k1
   refine Ctr.intro Tryz.mixed Tryz.func133 rfl Tryz.yn ?_
   refine ev2 @Tryz.ntmps133 @Tryz.results133 ?_
   refine ev1 @ae.v.eq_1 ?_
   repeat' (first | (refine aj.au ?_ (by rfl); first | rfl | (simp [ea, *]; done)) | ((have ct := od w n (by omega); (first | refine ak.at ct ⟨leA, leA, trivial⟩ ?_ | refine ai.at ct ⟨leA, leA, trivial⟩ ?_); clear ct); simp -implicitDefEqProofs -dsimp only [go_sem, *]) | (refine ax.bz (fun _ => ?_) (fun _ => ?_) <;> simp -implicitDefEqProofs -dsimp only [go_sem, *]) | (refine ax.cu (fun _ => ?_) (fun _ => ?_) <;> simp -implicitDefEqProofs -dsimp only [go_sem, *]) | (refine aw.split (fun _ => ?_) (fun _ => ?_) <;> simp -implicitDefEqProofs -dsimp only [go_sem, *]))
 by_cases k2 : k = 2 ∨ k = 3
 · rcases k2 with k2 | k2
   · subst k2
     refine Ctr.intro Tryz.mixed Tryz.func133 rfl Tryz.yn ?_
     refine ev2 @Tryz.ntmps133 @Tryz.results133 ?_
     refine ev1 @ae.v.eq_1 ?_
     repeat' (first | (refine aj.au ?_ (by rfl); first | rfl | (simp [ea, *]; done)) | ((have ct := od w n (by omega); (first | refine ak.at ct ⟨leA, leA, trivial⟩ ?_ | refine ai.at ct ⟨leA, leA, trivial⟩ ?_); clear ct); simp -implicitDefEqProofs -dsimp only [go_sem, *]) | (refine ax.bz (fun _ => ?_) (fun _ => ?_) <;> simp -implicitDefEqProofs -dsimp only [go_sem, *]) | (refine ax.cu (fun _ => ?_) (fun _ => ?_) <;> simp -implicitDefEqProofs -dsimp only [go_sem, *]) | (refine aw.split (fun _ => ?_) (fun _ => ?_) <;> simp -implicitDefEqProofs -dsimp only [go_sem, *]))
   · subst k2
     refine Ctr.intro Tryz.mixed Tryz.func133 rfl Tryz.yn ?_
     refine ev2 @Tryz.ntmps133 @Tryz.results133 ?_
     refine ev1 @ae.v.eq_1 ?_
     repeat' (first | (refine aj.au ?_ (by rfl); first | rfl | (simp [ea, *]; done)) | ((have ct := od w n (by omega); (first | refine ak.at ct ⟨leA, leA, trivial⟩ ?_ | refine ai.at ct ⟨leA, leA, trivial⟩ ?_); clear ct); simp -implicitDefEqProofs -dsimp only [go_sem, *]) | (refine ax.bz (fun _ => ?_) (fun _ => ?_) <;> simp -implicitDefEqProofs -dsimp only [go_sem, *]) | (refine ax.cu (fun _ => ?_) (fun _ => ?_) <;> simp -implicitDefEqProofs -dsimp only [go_sem, *]) | (refine aw.split (fun _ => ?_) (fun _ => ?_) <;> simp -implicitDefEqProofs -dsimp only [go_sem, *]))
 by_cases k4 : k = 4
 · subst k4
   refine Ctr.intro Tryz.mixed Tryz.func133 rfl Tryz.yn ?_
   refine ev2 @Tryz.ntmps133 @Tryz.results133 ?_
   refine ev1 @ae.v.eq_1 ?_
   repeat' (first | (refine aj.au ?_ (by rfl); first | rfl | (simp [ea, *]; done)) | ((have ct := od w n (by omega); (first | refine ak.at ct ⟨leA, leA, trivial⟩ ?_ | refine ai.at ct ⟨leA, leA, trivial⟩ ?_); clear ct); simp -implicitDefEqProofs -dsimp only [go_sem, *]) | (refine ax.bz (fun _ => ?_) (fun _ => ?_) <;> simp -implicitDefEqProofs -dsimp only [go_sem, *]) | (refine ax.cu (fun _ => ?_) (fun _ => ?_) <;> simp -implicitDefEqProofs -dsimp only [go_sem, *]) | (refine aw.split (fun _ => ?_) (fun _ => ?_) <;> simp -implicitDefEqProofs -dsimp only [go_sem, *]))
 by_cases k5 : k = 5
 · subst k5
   refine Ctr.intro Tryz.mixed Tryz.func133 rfl Tryz.yn ?_
   refine ev2 @Tryz.ntmps133 @Tryz.results133 ?_
   refine ev1 @ae.v.eq_1 ?_
   repeat' (first | (refine aj.au ?_ (by rfl); first | rfl | (simp [ea, *]; done)) | ((have ct := kp w n (by omega); (first | refine ak.at ct ⟨leA, leA, trivial⟩ ?_ | refine ai.at ct ⟨leA, leA, trivial⟩ ?_); clear ct); simp -implicitDefEqProofs -dsimp only [go_sem, *]) | ((first | refine ak.at (ef _ _ _) ⟨leA, leA, leA, trivial⟩ ?_ | refine ai.at (ef _ _ _) ⟨leA, leA, leA, trivial⟩ ?_); simp -implicitDefEqProofs -dsimp only [go_sem, *]) | (refine ax.bz (fun _ => ?_) (fun _ => ?_) <;> simp -implicitDefEqProofs -dsimp only [go_sem, *]) | (refine ax.cu (fun _ => ?_) (fun _ => ?_) <;> simp -implicitDefEqProofs -dsimp only [go_sem, *]) | (refine aw.split (fun _ => ?_) (fun _ => ?_) <;> simp -implicitDefEqProofs -dsimp only [go_sem, *]))
 by_cases k6 : k = 6
 · subst k6
   refine Ctr.intro Tryz.mixed Tryz.func133 rfl Tryz.yn ?_
   refine ev2 @Tryz.ntmps133 @Tryz.results133 ?_
   refine ev1 @ae.v.eq_1 ?_
   repeat' (first | (refine aj.au ?_ (by rfl); first | rfl | (simp [ea, *]; done)) | ((have ct := kp w n (by omega); (first | refine ak.at ct ⟨leA, leA, trivial⟩ ?_ | refine ai.at ct ⟨leA, leA, trivial⟩ ?_); clear ct); simp -implicitDefEqProofs -dsimp only [go_sem, *]) | ((first | refine ak.at (ef _ _ _) ⟨leA, leA, leA, trivial⟩ ?_ | refine ai.at (ef _ _ _) ⟨leA, leA, leA, trivial⟩ ?_); simp -implicitDefEqProofs -dsimp only [go_sem, *]) | (refine ax.bz (fun _ => ?_) (fun _ => ?_) <;> simp -implicitDefEqProofs -dsimp only [go_sem, *]) | (refine ax.cu (fun _ => ?_) (fun _ => ?_) <;> simp -implicitDefEqProofs -dsimp only [go_sem, *]) | (refine aw.split (fun _ => ?_) (fun _ => ?_) <;> simp -implicitDefEqProofs -dsimp only [go_sem, *]))
 have b1 : (k == 1) = false := by simp [k1]
 have b2 : (k == 2) = false := by simp at k2; simp [k2]
 have b3 : (k == 3) = false := by simp at k2; simp [k2]
 have b4 : (k == 4) = false := by simp [k4]
 have b5 : (k == 5) = false := by simp [k5]
 have b6 : (k == 6) = false := by simp [k6]
 have e : ea w k n v = ((k == 7 || k == 8) && decide (0 ≤ jx (dz n) w.Shocks) && v == 0) := by
  rw [ea, if_neg k1, if_neg k2, if_neg k4, if_neg k5, if_neg k6]
 rw [e]
 clear e k1 k2 k4 k5 k6
 refine Ctr.intro Tryz.mixed Tryz.func133 rfl Tryz.yn ?_
 refine ev2 @Tryz.ntmps133 @Tryz.results133 ?_
 refine ev7 @b1 @b2 @b3 @b4 @b5 @b6 @ae.v.eq_1 ?_
 repeat' (first | (refine aj.au ?_ (by rfl); first | rfl | (simp [*]; done)) | ((have ct := kp w n (by omega); (first | refine ak.at ct ⟨leA, leA, trivial⟩ ?_ | refine ai.at ct ⟨leA, leA, trivial⟩ ?_); clear ct); simp -implicitDefEqProofs -dsimp only [go_sem, *]) | (refine ax.bz (fun _ => ?_) (fun _ => ?_) <;> simp -implicitDefEqProofs -dsimp only [go_sem, *]) | (refine ax.cu (fun _ => ?_) (fun _ => ?_) <;> simp -implicitDefEqProofs -dsimp only [go_sem, *]) | (refine aw.split (fun _ => ?_) (fun _ => ?_) <;> simp -implicitDefEqProofs -dsimp only [go_sem, *]))
theorem ao6 (w : ae) (k n v : Int) (hp : w.Posts.length ≤ 16777216) (hs : w.Shocks.length ≤ 16777216) : Ctr Tryz.prog 144 [w.v, .agg [.int .i64 k, .int .i64 n, .int .i64 v]] [] (.bool (ea w k n v)) [] := by
 by_cases k1 : k = 1
 · subst k1
   refine Ctr.intro Tryz.mixed Tryz.func144 rfl Tryz.y8 ?_
   refine ev2 @Tryz.ntmps144 @Tryz.results144 ?_
   refine ev1 @ae.v.eq_1 ?_
   repeat' (first | (refine aj.au ?_ (by rfl); first | rfl | (simp [ea, *]; done)) | ((have ct := qt w n (by omega); (first | refine ak.at ct ⟨leA, leA, trivial⟩ ?_ | refine ai.at ct ⟨leA, leA, trivial⟩ ?_); clear ct); simp -implicitDefEqProofs -dsimp only [go_sem, *]) | (refine ax.bz (fun _ => ?_) (fun _ => ?_) <;> simp -implicitDefEqProofs -dsimp only [go_sem, *]) | (refine ax.cu (fun _ => ?_) (fun _ => ?_) <;> simp -implicitDefEqProofs -dsimp only [go_sem, *]) | (refine aw.split (fun _ => ?_) (fun _ => ?_) <;> simp -implicitDefEqProofs -dsimp only [go_sem, *]))
 by_cases k2 : k = 2 ∨ k = 3
 · rcases k2 with k2 | k2
   · subst k2
     refine Ctr.intro Tryz.mixed Tryz.func144 rfl Tryz.y8 ?_
     refine ev2 @Tryz.ntmps144 @Tryz.results144 ?_
     refine ev1 @ae.v.eq_1 ?_
     repeat' (first | (refine aj.au ?_ (by rfl); first | rfl | (simp [ea, *]; done)) | ((have ct := qt w n (by omega); (first | refine ak.at ct ⟨leA, leA, trivial⟩ ?_ | refine ai.at ct ⟨leA, leA, trivial⟩ ?_); clear ct); simp -implicitDefEqProofs -dsimp only [go_sem, *]) | (refine ax.bz (fun _ => ?_) (fun _ => ?_) <;> simp -implicitDefEqProofs -dsimp only [go_sem, *]) | (refine ax.cu (fun _ => ?_) (fun _ => ?_) <;> simp -implicitDefEqProofs -dsimp only [go_sem, *]) | (refine aw.split (fun _ => ?_) (fun _ => ?_) <;> simp -implicitDefEqProofs -dsimp only [go_sem, *]))
   · subst k2
     refine Ctr.intro Tryz.mixed Tryz.func144 rfl Tryz.y8 ?_
     refine ev2 @Tryz.ntmps144 @Tryz.results144 ?_
     refine ev1 @ae.v.eq_1 ?_
     repeat' (first | (refine aj.au ?_ (by rfl); first | rfl | (simp [ea, *]; done)) | ((have ct := qt w n (by omega); (first | refine ak.at ct ⟨leA, leA, trivial⟩ ?_ | refine ai.at ct ⟨leA, leA, trivial⟩ ?_); clear ct); simp -implicitDefEqProofs -dsimp only [go_sem, *]) | (refine ax.bz (fun _ => ?_) (fun _ => ?_) <;> simp -implicitDefEqProofs -dsimp only [go_sem, *]) | (refine ax.cu (fun _ => ?_) (fun _ => ?_) <;> simp -implicitDefEqProofs -dsimp only [go_sem, *]) | (refine aw.split (fun _ => ?_) (fun _ => ?_) <;> simp -implicitDefEqProofs -dsimp only [go_sem, *]))
 by_cases k4 : k = 4
 · subst k4
   refine Ctr.intro Tryz.mixed Tryz.func144 rfl Tryz.y8 ?_
   refine ev2 @Tryz.ntmps144 @Tryz.results144 ?_
   refine ev1 @ae.v.eq_1 ?_
   repeat' (first | (refine aj.au ?_ (by rfl); first | rfl | (simp [ea, *]; done)) | ((have ct := qt w n (by omega); (first | refine ak.at ct ⟨leA, leA, trivial⟩ ?_ | refine ai.at ct ⟨leA, leA, trivial⟩ ?_); clear ct); simp -implicitDefEqProofs -dsimp only [go_sem, *]) | (refine ax.bz (fun _ => ?_) (fun _ => ?_) <;> simp -implicitDefEqProofs -dsimp only [go_sem, *]) | (refine ax.cu (fun _ => ?_) (fun _ => ?_) <;> simp -implicitDefEqProofs -dsimp only [go_sem, *]) | (refine aw.split (fun _ => ?_) (fun _ => ?_) <;> simp -implicitDefEqProofs -dsimp only [go_sem, *]))
 by_cases k5 : k = 5
 · subst k5
   refine Ctr.intro Tryz.mixed Tryz.func144 rfl Tryz.y8 ?_
   refine ev2 @Tryz.ntmps144 @Tryz.results144 ?_
   refine ev1 @ae.v.eq_1 ?_
   repeat' (first | (refine aj.au ?_ (by rfl); first | rfl | (simp [ea, *]; done)) | ((have ct := kg w n (by omega); (first | refine ak.at ct ⟨leA, leA, trivial⟩ ?_ | refine ai.at ct ⟨leA, leA, trivial⟩ ?_); clear ct); simp -implicitDefEqProofs -dsimp only [go_sem, *]) | ((first | refine ak.at (nh _) ⟨leA, trivial⟩ ?_ | refine ai.at (nh _) ⟨leA, trivial⟩ ?_); simp -implicitDefEqProofs -dsimp only [go_sem, *]) | (refine ax.bz (fun _ => ?_) (fun _ => ?_) <;> simp -implicitDefEqProofs -dsimp only [go_sem, *]) | (refine ax.cu (fun _ => ?_) (fun _ => ?_) <;> simp -implicitDefEqProofs -dsimp only [go_sem, *]) | (refine aw.split (fun _ => ?_) (fun _ => ?_) <;> simp -implicitDefEqProofs -dsimp only [go_sem, *]))
 by_cases k6 : k = 6
 · subst k6
   refine Ctr.intro Tryz.mixed Tryz.func144 rfl Tryz.y8 ?_
   refine ev2 @Tryz.ntmps144 @Tryz.results144 ?_
   refine ev1 @ae.v.eq_1 ?_
   repeat' (first | (refine aj.au ?_ (by rfl); first | rfl | (simp [ea, *]; done)) | ((have ct := kg w n (by omega); (first | refine ak.at ct ⟨leA, leA, trivial⟩ ?_ | refine ai.at ct ⟨leA, leA, trivial⟩ ?_); clear ct); simp -implicitDefEqProofs -dsimp only [go_sem, *]) | ((first | refine ak.at (j4 _ _ _) ⟨leA, leA, leA, trivial⟩ ?_ | refine ai.at (j4 _ _ _) ⟨leA, leA, leA, trivial⟩ ?_); simp -implicitDefEqProofs -dsimp only [go_sem, *]) | (refine ax.bz (fun _ => ?_) (fun _ => ?_) <;> simp -implicitDefEqProofs -dsimp only [go_sem, *]) | (refine ax.cu (fun _ => ?_) (fun _ => ?_) <;> simp -implicitDefEqProofs -dsimp only [go_sem, *]) | (refine aw.split (fun _ => ?_) (fun _ => ?_) <;> simp -implicitDefEqProofs -dsimp only [go_sem, *]))
 have b1 : (k == 1) = false := by simp [k1]
 have b2 : (k == 2) = false := by simp at k2; simp [k2]
 have b3 : (k == 3) = false := by simp at k2; simp [k2]
 have b4 : (k == 4) = false := by simp [k4]
 have b5 : (k == 5) = false := by simp [k5]
 have b6 : (k == 6) = false := by simp [k6]
 have e : ea w k n v = (ep k 7 8 && decide (0 ≤ jx (dz n) w.Shocks) && v == 0) := by
  rw [ea, if_neg k1, if_neg k2, if_neg k4, if_neg k5, if_neg k6]
  congr 2
  rw [Bool.eq_iff_iff]; simp [ep]; omega
 rw [e]
 clear e k1 k2 k4 k5 k6
 refine Ctr.intro Tryz.mixed Tryz.func144 rfl Tryz.y8 ?_
 refine ev2 @Tryz.ntmps144 @Tryz.results144 ?_
 refine ev7 @b1 @b2 @b3 @b4 @b5 @b6 @ae.v.eq_1 ?_
 repeat' (first | (refine aj.au ?_ (by rfl); first | rfl | (simp [*]; done)) | ((first | refine ak.at (j4 _ _ _) ⟨leA, leA, leA, trivial⟩ ?_ | refine ai.at (j4 _ _ _) ⟨leA, leA, leA, trivial⟩ ?_); simp -implicitDefEqProofs -dsimp only [go_sem, *]) | ((have ct := kg w n (by omega); (first | refine ak.at ct ⟨leA, leA, trivial⟩ ?_ | refine ai.at ct ⟨leA, leA, trivial⟩ ?_); clear ct); simp -implicitDefEqProofs -dsimp only [go_sem, *]) | (refine ax.bz (fun _ => ?_) (fun _ => ?_) <;> simp -implicitDefEqProofs -dsimp only [go_sem, *]) | (refine ax.cu (fun _ => ?_) (fun _ => ?_) <;> simp -implicitDefEqProofs -dsimp only [go_sem, *]) | (refine aw.split (fun _ => ?_) (fun _ => ?_) <;> simp -implicitDefEqProofs -dsimp only [go_sem, *]))
theorem jz (w : ae) (hp : w.Posts.length ≤ 16777216) (hs : w.Shocks.length ≤ 16777216) : Ctr Tryz.prog 76 [w.v] [] (w.o 0 1) [some (rows bc.cs w.Posts), some (rows al.cs w.Shocks)] := by
 refine Ctr.intro Tryz.mixed Tryz.func76 rfl Tryz.a7m ?_
 refine ev2 @Tryz.ntmps76 @Tryz.results76 ?_
 refine ev1 @ae.v.eq_1 ?_
 refine chT.intro [true, true, false, true, true, false, false, true, true, false, true, true, true, true, false, false] [true, true, true, true, true, true, true, true, true, true, true, true, true, true, false, false] [none, none, some ⟨none, 5, 24, []⟩, none, none, some ⟨some 2, 8, 24, [7]⟩, some ⟨none, 9, 25, []⟩, none, none, some ⟨some 6, 12, 25, [11]⟩, none, none, none, none, none, none] [⟨5, 8, 24, [7]⟩, ⟨9, 12, 25, [11]⟩] (by kernel_rfl) (by rfl) ?_
 refine ev0 ?_
 repeat (with_reducible refine df ?_)
 refine ⟨⟨by omega, by omega, mg _ _⟩, bf _, ⟨by omega, by omega, mg _ _⟩, ?_⟩
 refine aj.pick [2, 3] (by decide) (fun j hj => by omega) (.inl ?_) ?_
 · first | rfl | (simp [ren, bb, posOf, ae.o]; done)
 · simp only [az, List.map_cons, List.map_nil, bg, List.getElem?_cons_zero, List.getElem?_cons_succ, ab]
theorem ai8 (n t : Int) (x : al) (k m v : Int) (hx : lh n t x = true) (hk : k = 5 ∨ k = 6 ∨ k = 7) (hv : -100 ≤ v ∧ v ≤ 100) : Ctr Tryz.prog 166 [x.v, .agg [.int .i64 k, .int .i64 m, .int .i64 v]] [] (.tup [(w4 x k v).v, .bool (abx x k)]) [] := by
 have hb := gk.1 hx
 have hw : IntKind.i64.wrap (x.Size + v) = x.Size + v := wrap_i64 (by omega) (by omega)
 rcases hk with hk | hk | hk
 · subst hk
   refine Ctr.intro Tryz.mixed Tryz.func166 rfl Tryz.amx ?_
   refine ev2 @Tryz.ntmps166 @Tryz.results166 ?_
   refine rn2 @al.v.eq_1 @hw ?_
   refine n8.path [true, true, true, true, true, true, true, true, true, false, false] [false, false, false, false, false, true, true, true, true, false, false] 1 [2] (by kernel_rfl) ?_
   refine rn2 @al.v.eq_1 @hw ?_
   repeat' (first | (refine aj.au ?_ (by rfl); first | rfl | (simp [w4, abx, al.v, *]; done)) | (refine ax.bz (fun _ => ?_) (fun _ => ?_) <;> (repeat ((repeat1' (first | simp -implicitDefEqProofs -dsimp only [go_sem, *] | simp -dsimp (disch := omega) only [wrap_i64])); repeat (with_reducible refine df ?_)))) | (refine ax.cu (fun _ => ?_) (fun _ => ?_) <;> (repeat ((repeat1' (first | simp -implicitDefEqProofs -dsimp only [go_sem, *] | simp -dsimp (disch := omega) only [wrap_i64])); repeat (with_reducible refine df ?_)))))
 · subst hk
   refine Ctr.intro Tryz.mixed Tryz.func166 rfl Tryz.amx ?_
   refine ev2 @Tryz.ntmps166 @Tryz.results166 ?_
   refine rn2 @al.v.eq_1 @hw ?_
   refine n8.path [true, true, true, true, false, false] [false, true, true, true, false, false] 1 [2] (by kernel_rfl) ?_
   refine rn2 @al.v.eq_1 @hw ?_
   repeat' (first | (refine aj.au ?_ (by rfl); first | rfl | (simp [w4, abx, al.v, *]; done)) | (refine ax.bz (fun _ => ?_) (fun _ => ?_) <;> (repeat ((repeat1' (first | simp -implicitDefEqProofs -dsimp only [go_sem, *] | simp -dsimp (disch := omega) only [wrap_i64])); repeat (with_reducible refine df ?_)))) | (refine ax.cu (fun _ => ?_) (fun _ => ?_) <;> (repeat ((repeat1' (first | simp -implicitDefEqProofs -dsimp only [go_sem, *] | simp -dsimp (disch := omega) only [wrap_i64])); repeat (with_reducible refine df ?_)))))
 · subst hk
   refine Ctr.intro Tryz.mixed Tryz.func166 rfl Tryz.amx ?_
   refine ev2 @Tryz.ntmps166 @Tryz.results166 ?_
   refine rn2 @al.v.eq_1 @hw ?_
   refine n8.path [true, true, true, true, true, true, true, true, true, true, true, true, true, true, false, false] [false, false, false, false, false, false, false, false, false, true, true, true, true, true, false, false] 1 [2] (by kernel_rfl) ?_
   refine rn2 @al.v.eq_1 @hw ?_
   repeat' (first | (refine aj.au ?_ (by rfl); first | rfl | (simp [w4, abx, al.v, *]; done)) | (refine ax.bz (fun _ => ?_) (fun _ => ?_) <;> (repeat ((repeat1' (first | simp -implicitDefEqProofs -dsimp only [go_sem, *] | simp -dsimp (disch := omega) only [wrap_i64])); repeat (with_reducible refine df ?_)))) | (refine ax.cu (fun _ => ?_) (fun _ => ?_) <;> (repeat ((repeat1' (first | simp -implicitDefEqProofs -dsimp only [go_sem, *] | simp -dsimp (disch := omega) only [wrap_i64])); repeat (with_reducible refine df ?_)))))
theorem arp (w : ae) (hp : w.Posts.length ≤ 16777216) : Ctr Tryz.prog 164 [w.v] [] (.int .i64 (upN w w.Posts.length : Int)) [] := by
 have hlen : ∀ i, upN w i ≤ i := fun i => Nat.le_trans (List.length_filter_le _ _) (by simp; omega)
 refine Ctr.intro Tryz.mixed Tryz.func164 rfl Tryz.az4 ?_
 refine ev2 @Tryz.ntmps164 @Tryz.results164 ?_
 refine ev1 @ae.v.eq_1 ?_
 refine dn.intro (fun i : Nat => i ≤ w.Posts.length) (fun i => ⟨(.undef :: .ptr 0 0 :: .undef :: .int .i64 (upN w i : Int) :: .int .i64 i :: (un 16 [])), [some w.cs], 0⟩) (fun i => w.Posts.length - i) 0 (Nat.zero_le _) ?_ (fun i hi => ?_)
 · refine bo.cut (1) (by simp) (by simp) ?_ ?_
   · simp [LeC, LeV, ren, bh, upN]
   · simp [cb, ck, ren, ab, ae.cs]
 refine ev1 @ae.cs.eq_1 ?_
 refine aw.split (fun h1 => ?_) (fun h1 => ?_)
 · refine ev2 @h1 @ae.cs.eq_1 ?_
   have hi' : i < w.Posts.length := by simpa using h1
   have hr := bw bc.csl hi'
   have hll := hlen i
   have hs : upN w (i + 1) = upN w i + (if w.Posts[i].Up then 1 else 0) := by
    rw [upN, upN, List.take_succ_eq_append_getElem hi', List.filter_append, List.length_append]
    congr 1
    cases h : w.Posts[i].Up <;> simp [h]
   refine rn3 @hr @bc.cs.eq_1 @ae.cs.eq_1 ?_
   refine aw.split (fun h2 => ?_) (fun h2 => ?_) <;> refine rn1 @h2 ?_
   · refine ⟨i + 1, hi', ?_, by omega⟩
     rw [hs, h2]
     refine bo.cut (1) (by simp) (by simp) ?_ ?_
     · simp [LeC, LeV, ren, bh]
     · simp [cb, ck, ren, ab, ae.cs]
   · refine ⟨i + 1, hi', ?_, by omega⟩
     rw [hs, h2]
     refine bo.cut (1) (by simp) (by simp) ?_ ?_
     · simp [LeC, LeV, ren, bh]
     · simp [cb, ck, ren, ab, ae.cs]
 · refine ev1 @h1 ?_
   have hi' : i = w.Posts.length := by simp at h1; omega
   subst hi'
   exact aj.au rfl (by rfl)
end Go.Proofs
end
section
set_option maxRecDepth 100000
set_option maxHeartbeats 1000000
namespace Go.Proofs
open Go.Lv
def jq (w : ae) (i : Nat) : ae := ⟨w.Now, w.Posts, w.Shocks.take i ++ w.Shocks.drop (i + 1), w.Next, w.Archived + 1⟩
theorem afx (w : ae) (i : Nat) (hw : wB w = true) (hi : i < w.Shocks.length) : Ctr Tryz.prog 165 [w.v, .int .i64 i] [] (.tup [(jq w i).o 0 1, .bool (aev w (am6 w i))]) [some (rows bc.cs w.Posts), some (rows al.cs (w.Shocks.take i ++ w.Shocks.drop (i + 1)))] := by
 have W := ew hw
 have hr := bw al.csl hi
 have pl := W.plen
 have sl := W.slen
 refine Ctr.intro Tryz.mixed Tryz.func165 rfl Tryz.ax8 ?_
 refine ev2 @Tryz.ntmps165 @Tryz.results165 ?_
 refine ev1 @ae.v.eq_1 ?_
 refine n8.path [true, true, true, true, true, true, true, true, true, false, false] [false, false, true, true, true, true, true, false, false, false, false] 1 [4] (by kernel_rfl) ?_
 refine ev0 ?_
 (have ct := jz w (by omega) (by omega); (first | refine ak.at ct ⟨leA, trivial⟩ ?_ | refine ai.at ct ⟨leA, trivial⟩ ?_); clear ct)
 refine rn3 @ae.o.eq_1 @hr @al.cs.eq_1 ?_
 refine chT.intro [false, true, true, true, true, false, true, true, true, true, true, false, true, false] [true, true, true, true, true, true, true, true, true, true, true, true, true, false] [some ⟨none, 15, 25, []⟩, none, none, none, none, some ⟨some 0, 20, 25, [19]⟩, none, none, none, none, none, some ⟨some 5, 26, 25, [19, 25]⟩, none, none] [⟨11, 26, 25, [19, 25]⟩] (by kernel_rfl) (by rfl) ?_
 have hwi : IntKind.i64.wrap ((i : Int) + 1) = ((i + 1 : Nat) : Int) := by rw [wrap_i64 (by omega) (by omega)]; omega
 have ht := agp al.csl w.Shocks i
 have hd := tu al.csl w.Shocks (i + 1)
 have hap : rows al.cs (w.Shocks.take i) ++ rows al.cs (w.Shocks.drop (i + 1)) = rows al.cs (w.Shocks.take i ++ w.Shocks.drop (i + 1)) := (jk _ _).symm
 have hln : i + (w.Shocks.length - (i + 1)) = (w.Shocks.take i ++ w.Shocks.drop (i + 1)).length := by simp; omega
 refine rn6 @hwi @Nat.sub_zero @ht @hd @hap @hln ?_
 refine ⟨⟨by omega, by omega, mg _ _⟩, ?_⟩
 have hwa : IntKind.i64.wrap (w.Archived + 1) = w.Archived + 1 := by have := W.arch; exact wrap_i64 (by omega) (by omega)
 refine n8.path [true, true, true, true, true, true, true, true, true, true, true, true, true, true, true, true, true, false, false] [false, false, false, false, false, false, false, false, false, true, true, true, true, true, true, true, true, false, false] 1 [1] (by kernel_rfl) ?_
 refine rn1 @hwa ?_
 have hx := W.shocks _ (List.getElem_mem hi)
 have hxb := gk.1 hx
 have hwn : IntKind.i64.wrap (w.Now - w.Shocks[i].Tick) = w.Now - w.Shocks[i].Tick := by have := W.now; exact wrap_i64 (by omega) (by omega)
 repeat' (first | (refine ax.bz (fun _ => ?_) (fun _ => ?_) <;> (repeat ((repeat1' (first | simp -implicitDefEqProofs -dsimp only [go_sem, *] | simp -dsimp (disch := omega) only [wrap_i64])); repeat (with_reducible refine df ?_)))) | (refine ax.cu (fun _ => ?_) (fun _ => ?_) <;> (repeat ((repeat1' (first | simp -implicitDefEqProofs -dsimp only [go_sem, *] | simp -dsimp (disch := omega) only [wrap_i64])); repeat (with_reducible refine df ?_)))))
 all_goals
  refine aj.pick [2, 6] (by decide) (fun j hj => by omega) (.inl ?_) ?_
  · simp [ren, bb, posOf, jq, aev, zt hi, *]
  · simp only [az, List.map_cons, List.map_nil, bg, List.getElem?_cons_zero, List.getElem?_cons_succ, ab]
end Go.Proofs
end
section
set_option maxRecDepth 100000
set_option maxHeartbeats 1000000
namespace Go.Proofs
open Go.Lv
theorem bd {x y : V} (h : LeV x y := by first | exact leA | exact ae.le rfl rfl) : LeV x y := h
def e7 (w : ae) (k n v : Int) : Bool := pn w k n v && wB (fu w k n v)
theorem akt (w : ae) (n v : Int) (hw : wB w = true) (hv : 1 ≤ v) (hv2 : v ≤ 9223372036854775807) : Ctr Tryz.prog 134 [w.v, .agg [.int .i64 1, .int .i64 n, .int .i64 v]] [] (.tup [(gh w 1 n v).o 0 1, .bool (e7 w 1 n v)]) [some (rows bc.cs w.Posts), some (rows al.cs w.Shocks)] := by
 have W := ew hw
 have pl := W.plen
 have sl := W.slen
 have wn := W.now
 have hw1 : IntKind.i64.wrap (1000000 - w.Now) = 1000000 - w.Now := wrap_i64 (by omega) (by omega)
 refine Ctr.intro Tryz.mixed Tryz.func134 rfl Tryz.xa ?_
 refine ev2 @Tryz.ntmps134 @Tryz.results134 ?_
 refine ev1 @ae.v.eq_1 ?_
 (have ct := jz w (by omega) (by omega); (first | refine ak.at ct ⟨bd, trivial⟩ ?_ | refine ai.at ct ⟨bd, trivial⟩ ?_); clear ct)
 refine rn2 @ae.o.eq_1 @hw1 ?_
 refine aw.split (fun h1 => ?_) (fun h1 => ?_)
 · refine rn1 @h1 ?_
   have hm : ¬ v ≤ 1000000 - w.Now := by simp at h1; omega
   have e1 : gh w 1 n v = w := by simp [gh, hm]
   have e2 : e7 w 1 n v = false := by simp [e7, pn, hm]
   rw [e1, e2]
   refine aj.pick [3, 4] (by decide) (fun j hj => by omega) (.inl ?_) ?_
   · first | rfl | (simp [ren, bb, posOf, ae.o]; done)
   · simp only [az, List.map_cons, List.map_nil, bg, List.getElem?_cons_zero, List.getElem?_cons_succ, ab]
 · have hm : v ≤ 1000000 - w.Now := by simp at h1; omega
   have hw2 : IntKind.i64.wrap (w.Now + v) = w.Now + v := wrap_i64 (by omega) (by omega)
   have e1 : gh w 1 n v = fu w 1 n v := by simp [gh, hm]
   have e3 : fu w 1 n v = ⟨w.Now + v, w.Posts, w.Shocks, w.Next, w.Archived⟩ := by simp [fu]
   have e2 : e7 w 1 n v = wB ⟨w.Now + v, w.Posts, w.Shocks, w.Next, w.Archived⟩ := by simp [e7, pn, hm, e3]
   rw [e1, e2, e3]
   refine rn2 @h1 @hw2 ?_
   (have ct := ey ⟨w.Now + v, w.Posts, w.Shocks, w.Next, w.Archived⟩ (by simp; omega) (by simp; omega); (first | refine ak.at ct ⟨bd, trivial⟩ ?_ | refine ai.at ct ⟨bd, trivial⟩ ?_); clear ct)
   refine rn0 ?_
   refine aj.pick [3, 4] (by decide) (fun j hj => by omega) (.inl ?_) ?_
   · first | rfl | (simp [ren, bb, posOf, ae.o]; done)
   · simp only [az, List.map_cons, List.map_nil, bg, List.getElem?_cons_zero, List.getElem?_cons_succ, ab]
theorem akb (w : ae) (k n v : Int) (hk : k = 2 ∨ k = 3) (hw : wB w = true) (hs : ea w k n v = true) : Ctr Tryz.prog 134 [w.v, .agg [.int .i64 k, .int .i64 n, .int .i64 v]] [] (.tup [(gh w k n v).o 0 1, .bool (e7 w k n v)]) [some (rows bc.cs (gh w k n v).Posts), some (rows al.cs w.Shocks)] := by
 have W := ew hw
 have pl := W.plen
 have sl := W.slen
 obtain ⟨i, hi, hix, hin⟩ : ∃ i, ∃ h : i < w.Posts.length, jx (lk n) w.Posts = (i : Int) ∧ lk n w.Posts[i] = true := by
  have : decide (0 ≤ jx (lk n) w.Posts) = true := by
   rcases hk with rfl | rfl <;> simp [ea] at hs <;> simp [hs.1]
  exact uw this
 have hp : pAt w n = i := by simp [pAt, hix]
 have e1 : gh w k n v = ⟨w.Now, w.Posts.set i ⟨n, decide (k = 3), w.Now⟩, w.Shocks, w.Next, w.Archived⟩ := by
  rcases hk with rfl | rfl <;> simp [gh, fu, hp]
 have e2 : e7 w k n v = (w.Posts[i].Up != decide (k = 3) && wB ⟨w.Now, w.Posts.set i ⟨n, decide (k = 3), w.Now⟩, w.Shocks, w.Next, w.Archived⟩) := by
  rcases hk with rfl | rfl <;> simp [e7, pn, fu, hp, akr hi]
 have hr := bw bc.csl hi
 have hsp : ∀ b, dq (rows bc.cs w.Posts) (i * 3) [.int .i64 n, .bool b, .int .i64 w.Now] = rows bc.cs (w.Posts.set i ⟨n, b, w.Now⟩) := fun b => ob (cs := bc.cs) bc.csl hi ⟨n, b, w.Now⟩
 have hgood := ey ⟨w.Now, w.Posts.set i ⟨n, decide (k = 3), w.Now⟩, w.Shocks, w.Next, w.Archived⟩ (by simp; omega) (by simp; omega)
 rw [e1, e2]
 have hlen : ∀ p, (w.Posts.set i p).length = w.Posts.length := fun p => by simp
 rcases hk with rfl | rfl
 · have hd : decide ((2 : Int) = 3) = false := rfl
   rw [hd] at hgood ⊢
   simp only [ae.v, hlen] at hgood
   simp only [ae.o, hlen]
   refine Ctr.intro Tryz.mixed Tryz.func134 rfl Tryz.xa ?_
   refine ev2 @Tryz.ntmps134 @Tryz.results134 ?_
   refine ev1 @ae.v.eq_1 ?_
   (have ct := jz w (by omega) (by omega); (first | refine ak.at ct ⟨bd, trivial⟩ ?_ | refine ai.at ct ⟨bd, trivial⟩ ?_); clear ct)
   refine rn1 @ae.o.eq_1 ?_
   (have ct := od w n (by omega); (first | refine ak.at ct ⟨bd, bd, trivial⟩ ?_ | refine ai.at ct ⟨bd, bd, trivial⟩ ?_); clear ct)
   rw [hix]
   refine rn2 @hr @bc.cs.eq_1 ?_
   refine ax.bz (fun g => ?_) (fun g => ?_) <;> refine rn3 @g @hsp @Int.toNat_natCast ?_
   · skip
     (first | refine ak.at (hgood) ⟨bd, trivial⟩ ?_ | refine ai.at (hgood) ⟨bd, trivial⟩ ?_)
     refine rn1 @g ?_
     simp at g
     refine aj.pick [3, 4] (by decide) (fun j hj => by omega) (.inl ?_) ?_
     · first | rfl | (simp [ren, bb, posOf, ae.o, g]; done)
     · simp only [az, List.map_cons, List.map_nil, bg, List.getElem?_cons_zero, List.getElem?_cons_succ, ab]
   · skip
     simp at g
     refine aj.pick [3, 4] (by decide) (fun j hj => by omega) (.inl ?_) ?_
     · first | rfl | (simp [ren, bb, posOf, ae.o, g]; done)
     · simp only [az, List.map_cons, List.map_nil, bg, List.getElem?_cons_zero, List.getElem?_cons_succ, ab]
 · have hd : decide ((3 : Int) = 3) = true := rfl
   rw [hd] at hgood ⊢
   simp only [ae.v, hlen] at hgood
   simp only [ae.o, hlen]
   refine Ctr.intro Tryz.mixed Tryz.func134 rfl Tryz.xa ?_
   refine ev2 @Tryz.ntmps134 @Tryz.results134 ?_
   refine ev1 @ae.v.eq_1 ?_
   (have ct := jz w (by omega) (by omega); (first | refine ak.at ct ⟨bd, trivial⟩ ?_ | refine ai.at ct ⟨bd, trivial⟩ ?_); clear ct)
   refine rn1 @ae.o.eq_1 ?_
   (have ct := od w n (by omega); (first | refine ak.at ct ⟨bd, bd, trivial⟩ ?_ | refine ai.at ct ⟨bd, bd, trivial⟩ ?_); clear ct)
   rw [hix]
   refine rn2 @hr @bc.cs.eq_1 ?_
   refine ax.bz (fun g => ?_) (fun g => ?_) <;> refine rn3 @g @hsp @Int.toNat_natCast ?_
   · skip
     (first | refine ak.at (hgood) ⟨bd, trivial⟩ ?_ | refine ai.at (hgood) ⟨bd, trivial⟩ ?_)
     refine rn1 @g ?_
     simp at g
     refine aj.pick [3, 4] (by decide) (fun j hj => by omega) (.inl ?_) ?_
     · first | rfl | (simp [ren, bb, posOf, ae.o, g]; done)
     · simp only [az, List.map_cons, List.map_nil, bg, List.getElem?_cons_zero, List.getElem?_cons_succ, ab]
   · skip
     simp at g
     refine aj.pick [3, 4] (by decide) (fun j hj => by omega) (.inl ?_) ?_
     · first | rfl | (simp [ren, bb, posOf, ae.o, g]; done)
     · simp only [az, List.map_cons, List.map_nil, bg, List.getElem?_cons_zero, List.getElem?_cons_succ, ab]
theorem akn (w : ae) (n v : Int) (hw : wB w = true) : Ctr Tryz.prog 134 [w.v, .agg [.int .i64 4, .int .i64 n, .int .i64 v]] [] (.tup [(gh w 4 n v).o 0 1, .bool (e7 w 4 n v)]) [some (rows bc.cs w.Posts), some (rows al.cs (gh w 4 n v).Shocks)] := by
 have W := ew hw
 have pl := W.plen
 have sl := W.slen
 have wn := W.next
 have hwn : IntKind.i64.wrap (w.Next + 1) = w.Next + 1 := wrap_i64 (by omega) (by omega)
 obtain ⟨x, hx⟩ : ∃ x : al, x = ⟨w.Next, 0, (upN w w.Posts.length : Int), 0, w.Now⟩ := ⟨_, rfl⟩
 have e1 : gh w 4 n v = ⟨w.Now, w.Posts, w.Shocks ++ [x], w.Next + 1, w.Archived⟩ := by simp [gh, fu, hx]
 have e2 : e7 w 4 n v = wB ⟨w.Now, w.Posts, w.Shocks ++ [x], w.Next + 1, w.Archived⟩ := by simp [e7, pn, fu, hx]
 have hsn : rows al.cs w.Shocks ++ [.int .i64 w.Next, .int .i64 0, .int .i64 (upN w w.Posts.length : Int), .int .i64 0, .int .i64 w.Now] = rows al.cs (w.Shocks ++ [x]) := by
  rw [hx]
  exact dy (cs := al.cs) w.Shocks ⟨w.Next, 0, (upN w w.Posts.length : Int), 0, w.Now⟩
 have hln : w.Shocks.length + 1 = (w.Shocks ++ [x]).length := by simp
 have hgood := ey ⟨w.Now, w.Posts, w.Shocks ++ [x], w.Next + 1, w.Archived⟩ (by simp; omega) (by simp; omega)
 rw [e1, e2]
 refine Ctr.intro Tryz.mixed Tryz.func134 rfl Tryz.xa ?_
 refine ev2 @Tryz.ntmps134 @Tryz.results134 ?_
 refine ev1 @ae.v.eq_1 ?_
 (have ct := jz w (by omega) (by omega); (first | refine ak.at ct ⟨bd, trivial⟩ ?_ | refine ai.at ct ⟨bd, trivial⟩ ?_); clear ct)
 refine rn1 @ae.o.eq_1 ?_
 (have ct := arp w (by omega); (first | refine ak.at ct ⟨bd, trivial⟩ ?_ | refine ai.at ct ⟨bd, trivial⟩ ?_); clear ct)
 refine rn3 @hwn @hsn @hln ?_
 (first | refine ak.at (hgood) ⟨bd, trivial⟩ ?_ | refine ai.at (hgood) ⟨bd, trivial⟩ ?_)
 refine rn1 @hsn ?_
 refine aj.pick [3, 4] (by decide) (fun j hj => by omega) (.inl ?_) ?_
 · first | rfl | (simp [ren, bb, posOf, ae.o]; done)
 · simp only [az, List.map_cons, List.map_nil, bg, List.getElem?_cons_zero, List.getElem?_cons_succ, ab]
theorem aj5 (w : ae) (n v : Int) (hw : wB w = true) (hs : ea w 8 n v = true) : Ctr Tryz.prog 134 [w.v, .agg [.int .i64 8, .int .i64 n, .int .i64 v]] [] (.tup [(gh w 8 n v).o 0 1, .bool (e7 w 8 n v)]) [some (rows bc.cs w.Posts), some (rows al.cs (gh w 8 n v).Shocks)] := by
 have W := ew hw
 have pl := W.plen
 have sl := W.slen
 obtain ⟨i, hi, hix, hin⟩ : ∃ i, ∃ h : i < w.Shocks.length, jx (dz n) w.Shocks = (i : Int) ∧ dz n w.Shocks[i] = true := by
  have : decide (0 ≤ jx (dz n) w.Shocks) = true := by
   simp [ea] at hs
   simp [hs.1]
  exact uw this
 have hp : sAt w n = i := by simp [sAt, hix]
 have e1 : gh w 8 n v = jq w i := by simp [gh, fu, jq, hp]
 have e2 : e7 w 8 n v = (aev w (am6 w i) && wB (jq w i)) := by simp [e7, pn, fu, jq, hp]
 have hgood := ey (jq w i) (by simp [jq]; omega) (by simp [jq]; omega)
 have harch := afx w i hw hi
 have e3 : (jq w i).Shocks = w.Shocks.take i ++ w.Shocks.drop (i + 1) := rfl
 rw [e1, e2, e3]
 refine Ctr.intro Tryz.mixed Tryz.func134 rfl Tryz.xa ?_
 refine ev2 @Tryz.ntmps134 @Tryz.results134 ?_
 refine ev1 @ae.v.eq_1 ?_
 (have ct := jz w (by omega) (by omega); (first | refine ak.at ct ⟨bd, trivial⟩ ?_ | refine ai.at ct ⟨bd, trivial⟩ ?_); clear ct)
 refine rn1 @ae.o.eq_1 ?_
 (have ct := kp w n (by omega); (first | refine ak.at ct ⟨bd, bd, trivial⟩ ?_ | refine ai.at ct ⟨bd, bd, trivial⟩ ?_); clear ct)
 rw [hix]
 refine rn0 ?_
 (first | refine ak.at (harch) ⟨bd, bd, trivial⟩ ?_ | refine ai.at (harch) ⟨bd, bd, trivial⟩ ?_)
 refine rn1 @ae.o.eq_1 ?_
 refine ax.bz (fun g => ?_) (fun g => ?_) <;> refine rn1 @g ?_
 · skip
   (first | refine ak.at (hgood) ⟨bd, trivial⟩ ?_ | refine ai.at (hgood) ⟨bd, trivial⟩ ?_)
   refine rn1 @g ?_
   refine aj.pick [6, 7] (by decide) (fun j hj => by omega) (.inl ?_) ?_
   · first | rfl | (simp [ren, bb, posOf, ae.o, g, jq]; done)
   · simp only [az, List.map_cons, List.map_nil, bg, List.getElem?_cons_zero, List.getElem?_cons_succ, ab]
 · skip
   refine aj.pick [6, 7] (by decide) (fun j hj => by omega) (.inl ?_) ?_
   · first | rfl | (simp [ren, bb, posOf, ae.o, g, jq]; done)
   · simp only [az, List.map_cons, List.map_nil, bg, List.getElem?_cons_zero, List.getElem?_cons_succ, ab]
theorem ajt (w : ae) (k n v : Int) (hk : k = 5 ∨ k = 6 ∨ k = 7) (hw : wB w = true) (hs : ea w k n v = true) (hv : -100 ≤ v ∧ v ≤ 100) : Ctr Tryz.prog 134 [w.v, .agg [.int .i64 k, .int .i64 n, .int .i64 v]] [] (.tup [(gh w k n v).o 0 1, .bool (e7 w k n v)]) [some (rows bc.cs w.Posts), some (rows al.cs (gh w k n v).Shocks)] := by
 have W := ew hw
 have pl := W.plen
 have sl := W.slen
 obtain ⟨i, hi, hix, hin⟩ : ∃ i, ∃ h : i < w.Shocks.length, jx (dz n) w.Shocks = (i : Int) ∧ dz n w.Shocks[i] = true := by
  have : decide (0 ≤ jx (dz n) w.Shocks) = true := by
   rcases hk with rfl | rfl | rfl <;> simp [ea] at hs <;> simp [hs]
  exact uw this
 have hp : sAt w n = i := by simp [sAt, hix]
 have hsh := zt hi
 have e1 : gh w k n v = ⟨w.Now, w.Posts, w.Shocks.set i (w4 w.Shocks[i] k v), w.Next, w.Archived⟩ := by
  rcases hk with rfl | rfl | rfl <;> simp [gh, fu, hp, hsh]
 have e2 : e7 w k n v = (abx w.Shocks[i] k && wB ⟨w.Now, w.Posts, w.Shocks.set i (w4 w.Shocks[i] k v), w.Next, w.Archived⟩) := by
  rcases hk with rfl | rfl | rfl <;> simp [e7, pn, fu, hp, hsh]
 have hr := bw al.csl hi
 have hchg := ai8 w.Next w.Now w.Shocks[i] k n v (W.shocks _ (List.getElem_mem hi)) hk hv
 have hlen : ∀ p, (w.Shocks.set i p).length = w.Shocks.length := fun p => by simp
 have hgood := ey ⟨w.Now, w.Posts, w.Shocks.set i (w4 w.Shocks[i] k v), w.Next, w.Archived⟩ (by simp; omega) (by simp; omega)
 generalize w4 w.Shocks[i] k v = y at e1 e2 hchg hgood
 have hsp : dq (rows al.cs w.Shocks) (i * 5) [.int .i64 y.Number, .int .i64 y.State, .int .i64 y.Seen, .int .i64 y.Size, .int .i64 y.Tick] = rows al.cs (w.Shocks.set i y) := ob (cs := al.cs) al.csl hi y
 rw [e1, e2]
 clear e1 e2
 simp only [ae.v, hlen] at hgood
 simp only [ae.o, hlen]
 generalize abx w.Shocks[i] k = b at *
 rcases hk with rfl | rfl | rfl
 · skip
   refine Ctr.intro Tryz.mixed Tryz.func134 rfl Tryz.xa ?_
   refine ev2 @Tryz.ntmps134 @Tryz.results134 ?_
   refine ev1 @ae.v.eq_1 ?_
   (have ct := jz w (by omega) (by omega); (first | refine ak.at ct ⟨bd, trivial⟩ ?_ | refine ai.at ct ⟨bd, trivial⟩ ?_); clear ct)
   refine rn1 @ae.o.eq_1 ?_
   (have ct := kp w n (by omega); (first | refine ak.at ct ⟨bd, bd, trivial⟩ ?_ | refine ai.at ct ⟨bd, bd, trivial⟩ ?_); clear ct)
   rw [hix]
   refine rn2 @hr @al.cs.eq_1 ?_
   (first | refine ak.at (hchg) ⟨bd, bd, trivial⟩ ?_ | refine ai.at (hchg) ⟨bd, bd, trivial⟩ ?_)
   refine rn3 @al.v.eq_1 @hsp @Int.toNat_natCast ?_
   refine ax.bz (fun g => ?_) (fun g => ?_) <;> refine rn3 @g @hsp @Int.toNat_natCast ?_
   · skip
     (first | refine ak.at (hgood) ⟨bd, trivial⟩ ?_ | refine ai.at (hgood) ⟨bd, trivial⟩ ?_)
     refine rn1 @g ?_
     refine aj.pick [3, 4] (by decide) (fun j hj => by omega) (.inl ?_) ?_
     · first | rfl | (simp [ren, bb, posOf, ae.o, g]; done)
     · simp only [az, List.map_cons, List.map_nil, bg, List.getElem?_cons_zero, List.getElem?_cons_succ, ab]
   · skip
     refine aj.pick [3, 4] (by decide) (fun j hj => by omega) (.inl ?_) ?_
     · first | rfl | (simp [ren, bb, posOf, ae.o, g]; done)
     · simp only [az, List.map_cons, List.map_nil, bg, List.getElem?_cons_zero, List.getElem?_cons_succ, ab]
 · skip
   refine Ctr.intro Tryz.mixed Tryz.func134 rfl Tryz.xa ?_
   refine ev2 @Tryz.ntmps134 @Tryz.results134 ?_
   refine ev1 @ae.v.eq_1 ?_
   (have ct := jz w (by omega) (by omega); (first | refine ak.at ct ⟨bd, trivial⟩ ?_ | refine ai.at ct ⟨bd, trivial⟩ ?_); clear ct)
   refine rn1 @ae.o.eq_1 ?_
   (have ct := kp w n (by omega); (first | refine ak.at ct ⟨bd, bd, trivial⟩ ?_ | refine ai.at ct ⟨bd, bd, trivial⟩ ?_); clear ct)
   rw [hix]
   refine rn2 @hr @al.cs.eq_1 ?_
   (first | refine ak.at (hchg) ⟨bd, bd, trivial⟩ ?_ | refine ai.at (hchg) ⟨bd, bd, trivial⟩ ?_)
   refine rn3 @al.v.eq_1 @hsp @Int.toNat_natCast ?_
   refine ax.bz (fun g => ?_) (fun g => ?_) <;> refine rn3 @g @hsp @Int.toNat_natCast ?_
   · skip
     (first | refine ak.at (hgood) ⟨bd, trivial⟩ ?_ | refine ai.at (hgood) ⟨bd, trivial⟩ ?_)
     refine rn1 @g ?_
     refine aj.pick [3, 4] (by decide) (fun j hj => by omega) (.inl ?_) ?_
     · first | rfl | (simp [ren, bb, posOf, ae.o, g]; done)
     · simp only [az, List.map_cons, List.map_nil, bg, List.getElem?_cons_zero, List.getElem?_cons_succ, ab]
   · skip
     refine aj.pick [3, 4] (by decide) (fun j hj => by omega) (.inl ?_) ?_
     · first | rfl | (simp [ren, bb, posOf, ae.o, g]; done)
     · simp only [az, List.map_cons, List.map_nil, bg, List.getElem?_cons_zero, List.getElem?_cons_succ, ab]
 · skip
   refine Ctr.intro Tryz.mixed Tryz.func134 rfl Tryz.xa ?_
   refine ev2 @Tryz.ntmps134 @Tryz.results134 ?_
   refine ev1 @ae.v.eq_1 ?_
   (have ct := jz w (by omega) (by omega); (first | refine ak.at ct ⟨bd, trivial⟩ ?_ | refine ai.at ct ⟨bd, trivial⟩ ?_); clear ct)
   refine rn1 @ae.o.eq_1 ?_
   (have ct := kp w n (by omega); (first | refine ak.at ct ⟨bd, bd, trivial⟩ ?_ | refine ai.at ct ⟨bd, bd, trivial⟩ ?_); clear ct)
   rw [hix]
   refine rn2 @hr @al.cs.eq_1 ?_
   (first | refine ak.at (hchg) ⟨bd, bd, trivial⟩ ?_ | refine ai.at (hchg) ⟨bd, bd, trivial⟩ ?_)
   refine rn3 @al.v.eq_1 @hsp @Int.toNat_natCast ?_
   refine ax.bz (fun g => ?_) (fun g => ?_) <;> refine rn3 @g @hsp @Int.toNat_natCast ?_
   · skip
     (first | refine ak.at (hgood) ⟨bd, trivial⟩ ?_ | refine ai.at (hgood) ⟨bd, trivial⟩ ?_)
     refine rn1 @g ?_
     refine aj.pick [3, 4] (by decide) (fun j hj => by omega) (.inl ?_) ?_
     · first | rfl | (simp [ren, bb, posOf, ae.o, g]; done)
     · simp only [az, List.map_cons, List.map_nil, bg, List.getElem?_cons_zero, List.getElem?_cons_succ, ab]
   · skip
     refine aj.pick [3, 4] (by decide) (fun j hj => by omega) (.inl ?_) ?_
     · first | rfl | (simp [ren, bb, posOf, ae.o, g]; done)
     · simp only [az, List.map_cons, List.map_nil, bg, List.getElem?_cons_zero, List.getElem?_cons_succ, ab]
theorem qk {w : ae} {k n v : Int} (h : ea w k n v = true) : (k = 1 ∧ 1 ≤ v) ∨ (k = 2 ∨ k = 3) ∨ k = 4 ∨ k = 8 ∨ ((k = 5 ∨ k = 6 ∨ k = 7) ∧ -100 ≤ v ∧ v ≤ 100) := by
 unfold ea at h
 split at h
 · rename_i hk; simp at h; exact .inl ⟨hk, h.2⟩
 split at h
 · rename_i hk; exact .inr (.inl hk)
 split at h
 · rename_i hk; exact .inr (.inr (.inl hk))
 split at h
 · rename_i hk; simp [ep] at h; exact .inr (.inr (.inr (.inr ⟨.inl hk, by omega, by omega⟩)))
 split at h
 · rename_i hk; simp [ep] at h; exact .inr (.inr (.inr (.inr ⟨.inr (.inl hk), by omega, by omega⟩)))
 · simp at h
   rcases h.1.1 with hk | hk
   · exact .inr (.inr (.inr (.inr ⟨.inr (.inr hk), by omega, by omega⟩)))
   · exact .inr (.inr (.inr (.inl hk)))
theorem am1 (w : ae) (k n v : Int) (hw : wB w = true) (hs : ea w k n v = true) (hv : v ≤ 9223372036854775807) : Ctr Tryz.prog 134 [w.v, .agg [.int .i64 k, .int .i64 n, .int .i64 v]] [] (.tup [(gh w k n v).o 0 1, .bool (e7 w k n v)]) [some (rows bc.cs (gh w k n v).Posts), some (rows al.cs (gh w k n v).Shocks)] := by
 rcases qk hs with ⟨rfl, h1⟩ | hk | rfl | rfl | ⟨hk, h1⟩
 · have e : (gh w 1 n v).Posts = w.Posts ∧ (gh w 1 n v).Shocks = w.Shocks := by unfold gh fu; split <;> simp
   rw [e.1, e.2]
   exact akt w n v hw h1 hv
 · have e : (gh w k n v).Shocks = w.Shocks := by rcases hk with rfl | rfl <;> simp [gh, fu]
   rw [e]
   exact akb w k n v hk hw hs
 · have e : (gh w 4 n v).Posts = w.Posts := by simp [gh, fu]
   rw [e]
   exact akn w n v hw
 · have e : (gh w 8 n v).Posts = w.Posts := by simp [gh, fu]
   rw [e]
   exact aj5 w n v hw hs
 · have e : (gh w k n v).Posts = w.Posts := by rcases hk with rfl | rfl | rfl <;> simp [gh, fu]
   rw [e]
   exact ajt w k n v hk hw hs h1
def fi (w : ae) (k n v : Int) : Option ae := if wB w && ea w k n v && e7 w k n v then some (fu w k n v) else none
def alo : V := .agg [.int .i64 0, .nilsl, .nilsl, .int .i64 0, .int .i64 0]
def ado : Option ae → V
 | none => .tup [alo, .bool false]
 | some b => .tup [b.o 0 1, .bool true]
def aet : Option ae → Hp
 | none => []
 | some b => [some (rows bc.cs b.Posts), some (rows al.cs b.Shocks)]
theorem yt {w b : ae} {k n v : Int} (h : fi w k n v = some b) : wB w = true ∧ ea w k n v = true ∧ pn w k n v = true ∧ b = fu w k n v ∧ wB b = true := by
 unfold fi at h
 split at h
 · rename_i h2
   simp only [Bool.and_eq_true, e7] at h2
   simp only [Option.some.injEq] at h
   subst h
   exact ⟨h2.1.1, h2.1.2, h2.2.1, rfl, h2.2.2⟩
 · cases h
theorem alw {w : ae} {k n v : Int} (h : e7 w k n v = true) : gh w k n v = fu w k n v := by
 unfold gh
 split
 · rename_i h1
   obtain ⟨rfl, h2⟩ := h1
   simp [e7, pn, h2] at h
 · rfl
theorem tb (w : ae) (k n v : Int) (hp : w.Posts.length ≤ 16777216) (hs : w.Shocks.length ≤ 16777216) (hv : v ≤ 9223372036854775807) : Ctr Tryz.prog 101 [w.v, .agg [.int .i64 k, .int .i64 n, .int .i64 v]] [] (ado (fi w k n v)) (aet (fi w k n v)) := by
 refine Ctr.intro Tryz.mixed Tryz.func101 rfl Tryz.a0v ?_
 refine ev2 @Tryz.ntmps101 @Tryz.results101 ?_
 refine ev1 @ae.v.eq_1 ?_
 (have ct := ey w (by omega) (by omega); (first | refine ak.at ct ⟨bd, trivial⟩ ?_ | refine ai.at ct ⟨bd, trivial⟩ ?_); clear ct)
 have no : fi w k n v = none → ∀ h : Hp, aj 0 (.tup [.agg [.int .i64 0, .nilsl, .nilsl, .int .i64 0, .int .i64 0], .bool false]) h (ado (fi w k n v)) (aet (fi w k n v)) := by
  intro e h
  rw [e]
  exact aj.au rfl (by rfl)
 cases hw : wB w with
 | false =>
  refine rn0 ?_
  exact no (by simp [fi, hw]) _
 | true =>
  refine rn0 ?_
  (have ct := ams w k n v hp hs; (first | refine ak.at ct ⟨bd, bd, trivial⟩ ?_ | refine ai.at ct ⟨bd, bd, trivial⟩ ?_); clear ct)
  cases hst : ea w k n v with
  | false =>
   refine rn0 ?_
   exact no (by simp [fi, hst]) _
  | true =>
   refine rn0 ?_
   have hm := am1 w k n v hw hst hv
   cases hd : e7 w k n v with
   | false =>
    rw [hd] at hm
    (first | refine ak.at (hm) ⟨bd, bd, trivial⟩ ?_ | refine ai.at (hm) ⟨bd, bd, trivial⟩ ?_)
    refine rn1 @ae.o.eq_1 ?_
    exact no (by simp [fi, hd]) _
   | true =>
    rw [hd] at hm
    (first | refine ak.at (hm) ⟨bd, bd, trivial⟩ ?_ | refine ai.at (hm) ⟨bd, bd, trivial⟩ ?_)
    refine rn1 @ae.o.eq_1 ?_
    have e : fi w k n v = some (fu w k n v) := by simp [fi, hw, hst, hd]
    have e2 := alw hd
    rw [e, ← e2, ado, aet]

    refine aj.pick [3, 4] (by decide) (fun j hj => by omega) (.inl ?_) ?_
    · first | rfl | (simp [ren, bb, posOf, ae.o]; done)
    · simp only [az, List.map_cons, List.map_nil, bg, List.getElem?_cons_zero, List.getElem?_cons_succ, ab]
end Go.Proofs
end
section
set_option maxRecDepth 100000
namespace Go.Proofs
open Go.Lv
structure eg where
 Id : Int
 Tick : Int
 X : Int
 Y : Int
 Deep : Int
 Size : Int
 Grade : Int
def eg.cs (r : eg) : List V := [.int .i64 r.Id, .int .i64 r.Tick, .int .i64 r.X, .int .i64 r.Y, .int .i64 r.Deep, .int .i64 r.Size, .int .i64 r.Grade]
def eg.v (r : eg) : V := .agg [.int .i64 r.Id, .int .i64 r.Tick, .int .i64 r.X, .int .i64 r.Y, .int .i64 r.Deep, .int .i64 r.Size, .int .i64 r.Grade]
theorem eg.csl (a : eg) : a.cs.length = 7 := rfl
instance : r3 eg.cs 7 := ⟨fun _ => rfl, fun _ d => by cases d <;> rfl, fun _ => rfl, fun _ => rfl⟩
def eg.ok (r : eg) : Prop := bu r.Id ∧ bu r.Tick ∧ bu r.X ∧ bu r.Y ∧ bu r.Deep ∧ bu r.Size ∧ bu r.Grade
abbrev eg.rows (L : List eg) : List V := Go.Lv.rows eg.cs L
abbrev eg.sl (L : List eg) : V := .sl L.length 7 (Go.Lv.rows eg.cs L)
abbrev eg.zs : List V := [.int .i64 0, .int .i64 0, .int .i64 0, .int .i64 0, .int .i64 0, .int .i64 0, .int .i64 0]
def eg.mk1 (k : Int) : eg := ⟨k, k + 1, k + 1 + 1, k + 1 + 1 + 1, k + 1 + 1 + 1 + 1, k + 1 + 1 + 1 + 1 + 1, k + 1 + 1 + 1 + 1 + 1 + 1⟩
def eg.marks (k : Int) (n : Nat) : List eg := (List.range n).map fun i : Nat => eg.mk1 (k + 7 * (i : Int))
@[simp] theorem eg.uq (k : Int) (n : Nat) : (eg.marks k n).length = n := by simp [eg.marks]
end Go.Proofs
end
section
set_option maxRecDepth 100000
namespace Go.Proofs
open Go.Lv
def bump (C : List Int) (k : Nat) : List Int := C.set k (C.getD k 0 + 1)
theorem atk (C : List Int) (k : Nat) : (bump C k).length = C.length := by simp [bump]
end Go.Proofs
end
section
set_option maxRecDepth 100000
set_option maxHeartbeats 1000000
namespace Go.Proofs
open Go.Lv
def tc (L : List bc) (i : Nat) : List Int := ((L.take i).filter bc.Up).map bc.Station
theorem mq {L : List bc} {i : Nat} (hi : i < L.length) : tc L (i + 1) = tc L i ++ if L[i].Up then [L[i].Station] else [] := by
 rw [tc, List.take_succ_eq_append_getElem hi, List.filter_append, List.map_append]
 congr 1
 cases h : L[i].Up <;> simp [h]
theorem zo (L : List bc) (i : Nat) : (tc L i).length ≤ i := by
 rw [tc, List.length_map]
 exact Nat.le_trans (List.length_filter_le _ _) (by simp; omega)
def upR (w : ae) : Option (List Int) := if wB w = true then some (tc w.Posts w.Posts.length) else none
theorem vi (w : ae) (hp : w.Posts.length ≤ 16777216) : Ctr Tryz.prog 111 [w.v] [] (.osl 0 0 (tc w.Posts w.Posts.length).length 1) [some (rows IntS.cs (tc w.Posts w.Posts.length))] := by
 refine Ctr.intro Tryz.mixed Tryz.func111 rfl Tryz.aza ?_
 refine ev2 @Tryz.ntmps111 @Tryz.results111 ?_
 refine ev1 @ae.v.eq_1 ?_
 refine dn.intro (fun i : Nat => i ≤ w.Posts.length) (fun i => ⟨(un 3 (.osl 1 0 (tc w.Posts i).length 1 :: (un 4 (bc.sl w.Posts :: .int .i64 w.Posts.length :: .int .i64 i :: (un 12 []))))), [some w.cs, some (rows IntS.cs (tc w.Posts i))], 0⟩) (fun i => w.Posts.length - i) 0 (Nat.zero_le _) ?_ (fun i hi => ?_)
 · refine bo.cut (2) (by simp) (by simp) ?_ ?_
   · simp [LeC, LeV, ren, bh, tc]
   · simp [cb, ck, ren, rows, tc, ae.cs]
 refine ev0 ?_
 refine aw.split (fun h1 => ?_) (fun h1 => ?_)
 · refine ev1 @h1 ?_
   have hi' : i < w.Posts.length := by simpa using h1
   have h5 := bc.csl w.Posts[i]
   have hr := bw bc.csl hi'
   have hul := zo w.Posts i
   refine rn2 @hr @bc.cs.eq_1 ?_
   refine aw.split (fun h6 => ?_) (fun h6 => ?_) <;> refine ev1 @h6 ?_
   · refine rn6 @hr @bc.cs.eq_1 @ae.cs.eq_1 @ay @Nat.mul_one @bf ?_
     refine ⟨i + 1, hi', ?_, by omega⟩
     refine bo.cut (2) (by simp) (by simp) ?_ ?_
     · rw [mq hi', h6]
       simp [LeC, LeV, ren, bh]
     · rw [mq hi', h6, if_pos rfl, ← dy]
       simp [cb, ck, ab, dj, ren, IntS.cs, ae.cs]
   · try refine ew0 ?_
     refine ⟨i + 1, hi', ?_, by omega⟩
     refine bo.cut (2) (by simp) (by simp) ?_ ?_
     · rw [mq hi', h6]
       simp [LeC, LeV, ren, bh]
     · rw [mq hi', h6]
       simp [cb, ck, ab, ren, ae.cs]
 · refine ev1 @h1 ?_
   have hi' : i = w.Posts.length := by simp at h1; omega
   subst hi'
   refine aj.pick [1] (by decide) (fun j hj => by omega) (.inl ?_) ?_
   · first | rfl | (simp [ren, bb, posOf]; done)
   · simp only [az, List.map_cons, List.map_nil, bg, List.getElem?_cons_zero, List.getElem?_cons_succ, ab]
theorem aj4 (w : ae) (hp : w.Posts.length ≤ 16777216) (hs : w.Shocks.length ≤ 16777216) : Ctr Tryz.prog 114 [w.v] [] (wg 1 (upR w)) (o8 IntS.cs (upR w)) := by
 refine Ctr.intro Tryz.mixed Tryz.func114 rfl Tryz.ax5 ?_
 refine ev2 @Tryz.ntmps114 @Tryz.results114 ?_
 refine ev1 @ae.v.eq_1 ?_
 cases h : wB w with
 | false =>
  have e : upR w = none := if_neg (by simp [h])
  rw [e]
  repeat' (first | exact aj.refl _ _ _ | (refine aj.au ?_ (by rfl); first | rfl | (simp [h, wg, o8, *]; done)) | ((have ct := dx w (by omega) (by omega); (first | refine ak.at ct ⟨leA, trivial⟩ ?_ | refine ai.at ct ⟨leA, trivial⟩ ?_); clear ct); simp -implicitDefEqProofs -dsimp only [go_sem, h, wg, o8, *]) | (refine ax.bz (fun _ => ?_) (fun _ => ?_) <;> simp -implicitDefEqProofs -dsimp only [go_sem, h, wg, o8, *]) | (refine ax.cu (fun _ => ?_) (fun _ => ?_) <;> simp -implicitDefEqProofs -dsimp only [go_sem, h, wg, o8, *]) | (refine aw.split (fun _ => ?_) (fun _ => ?_) <;> simp -implicitDefEqProofs -dsimp only [go_sem, h, wg, o8, *]) | (exfalso; simp_all; done))
 | true =>
  have e : upR w = some (tc w.Posts w.Posts.length) := if_pos h
  rw [e]
  repeat (first | ((have ct := dx w (by omega) (by omega); (first | refine ak.at ct ⟨leA, trivial⟩ ?_ | refine ai.at ct ⟨leA, trivial⟩ ?_); clear ct); refine ev1 @h ?_) | ((first | refine ak.at (vi w hp) ⟨leA, trivial⟩ ?_ | refine ai.at (vi w hp) ⟨leA, trivial⟩ ?_); refine ev1 @h ?_) | (with_reducible refine And.intro (by first | omega | (show cc _ = true; kernel_rfl)) ?_; try refine ew1 @h ?_))
  simp only [wg, o8]
  refine aj.pick [1] (by decide) (fun j hj => by omega) (.inl ?_) ?_
  · first | rfl | (simp [ren, bb, posOf]; done)
  · simp only [az, List.map_cons, List.map_nil, bg, List.getElem?_cons_zero, List.getElem?_cons_succ, ab]
theorem ald (w : ae) (hp : w.Posts.length ≤ 16777216) (hs : w.Shocks.length ≤ 16777216) : Ctr Tryz.prog 155 [w.v] [] (yy 1 (upR w)) (r5 IntS.cs (upR w)) := by
 refine Ctr.intro Tryz.mixed Tryz.func155 rfl Tryz.az3 ?_
 refine ev2 @Tryz.ntmps155 @Tryz.results155 ?_
 refine ev1 @ae.v.eq_1 ?_
 cases h : wB w with
 | false =>
  have e : upR w = none := if_neg (by simp [h])
  rw [e]
  repeat (first | ((have ct := ey w (by omega) (by omega); (first | refine ak.at ct ⟨leA, trivial⟩ ?_ | refine ai.at ct ⟨leA, trivial⟩ ?_); clear ct); refine ev1 @h ?_) | (with_reducible refine And.intro (by first | omega | (show cc _ = true; kernel_rfl)) ?_; try refine ew1 @h ?_))
  simp only [yy, r5]
  refine aj.pick [1] (by decide) (fun j hj => by omega) (.inl ?_) ?_
  · first | rfl | (simp [ren, bb, posOf]; done)
  · simp only [az, List.map_cons, List.map_nil, bg, List.getElem?_cons_zero, List.getElem?_cons_succ, ab]
 | true =>
  have e : upR w = some (tc w.Posts w.Posts.length) := if_pos h
  rw [e]
  repeat (first | ((have ct := ey w (by omega) (by omega); (first | refine ak.at ct ⟨leA, trivial⟩ ?_ | refine ai.at ct ⟨leA, trivial⟩ ?_); clear ct); refine ev1 @h ?_) | (with_reducible refine And.intro (by first | omega | (show cc _ = true; kernel_rfl)) ?_; try refine ew1 @h ?_))
  refine dn.intro (fun i : Nat => i ≤ w.Posts.length) (fun i => ⟨(.undef :: .ptr 0 0 :: .undef :: .undef :: .osl 1 0 (tc w.Posts i).length 1 :: .int .i64 i :: (un 28 [])), [some w.cs, some (rows IntS.cs (tc w.Posts i))], 0⟩) (fun i => w.Posts.length - i) 0 (Nat.zero_le _) ?_ (fun i hi => ?_)
  · refine bo.cut (2) (by simp) (by simp) ?_ ?_
    · simp [LeC, LeV, ren, bh, tc]
    · simp [cb, ck, ren, rows, tc, ae.cs]
  refine ev1 @ae.cs.eq_1 ?_
  refine aw.split (fun h1 => ?_) (fun h1 => ?_)
  · refine ev1 @h1 ?_
    have hi' : i < w.Posts.length := by simpa using h1
    have h5 := bc.csl w.Posts[i]
    have hr := bw bc.csl hi'
    have hul := zo w.Posts i
    refine rn3 @hr @bc.cs.eq_1 @ae.cs.eq_1 ?_
    refine aw.split (fun h6 => ?_) (fun h6 => ?_) <;> refine ev1 @h6 ?_
    · refine rn6 @hr @bc.cs.eq_1 @ae.cs.eq_1 @ay @Nat.mul_one @bf ?_
      refine ⟨i + 1, hi', ?_, by omega⟩
      refine bo.cut (2) (by simp) (by simp) ?_ ?_
      · rw [mq hi', h6]
        simp [LeC, LeV, ren, bh]
      · rw [mq hi', h6, if_pos rfl, ← dy]
        simp [cb, ck, ab, dj, ren, IntS.cs, ae.cs]
    · try refine ew0 ?_
      refine ⟨i + 1, hi', ?_, by omega⟩
      refine bo.cut (2) (by simp) (by simp) ?_ ?_
      · rw [mq hi', h6]
        simp [LeC, LeV, ren, bh]
      · rw [mq hi', h6]
        simp [cb, ck, ab, ren, ae.cs]
  · refine ev1 @h1 ?_
    have hi' : i = w.Posts.length := by simp at h1; omega
    subst hi'
    simp only [yy, r5]
    refine aj.pick [1] (by decide) (fun j hj => by omega) (.inl ?_) ?_
    · first | rfl | (simp [ren, bb, posOf]; done)
    · simp only [az, List.map_cons, List.map_nil, bg, List.getElem?_cons_zero, List.getElem?_cons_succ, ab]
def cy (L : List al) : List Int := L.foldl (fun C x => bump C x.State.toNat) [0, 0, 0, 0]
theorem o1 {L : List al} {i : Nat} (hi : i < L.length) : cy (L.take (i + 1)) = bump (cy (L.take i)) L[i].State.toNat := by
 rw [List.take_succ_eq_append_getElem hi, cy, List.foldl_append]; rfl
theorem jf {L : List al} : ∀ i, i ≤ L.length → (cy (L.take i)).length = 4
 | 0, _ => by simp [cy]
 | i + 1, hi => by rw [o1 (by omega : i < L.length), atk, jf i (by omega)]
theorem sq {L : List al} : ∀ i, i ≤ L.length → ∀ x ∈ cy (L.take i), 0 ≤ x ∧ x ≤ i
 | 0, _ => by intro x hx; simp [cy] at hx; omega
 | i + 1, hi => by
  intro x hx
  rw [o1 (by omega : i < L.length), bump] at hx
  have ih := sq (L := L) i (by omega)
  rcases List.mem_or_eq_of_mem_set hx with h | h
  · have := ih x h; omega
  · subst h
    rw [List.getD_eq_getElem?_getD]
    cases h : (cy (L.take i))[(L[i]'(by omega)).State.toNat]? with
    | none => simp; omega
    | some y => have := ih y (List.mem_of_getElem? h); simp; omega
def qi (w : ae) : Option (List Int) := if wB w = true then some (cy w.Shocks) else none
theorem acy (w : ae) (hp : w.Posts.length ≤ 16777216) (hs : w.Shocks.length ≤ 16777216) : Ctr Tryz.prog 116 [w.v] [] (wg 1 (qi w)) (o8 IntS.cs (qi w)) := by
 refine Ctr.intro Tryz.mixed Tryz.func116 rfl Tryz.ax9 ?_
 refine ev2 @Tryz.ntmps116 @Tryz.results116 ?_
 refine ev1 @ae.v.eq_1 ?_
 cases h : wB w with
 | false =>
  have e : qi w = none := if_neg (by simp [h])
  rw [e]
  repeat' (first | exact aj.refl _ _ _ | (refine aj.au ?_ (by rfl); first | rfl | (simp [h, wg, o8, *]; done)) | ((have ct := dx w (by omega) (by omega); (first | refine ak.at ct ⟨leA, trivial⟩ ?_ | refine ai.at ct ⟨leA, trivial⟩ ?_); clear ct); simp -implicitDefEqProofs -dsimp only [go_sem, h, wg, o8, *]) | (refine ax.bz (fun _ => ?_) (fun _ => ?_) <;> simp -implicitDefEqProofs -dsimp only [go_sem, h, wg, o8, *]) | (refine ax.cu (fun _ => ?_) (fun _ => ?_) <;> simp -implicitDefEqProofs -dsimp only [go_sem, h, wg, o8, *]) | (refine aw.split (fun _ => ?_) (fun _ => ?_) <;> simp -implicitDefEqProofs -dsimp only [go_sem, h, wg, o8, *]) | (exfalso; simp_all; done))
 | true =>
  have e : qi w = some (cy w.Shocks) := if_pos h
  rw [e]
  repeat (first | ((have ct := dx w (by omega) (by omega); (first | refine ak.at ct ⟨leA, trivial⟩ ?_ | refine ai.at ct ⟨leA, trivial⟩ ?_); clear ct); refine ev1 @h ?_) | (with_reducible refine And.intro (by first | omega | (show cc _ = true; kernel_rfl)) ?_; try refine ew1 @h ?_))
  have hz : xn 4 [V.int .i64 0] = rows IntS.cs [0, 0, 0, 0] := rfl
  refine rn1 @hz ?_
  refine dn.intro (fun i : Nat => i ≤ w.Shocks.length) (fun i => ⟨(un 4 (.osl 1 0 4 1 :: (un 7 (al.sl w.Shocks :: .int .i64 w.Shocks.length :: .int .i64 i :: (un 12 []))))), [some w.cs, some (rows IntS.cs (cy (w.Shocks.take i)))], 0⟩) (fun i => w.Shocks.length - i) 0 (Nat.zero_le _) ?_ (fun i hi => ?_)
  · refine bo.cut (2) (by simp) (by simp) ?_ ?_
    · simp [LeC, LeV, ren, bh]
    · simp [cb, ck, ren, ab, cy, ae.cs]
  refine ev0 ?_
  refine aw.split (fun h1 => ?_) (fun h1 => ?_)
  · refine ev1 @h1 ?_
    have hi' : i < w.Shocks.length := by simpa using h1
    have h5 := al.csl w.Shocks[i]
    have hr := bw al.csl hi'
    have hvi := gk.1 ((ew h).shocks _ (List.getElem_mem hi'))
    obtain ⟨k, hk⟩ : ∃ k : Nat, w.Shocks[i].State = (k : Int) := ⟨w.Shocks[i].State.toNat, by omega⟩
    have hkc : k < (cy (w.Shocks.take i)).length := by rw [jf i hi]; omega
    have hrc := bw IntS.csl hkc
    have hbd := sq i hi _ (List.getElem_mem hkc)
    have hsp := ob IntS.csl hkc ((cy (w.Shocks.take i))[k] + 1)
    have hlc : (rows IntS.cs (cy (w.Shocks.take i))).length = 4 := by rw [ay, jf i hi]
    refine rn7 @hr @hk @hrc @IntS.cs.eq_1 @al.cs.eq_1 @hlc @ae.cs.eq_1 ?_
    have e2 : cy (w.Shocks.take (i + 1)) = (cy (w.Shocks.take i)).set k ((cy (w.Shocks.take i))[k] + 1) := by
     rw [o1 hi', hk, Int.toNat_natCast, bump, List.getD_eq_getElem?_getD, List.getElem?_eq_getElem hkc]; rfl
    simp only [IntS.cs] at hsp
    refine ⟨i + 1, hi', ?_, by omega⟩
    refine bo.cut (2) (by simp) (by simp) ?_ ?_
    · simp [LeC, LeV, ren, bh]
    · rw [hsp, e2]
      simp [cb, ck, ab, ren, ae.cs]
  · refine ev1 @h1 ?_
    have hi' : i = w.Shocks.length := by simp at h1; omega
    subst hi'
    rw [List.take_length]
    have hc := jf (L := w.Shocks) w.Shocks.length (Nat.le_refl _)
    rw [List.take_length] at hc
    simp only [wg, o8, hc]
    refine aj.pick [1] (by decide) (fun j hj => by omega) (.inl ?_) ?_
    · first | rfl | (simp [ren, bb, posOf]; done)
    · simp only [az, List.map_cons, List.map_nil, bg, List.getElem?_cons_zero, List.getElem?_cons_succ, ab]
theorem ac6 (w : ae) (hp : w.Posts.length ≤ 16777216) (hs : w.Shocks.length ≤ 16777216) : Ctr Tryz.prog 126 [w.v] [] (yy 1 (qi w)) (r5 IntS.cs (qi w)) := by
 refine Ctr.intro Tryz.mixed Tryz.func126 rfl Tryz.a03 ?_
 refine ev2 @Tryz.ntmps126 @Tryz.results126 ?_
 refine ev1 @ae.v.eq_1 ?_
 cases h : wB w with
 | false =>
  have e : qi w = none := if_neg (by simp [h])
  rw [e]
  repeat (first | ((have ct := ey w (by omega) (by omega); (first | refine ak.at ct ⟨leA, trivial⟩ ?_ | refine ai.at ct ⟨leA, trivial⟩ ?_); clear ct); refine ev1 @h ?_) | (with_reducible refine And.intro (by first | omega | (show cc _ = true; kernel_rfl)) ?_; try refine ew1 @h ?_))
  simp only [yy, r5]
  refine aj.pick [1] (by decide) (fun j hj => by omega) (.inl ?_) ?_
  · first | rfl | (simp [ren, bb, posOf]; done)
  · simp only [az, List.map_cons, List.map_nil, bg, List.getElem?_cons_zero, List.getElem?_cons_succ, ab]
 | true =>
  have e : qi w = some (cy w.Shocks) := if_pos h
  rw [e]
  repeat (first | ((have ct := ey w (by omega) (by omega); (first | refine ak.at ct ⟨leA, trivial⟩ ?_ | refine ai.at ct ⟨leA, trivial⟩ ?_); clear ct); refine ev1 @h ?_) | (with_reducible refine And.intro (by first | omega | (show cc _ = true; kernel_rfl)) ?_; try refine ew1 @h ?_))
  have hz : xn 4 [V.int .i64 0] = rows IntS.cs [0, 0, 0, 0] := rfl
  refine rn1 @hz ?_
  refine dn.intro (fun i : Nat => i ≤ w.Shocks.length) (fun i => ⟨(.undef :: .ptr 0 0 :: .undef :: .undef :: .osl 1 0 4 1 :: .int .i64 i :: (un 28 [])), [some w.cs, some (rows IntS.cs (cy (w.Shocks.take i)))], 0⟩) (fun i => w.Shocks.length - i) 0 (Nat.zero_le _) ?_ (fun i hi => ?_)
  · refine bo.cut (2) (by simp) (by simp) ?_ ?_
    · simp [LeC, LeV, ren, bh]
    · simp [cb, ck, ren, ab, cy, ae.cs]
  refine ev1 @ae.cs.eq_1 ?_
  refine aw.split (fun h1 => ?_) (fun h1 => ?_)
  · refine ev1 @h1 ?_
    have hi' : i < w.Shocks.length := by simpa using h1
    have h5 := al.csl w.Shocks[i]
    have hr := bw al.csl hi'
    have hvi := gk.1 ((ew h).shocks _ (List.getElem_mem hi'))
    obtain ⟨k, hk⟩ : ∃ k : Nat, w.Shocks[i].State = (k : Int) := ⟨w.Shocks[i].State.toNat, by omega⟩
    have hkc : k < (cy (w.Shocks.take i)).length := by rw [jf i hi]; omega
    have hrc := bw IntS.csl hkc
    have hbd := sq i hi _ (List.getElem_mem hkc)
    have hsp := ob IntS.csl hkc ((cy (w.Shocks.take i))[k] + 1)
    have hlc : (rows IntS.cs (cy (w.Shocks.take i))).length = 4 := by rw [ay, jf i hi]
    refine rn7 @hr @hk @hrc @IntS.cs.eq_1 @al.cs.eq_1 @hlc @ae.cs.eq_1 ?_
    have e2 : cy (w.Shocks.take (i + 1)) = (cy (w.Shocks.take i)).set k ((cy (w.Shocks.take i))[k] + 1) := by
     rw [o1 hi', hk, Int.toNat_natCast, bump, List.getD_eq_getElem?_getD, List.getElem?_eq_getElem hkc]; rfl
    simp only [IntS.cs] at hsp
    refine ⟨i + 1, hi', ?_, by omega⟩
    refine bo.cut (2) (by simp) (by simp) ?_ ?_
    · simp [LeC, LeV, ren, bh]
    · rw [hsp, e2]
      simp [cb, ck, ab, ren, ae.cs]
  · refine ev1 @h1 ?_
    have hi' : i = w.Shocks.length := by simp at h1; omega
    subst hi'
    rw [List.take_length]
    have hc := jf (L := w.Shocks) w.Shocks.length (Nat.le_refl _)
    rw [List.take_length] at hc
    simp only [yy, r5, hc]
    refine aj.pick [1] (by decide) (fun j hj => by omega) (.inl ?_) ?_
    · first | rfl | (simp [ren, bb, posOf]; done)
    · simp only [az, List.map_cons, List.map_nil, bg, List.getElem?_cons_zero, List.getElem?_cons_succ, ab]
end Go.Proofs
end
section
set_option maxRecDepth 100000
set_option maxHeartbeats 1000000
namespace Go.Proofs
open Go.Lv
def ae.oc (r : ae) (i0 i1 : Nat) : List V := [.int .i64 r.Now, .osl i0 0 r.Posts.length 3, .osl i1 0 r.Shocks.length 5, .int .i64 r.Next, .int .i64 r.Archived]
theorem af7 (L : List bc) (hl : L.length ≤ 16777216) : Ctr Tryz.prog 65 [bc.sl L] [] (.osl 0 0 L.length 3) [some (rows bc.cs L)] := by
 refine Ctr.intro Tryz.mixed Tryz.func65 rfl Tryz.a38 ?_
 refine ev2 @Tryz.ntmps65 @Tryz.results65 ?_
 repeat (with_reducible refine df ?_)
 exact aj.refl _ _ _
theorem aej (L : List al) (hl : L.length ≤ 16777216) : Ctr Tryz.prog 66 [al.sl L] [] (.osl 0 0 L.length 5) [some (rows al.cs L)] := by
 refine Ctr.intro Tryz.mixed Tryz.func66 rfl Tryz.a43 ?_
 refine ev2 @Tryz.ntmps66 @Tryz.results66 ?_
 repeat (with_reducible refine df ?_)
 exact aj.refl _ _ _
theorem du (w : ae) (hp : w.Posts.length ≤ 16777216) (hs : w.Shocks.length ≤ 16777216) : Ctr Tryz.prog 33 [w.v] [] (w.o 0 1) [some (rows bc.cs w.Posts), some (rows al.cs w.Shocks)] := by
 refine Ctr.intro Tryz.mixed Tryz.func33 rfl Tryz.a4u ?_
 refine ev2 @Tryz.ntmps33 @Tryz.results33 ?_
 refine ev1 @ae.v.eq_1 ?_
 repeat (with_reducible refine df ?_)
 (have ct := af7 w.Posts hp; (first | refine ak.at ct ⟨leA, trivial⟩ ?_ | refine ai.at ct ⟨leA, trivial⟩ ?_); clear ct)
 refine ev0 ?_
 repeat (with_reducible refine df ?_)
 (have ct := aej w.Shocks hs; (first | refine ak.at ct ⟨leA, trivial⟩ ?_ | refine ai.at ct ⟨leA, trivial⟩ ?_); clear ct)
 refine ev0 ?_
 repeat (with_reducible refine df ?_)
 refine aj.pick [2, 3] (by decide) (fun j hj => by omega) (.inl ?_) ?_
 · first | rfl | (simp [ren, bb, posOf, ae.o]; done)
 · simp only [az, List.map_cons, List.map_nil, bg, List.getElem?_cons_zero, List.getElem?_cons_succ, ab]
theorem ara {L : List al} {i : Nat} (hi : i < L.length) (s : Int) : dq (rows al.cs L) (i * 5 + 1) [.int .i64 s] = rows al.cs (L.set i ⟨L[i].Number, s, L[i].Seen, L[i].Size, L[i].Tick⟩) := pb al.csl hi (by omega) rfl
theorem au1 {L : List al} {i : Nat} (hi : i < L.length) (x : al) (z : Int) : dq (rows al.cs (L.set i x)) (i * 5 + 3) [.int .i64 z] = rows al.cs (L.set i ⟨x.Number, x.State, x.Seen, z, x.Tick⟩) := by
 have h := pb (cs := al.cs) al.csl (L := L.set i x) (j := i) (f := 3) (v := .int .i64 z) (x := ⟨x.Number, x.State, x.Seen, z, x.Tick⟩) (by simpa using hi) (by omega) (by simp; rfl)
 rwa [List.set_set] at h
theorem gz (L : List al) : (rows al.cs L).length = L.length * 5 := lu al.csl L
theorem ap7 (w : ae) (i : Nat) (k n v : Int) (hk : k = 5 ∨ k = 6 ∨ k = 7) (hw : wB w = true) (hi : i < w.Shocks.length) (hv : -100 ≤ v ∧ v ≤ 100) : Ctr Tryz.prog 179 [.ptr 0 0, .int .i64 i, .agg [.int .i64 k, .int .i64 n, .int .i64 v]] [some (w.oc 1 2), some (rows bc.cs w.Posts), some (rows al.cs w.Shocks)] (.bool (abx w.Shocks[i] k)) [some (w.oc 1 2), some (rows bc.cs w.Posts), some (rows al.cs (w.Shocks.set i (w4 w.Shocks[i] k v)))] := by
 have W := ew hw
 have hx := W.shocks _ (List.getElem_mem hi)
 have hb := gk.1 hx
 have hr := bw al.csl hi
 have hwv : IntKind.i64.wrap (w.Shocks[i].Size + v) = w.Shocks[i].Size + v := wrap_i64 (by omega) (by omega)
 have s1 := ara hi
 have s2 := au1 hi
 have hl : ∀ x, (w.Shocks.set i x).length = w.Shocks.length := fun x => by simp
 have hroom : i * 5 + 5 ≤ w.Shocks.length * 5 := by omega
 rcases hk with rfl | rfl | rfl
 · skip
   refine Ctr.intro Tryz.mixed Tryz.func179 rfl Tryz.aji ?_
   refine ev2 @Tryz.ntmps179 @Tryz.results179 ?_
   refine rn4 @ae.oc.eq_1 @hr @al.cs.eq_1 @hwv ?_
   refine n8.path [true, true, true, true, true, true, false, false, false, false] [false, true, true, true, false, false, false, false, false, false] 1 [2] (by kernel_rfl) ?_
   refine rn7 @hr @al.cs.eq_1 @hwv @s1 @s2 @gz @hl ?_
   repeat' (first | (refine ax.bz (fun _ => ?_) (fun _ => ?_) <;> (repeat ((repeat1' (first | simp -implicitDefEqProofs -dsimp only [go_sem, *] | simp -dsimp (disch := omega) only [wrap_i64])); repeat (with_reducible refine df ?_)))) | (refine ax.cu (fun _ => ?_) (fun _ => ?_) <;> (repeat ((repeat1' (first | simp -implicitDefEqProofs -dsimp only [go_sem, *] | simp -dsimp (disch := omega) only [wrap_i64])); repeat (with_reducible refine df ?_)))))
   all_goals
    refine aj.pick [0, 1, 2] (by decide) (fun j hj => by have hj' : j = 0 ∨ j = 1 ∨ j = 2 := (by omega); rcases hj' with rfl | rfl | rfl <;> rfl) (.inl (by first | rfl | (simp [ren, abx, *]; done))) ?_
    simp [az, bg, ren, bb, posOf, ab, ae.oc, w4, *]
 · skip
   refine Ctr.intro Tryz.mixed Tryz.func179 rfl Tryz.aji ?_
   refine ev2 @Tryz.ntmps179 @Tryz.results179 ?_
   refine rn4 @ae.oc.eq_1 @hr @al.cs.eq_1 @hwv ?_
   refine n8.path [true, true, true, true, true, true, true, true, true, false, false, false, false] [false, true, true, true, true, true, true, false, false, false, false, false, false] 1 [2] (by kernel_rfl) ?_
   refine rn7 @hr @al.cs.eq_1 @hwv @s1 @s2 @gz @hl ?_
   repeat' (first | (refine ax.bz (fun _ => ?_) (fun _ => ?_) <;> (repeat ((repeat1' (first | simp -implicitDefEqProofs -dsimp only [go_sem, *] | simp -dsimp (disch := omega) only [wrap_i64])); repeat (with_reducible refine df ?_)))) | (refine ax.cu (fun _ => ?_) (fun _ => ?_) <;> (repeat ((repeat1' (first | simp -implicitDefEqProofs -dsimp only [go_sem, *] | simp -dsimp (disch := omega) only [wrap_i64])); repeat (with_reducible refine df ?_)))))
   all_goals
    refine aj.pick [0, 1, 2] (by decide) (fun j hj => by have hj' : j = 0 ∨ j = 1 ∨ j = 2 := (by omega); rcases hj' with rfl | rfl | rfl <;> rfl) (.inl (by first | rfl | (simp [ren, abx, *]; done))) ?_
    simp [az, bg, ren, bb, posOf, ab, ae.oc, w4, *]
 · skip
   refine Ctr.intro Tryz.mixed Tryz.func179 rfl Tryz.aji ?_
   refine ev2 @Tryz.ntmps179 @Tryz.results179 ?_
   refine rn7 @ae.oc.eq_1 @hr @al.cs.eq_1 @hwv @s1 @gz @hl ?_
   repeat' (first | (refine ax.bz (fun _ => ?_) (fun _ => ?_) <;> (repeat ((repeat1' (first | simp -implicitDefEqProofs -dsimp only [go_sem, *] | simp -dsimp (disch := omega) only [wrap_i64])); repeat (with_reducible refine df ?_)))) | (refine ax.cu (fun _ => ?_) (fun _ => ?_) <;> (repeat ((repeat1' (first | simp -implicitDefEqProofs -dsimp only [go_sem, *] | simp -dsimp (disch := omega) only [wrap_i64])); repeat (with_reducible refine df ?_)))))
   all_goals
    refine aj.pick [0, 1, 2] (by decide) (fun j hj => by have hj' : j = 0 ∨ j = 1 ∨ j = 2 := (by omega); rcases hj' with rfl | rfl | rfl <;> rfl) (.inl (by first | rfl | (simp [ren, abx, *]; done))) ?_
    simp [az, bg, ren, bb, posOf, ab, ae.oc, w4, *]
end Go.Proofs
end
section
set_option maxRecDepth 100000
namespace Go.Proofs
open Go.Lv
theorem Ctr.raw {P : Program} {f : FuncId} {args : List V} {hin : Hp} {r : V} {hout : Hp} (hok : okF P f = true)
 (h : ∀ (w : World) (vs : Array Value) (m : Nat → Nat) (av : Nat → Prop), Inv w m hin av ⟨args, hin, hin.length⟩ { tmps := vs, defers := [] } w m → vs.size = args.length →
  Calls P f vs w fun e w' => ∃ v m' s a, e = .returned v ∧ s.h = hout ∧ Inv w m hin av s a w' m' ∧ RV w' m' hout (avm av m' hout) true v r) : Ctr P f args hin r hout := by
 refine ⟨hok, fun w vs m av hH hav hgl hs ha => ?_⟩
 have hav' : ∀ b, avm av m hin b → av b := fun b hb => by
  rcases hb with hb | ⟨id, cs, h1, rfl⟩
  · exact hb
  · exact hH.avd id cs h1
 have hstep : ∀ {o : Bool} {v : Value} {x : V}, RV w m hin av o v x → RV w m hin (avm av m hin) o v x :=
  fun {o v x} hx => RV.step (w := w) (w' := w) (m := m) (m' := m) (h := hin) (h' := hin) (av := av) (av' := avm av m hin) (fun b off v hb hc => ⟨fun h => hb (hav' b h), hc⟩) (fun id c hid => ⟨c, hid, Nat.le_refl _, rfl, Nat.le_refl _, rfl⟩) hx
 have I : Inv w m hin av ⟨args, hin, hin.length⟩ { tmps := vs, defers := [] } w m := by
  refine ⟨⟨hH.inj, fun id cs h => .inr ⟨id, cs, h, rfl⟩, fun id cs h => ?_⟩, hs, fun i hi => hstep (ha i hi), rfl, Ext.refl _ _, fun id cs h => .inl ⟨e8 h, cs, h, Nat.le_refl _, .inl rfl⟩, hav, fun b ⟨id, cs, h1, h2⟩ => h2 ▸ hH.avd id cs h1, hgl, rfl, Nat.le_refl _⟩
  exact (hH.blk id cs h).step rfl (fun v x => hstep)
 refine (h w vs m av I hs).mono ?_
 rintro e w' ⟨v, m', s, a, rfl, rfl, I', hv⟩
 exact ⟨v, m', rfl, I'.ext, I'.rh, hv, I'.ids⟩
end Go.Proofs
end
