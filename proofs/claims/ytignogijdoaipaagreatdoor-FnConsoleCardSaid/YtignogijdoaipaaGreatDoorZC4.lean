/-
  A part of the proof: texts put together by a program of the prover. Conditions: none.
-/
import Derived.Test.YtignogijdoaipaaGreatDoorZC2
import Derived.Test.YtignogijdoaipaaGreatDoorZC3
import Derived.KernelRfl
import Derived.Test.YtignogijdoaipaaGreatDoorProg
set_option linter.unusedSimpArgs false
set_option linter.unusedVariables false
section
namespace Go.Lv

def rows {α : Type} (cs : α → List V) (L : List α) : List V := L.flatMap cs

section
variable {α : Type} {cs : α → List V} {w : Nat}

theorem lj (h : ∀ a, (cs a).length = w) (L : List α) : (rows cs L).length = L.length * w := by
 induction L with
 | nil => simp [rows]
 | cons a L ih => simp [rows, h] at ih ⊢; rw [ih, Nat.succ_mul, Nat.add_comm]

theorem jb (L K : List α) : rows cs (L ++ K) = rows cs L ++ rows cs K := by simp [rows]
theorem zh : rows cs ([] : List α) = [] := rfl
theorem fq (a : α) (L : List α) : rows cs (a :: L) = cs a ++ rows cs L := by simp [rows]
theorem apu (a : α) : rows cs [a] = cs a := by simp [rows]

theorem w4 (h : ∀ a, (cs a).length = w) (L : List α) (i : Nat) : (rows cs L).drop (i * w) = rows cs (L.drop i) := by
 induction i generalizing L with
 | zero => simp
 | succ i ih =>
  cases L with
  | nil => simp [rows]
  | cons a L =>
   rw [fq, Nat.succ_mul, Nat.add_comm, ← List.drop_drop, List.drop_append, h a, Nat.sub_self, List.drop_zero]
   rw [show (cs a).drop w = [] by simp [h]]
   simpa using ih L

theorem afp (h : ∀ a, (cs a).length = w) (L : List α) (i : Nat) : (rows cs L).take (i * w) = rows cs (L.take i) := by
 induction i generalizing L with
 | zero => simp [rows]
 | succ i ih =>
  cases L with
  | nil => simp [rows]
  | cons a L =>
   rw [fq, List.take_succ_cons, fq, Nat.succ_mul, Nat.add_comm, List.take_append, h a, Nat.add_sub_cancel_left, ih]
   rw [List.take_of_length_le (by simp [h])]

theorem bw (h : ∀ a, (cs a).length = w) {L : List α} {i : Nat} (hi : i < L.length) : ((rows cs L).drop (i * w)).take w = cs L[i] := by
 rw [w4 h, List.drop_eq_getElem_cons hi, fq, List.take_append, h, Nat.sub_self, List.take_zero, List.append_nil, List.take_of_length_le (by simp [h])]

theorem yt {p : V → Bool} (h : ∀ a, (cs a).all p = true) (L : List α) : (rows cs L).all p = true := by
 induction L with
 | nil => rfl
 | cons a L ih => rw [fq, List.all_append, h a, ih]; rfl

theorem r6 (f : Nat → R) {d : Nat} {l : List V} (h : l.all (db d) = true) : l.map (ren f d) = l := by
 rw [List.map_congr_left (g := id) (fun x hx => afq f d x (List.all_eq_true.1 h x hx)), List.map_id]

theorem wrap_i64 {n : Int} (h0 : -9223372036854775808 ≤ n) (h1 : n ≤ 9223372036854775807) : IntKind.i64.wrap n = n := by
 rw [IntKind.wrap_i64]; omega

def bt (z : Int) : Prop := -9223372036854775808 ≤ z ∧ z ≤ 9223372036854775807
def ao5 (s : ByteArray) : Prop := s.size ≤ 9223372036854775807
def aem (ok : α → Prop) (L : List α) : Prop := L.length ≤ 9223372036854775807 ∧ ∀ x ∈ L, ok x

class qp (cs : α → List V) (w : outParam Nat) : Prop where
 len : ∀ a, (cs a).length = w
 plain : ∀ a d, (cs a).all (db d) = true
 cell : ∀ a, (cs a).all ck = true
 noro : ∀ a, (cs a).all (uw 0) = true
class nc (cs : α → List V) (w : outParam Nat) : Prop where
 len : ∀ a, (cs a).length = w
 plain : ∀ a d, (cs a).all (db d) = true
 cell : ∀ a, (cs a).all ck = true
instance {cs : α → List V} {w : Nat} [h : qp cs w] : nc cs w := ⟨h.len, h.plain, h.cell⟩

theorem bb [nc cs w] (L : List α) : (rows cs L).length = L.length * w := lj nc.len L
theorem ae [nc cs w] (f : Nat → R) (d : Nat) (L : List α) : (rows cs L).map (ren f d) = rows cs L := r6 f (yt (fun a => nc.plain a d) L)
theorem bh [nc cs w] (L : List α) : (rows cs L).all ck = true := yt nc.cell L
theorem aak [qp cs w] (L : List α) : (rows cs L).all (uw 0) = true := yt qp.noro L
theorem ly [nc cs w] (L : List α) (d : Nat) : (rows cs L).all (db d) = true := yt (fun a => nc.plain a d) L
theorem af4 [nc cs w] (p : Nat → Bool) (L : List α) (d : Nat) : (rows cs L).all (si p d) = true := List.all_eq_true.2 fun x hx => x8 p d x (List.all_eq_true.1 (ly (cs := cs) L d) x hx)
theorem adn [qp cs w] (L : List α) : l4 [some (rows cs L)] := l4.of (by simp only [ag9, List.all_cons, List.all_nil, aak, Bool.and_self])
theorem dc [nc cs w] (L : List α) : (rows cs L).take (L.length * w) = rows cs L := List.take_of_length_le (by rw [bb]; exact Nat.le_refl _)

theorem amk [nc cs w] {h : Hp} {id : Nat} {L : List α} (hid : h[id]? = some (some (rows cs L))) : LeV (ren (fa h 3) 3 (.osl id 0 L.length w)) (.sl L.length w (rows cs L)) := by
 refine .inl ?_
 simp only [ren, fa, hid, ae, List.drop_zero, dc]
theorem ape [nc cs w] {h : Hp} {id n : Nat} {L : List α} (hid : h[id]? = some (some (rows cs L))) (hn : n = L.length) : LeV (ren (fa h 3) 3 (.osl id 0 n w)) (.sl L.length w (rows cs L)) := by
 subst hn; exact amk hid
theorem le_nil {h : Hp} {w : Nat} : LeV (ren (fa h 3) 3 .nilsl) (.sl 0 w []) := .inr (.inr (.inl ⟨rfl, w, rfl⟩))
theorem LeV.aoo {f : Nat → R} {d : Nat} {cs cs' : List V} (h : LeA (cs.map (ren f d)) cs') : LeV (ren f (d + 1) (.agg cs)) (.agg cs') := LeV.agg h
theorem yk [nc cs w] {h : Hp} {id n n' : Nat} {L : List α} (hid : h[id]? = some (some (rows cs L))) (hn : n = L.length) (hn' : n' = L.length) : LeE (ren (fa h 3) 2 (.osl id 0 n w)) (.sl n' w (rows cs L)) := by
 subst hn hn'
 refine .inl ?_
 simp only [ren, fa, hid, ae, List.drop_zero, dc]
theorem aqp [nc cs w] {h : Hp} {id : Nat} {fz : Bool} {L : List α} (hid : h[id]? = some (some (rows cs L))) : az [id] h fz = [some (rows cs L)] := by
 simp only [az, List.map_cons, List.map_nil, bg, hid, ae]
theorem qg {l : List V} (h : l.all ck = true) : im l = false := by
 match l, h with
 | [], _ => rfl
 | _ :: _ :: _, _ => rfl
 | [x], h => cases x <;> first | rfl | (simp [ck] at h)
theorem mf [nc cs w] (L : List α) : im (rows cs L) = false := qg (bh L)
theorem aag [nc cs w] {L L' : List α} (h : L.length = L'.length) : grown [some (rows cs L)] [some (rows cs L')] := by
 simp [grown, bb, h, mf]

def adh (w : Nat) (R : Option (List α)) : V := match R with
 | some M => .tup [.osl 0 0 M.length w, .bool true]
 | none => .tup [.osl 0 0 0 w, .bool false]
def u6 (cs : α → List V) (R : Option (List α)) : Hp := match R with
 | some M => [some (rows cs M)]
 | none => [some []]
def sq (w : Nat) (R : Option (List α)) : V := match R with
 | some M => .tup [.osl 0 0 M.length w, .bool true]
 | none => .tup [.nilsl, .bool false]
def me (cs : α → List V) (R : Option (List α)) : Hp := match R with
 | some M => [some (rows cs M)]
 | none => []
theorem dw (L : List α) (a : α) : rows cs L ++ cs a = rows cs (L ++ [a]) := by rw [jb, apu]

theorem ky {f : V → V} : ∀ {l : List V}, l.map f = l → LeL (l.map f) l
 | [], _ => trivial
 | a :: l, h => by
  simp only [List.map_cons, List.cons.injEq] at h
  exact ⟨.inl h.1.symm, ky h.2⟩

theorem acq {A M ns : List V} {n j : Nat} (h : A.length = n) : dp (A ++ M) (n + j) ns = A ++ dp M j ns := by
 subst h
 unfold dp
 rw [List.take_append, List.drop_append, List.take_of_length_le (by omega), List.drop_of_length_le (by omega)]
 simp only [Nat.add_sub_cancel_left, List.nil_append, List.append_assoc]
 congr 3
 congr 1
 omega
theorem ai7 {A M ns : List V} {n : Nat} (h : A.length = n) : dp (A ++ M) n ns = A ++ dp M 0 ns := by
 have := acq (M := M) (ns := ns) (j := 0) h
 rwa [Nat.add_zero] at this

theorem xd (h : ∀ a, (cs a).length = w) {L : List α} {i : Nat} (hi : i < L.length) : (rows cs L).drop (i * w) = cs L[i] ++ rows cs (L.drop (i + 1)) := by
 rw [w4 h, List.drop_eq_getElem_cons hi, fq]

theorem apart {L : List α} {i : Nat} (hi : i < L.length) : ∃ A B, L = A ++ L[i] :: B ∧ A.length = i ∧ A = L.take i ∧ B = L.drop (i + 1) := by
 refine ⟨L.take i, L.drop (i + 1), ?_, by simp; omega, rfl, rfl⟩
 rw [← List.drop_eq_getElem_cons hi, List.take_append_drop]

def gu (p : α → Bool) (k : α → Int) (L : List α) (i : Nat) : Bool :=
 match L[i]? with
 | none => true
 | some x => p x && match i with
  | 0 => true
  | j + 1 => match L[j]? with
   | none => true
   | some y => decide (k y < k x)

def je (p : α → Bool) (k : α → Int) (m : Nat) (L : List α) : Bool := (List.range L.length).all (gu p k L) && decide (L.length ≤ m)

theorem abp {q : Nat → Bool} {n i : Nat} (hi : i < n) (h : q i = false) : (List.range n).all q = false := by
 rw [List.all_eq_false]
 exact ⟨i, by simpa using hi, by simp [h]⟩
theorem gk {q : Nat → Bool} {i : Nat} (h : (List.range i).all q = true) (h1 : q i = true) : (List.range (i + 1)).all q = true := by
 rw [List.range_succ, List.all_append, h]
 simp [h1]
theorem jo {p : α → Bool} {k : α → Int} {m : Nat} {L : List α} {i : Nat} (hi : i < L.length) (h : gu p k L i = false) : je p k m L = false := by
 rw [je, abp hi h]
 rfl
theorem km {p : α → Bool} {k : α → Int} {L : List α} (h0 : 0 < L.length) : gu p k L 0 = p L[0] := by simp [gu, h0]
theorem ia {p : α → Bool} {k : α → Int} {L : List α} {j : Nat} (h : j + 1 < L.length) : gu p k L (j + 1) = (p L[j + 1] && decide (k (L[j]'(by omega)) < k L[j + 1])) := by
 have : j < L.length := by omega
 simp [gu, h, this]
end

theorem leA {x y : V} (h : LeV x y := by first | exact amk rfl | exact .inl rfl | exact le_nil | exact ape rfl (by simp) | exact LeV.aoo (by first | ((repeat' (first | exact True.intro | exact yk rfl (by simp) (by simp) | exact LeE.nil | exact LeE.refl _ | refine And.intro ?_ ?_)); done) | fail)) : LeV x y := h
theorem al.at {P : Program} {h : Hp} {g : FuncId} {a c args : List V} {K : V → Hp → Prop} {x : Tag K} {as' : List V} {r : V} {hout : Hp} (hs : Ctr P g as' [] r hout) (hle : LeL ((a ++ args ++ c).map (ren (fa h 3) 3)) as') (hk : K r hout)
 (hro : (a ++ args ++ c).all (db 3) = true ∨ uz r ∧ l4 hout := by first | exact .inl rfl | exact .inr ⟨agm 3 rfl, by first | exact l4.nil | exact adn _ | exact l4.of (by simp only [ag9, List.all_cons, List.all_nil, aak, Bool.and_self])⟩)
 (hrf : o7 h 4 (.fn (.func g) a c) = true ∧ args.all (o7 h 3) = true := by first | exact ⟨rfl, rfl⟩ | exact ⟨rfl, by simp [o7, si, alc, db, ly, af4]⟩ | simp [o7, si, alc, db, ly, af4]) : al P h (.fn (.func g) a c) args K x :=
 al.intro hs hle hro hrf hk
theorem ah.at {P : Program} {t : List V} {h : Hp} {k : Nat} {dst : Option Tmp} {g : FuncId} {a c args : List V} {K : St → Prop} {x : Tag K} {as' : List V} {r : V} {hout : Hp} (hs : Ctr P g as' [] r hout)
 (hle : LeL ((a ++ args ++ c).map (ren (fa h 3) 3)) as') (hk : K (pz ⟨t, h, k⟩ dst r hout))
 (hro : (a ++ args ++ c).all (db 3) = true ∨ uz r ∧ l4 hout := by first | exact .inl rfl | exact .inr ⟨agm 3 rfl, by first | exact l4.nil | exact adn _ | exact l4.of (by simp only [ag9, List.all_cons, List.all_nil, aak, Bool.and_self])⟩) : ah P ⟨t, h, k⟩ dst (.fn (.func g) a c) args K x :=
 ah.intro hs hle hro hk
theorem alg {sel : List Nat} {h hin : Hp} {fz : Bool} (hh : az sel h fz = hin := by first | exact aqp rfl | rfl | (simp only [az, List.map_cons, List.map_nil, bg, List.getElem?_cons_zero, List.getElem?_cons_succ, ae]; done)) : az sel h fz = hin := hh
theorem leO {x y : V} (h : LeV x y := by first | exact .inl rfl | exact LeV.aoo (by first | ((repeat' (first | exact True.intro | exact LeE.nil | exact LeE.refl _ | refine And.intro ?_ ?_)); done) | fail)) : LeV x y := h
theorem df {a b : Prop} (hb : b) (ha : a := by first | omega | with_reducible rfl | (show cd _ = true; kernel_rfl) | (simp only [bb, bh, List.length_append, List.length_cons, List.length_nil, List.all_append, List.all_cons, List.all_nil, ck, Nat.mul_one, Nat.one_mul, Bool.and_self]; first | done | omega)) : a ∧ b := ⟨ha, hb⟩
attribute [go_sem] Nat.le_refl Int.toNat_natCast beq_self_eq_true bne_self_eq_false decide_true decide_false eq_self ne_eq Option.some.injEq not_false_eq_true Option.map_some ae
theorem au.pk {t t2 : List V} {h h2 : Hp} {k : Nat} (sel : List Nat) (ht : LeG (ren (bc sel h true) 3) t t2) (hh : az sel h true = h2) (hn : sel.Nodup := by decide) (hk : ∀ j, j < k → sel[j]? = some j := by (intro j hj; cases j <;> simp_all)) : au ⟨t, h, k⟩ ⟨t2, h2, k⟩ := au.pick sel hn hk ht hh
attribute [go_sem] Nat.reduceSub Nat.reduceAdd Nat.reduceMul Nat.reduceLT Nat.reduceLeDiff Nat.reduceEqDiff Nat.reduceDiv Nat.reduceMod Int.reduceToNat Int.reduceLE Int.reduceLT Int.reduceBEq Int.reduceBNe Int.reduceNeg Int.reduceAdd Int.reduceSub Int.reduceMul reduceCtorEq
def un (n : Nat) (l : List V) : List V := List.replicate n .undef ++ l
@[go_sem, simp] theorem a79 (n : Nat) (l : List V) : un (n + 1) l = .undef :: un n l := rfl
@[go_sem, simp] theorem a64 (l : List V) : un 0 l = l := rfl
structure Wr (q : Prop) : Prop where
 o : q
theorem rn0 {p q : Prop} (h : q) (hq : Wr q → p := by intro h; (repeat ((repeat1' (first | simp -implicitDefEqProofs -dsimp only [go_sem] | simp -dsimp (disch := omega) only [wrap_i64])); repeat (with_reducible refine df ?_))); exact h.o) : p := hq ⟨h⟩
theorem rn1 {a1 p q : Prop} (h1 : a1) (h : q) (hq : a1 → Wr q → p := by intro h1 h; (repeat ((repeat1' (first | simp -implicitDefEqProofs -dsimp only [go_sem, h1] | simp -dsimp (disch := omega) only [wrap_i64])); repeat (with_reducible refine df ?_))); exact h.o) : p := hq h1 ⟨h⟩
theorem rn2 {a1 a2 p q : Prop} (h1 : a1) (h2 : a2) (h : q) (hq : a1 → a2 → Wr q → p := by intro h1 h2 h; (repeat ((repeat1' (first | simp -implicitDefEqProofs -dsimp only [go_sem, h1, h2] | simp -dsimp (disch := omega) only [wrap_i64])); repeat (with_reducible refine df ?_))); exact h.o) : p := hq h1 h2 ⟨h⟩
theorem rn3 {a1 a2 a3 p q : Prop} (h1 : a1) (h2 : a2) (h3 : a3) (h : q) (hq : a1 → a2 → a3 → Wr q → p := by intro h1 h2 h3 h; (repeat ((repeat1' (first | simp -implicitDefEqProofs -dsimp only [go_sem, h1, h2, h3] | simp -dsimp (disch := omega) only [wrap_i64])); repeat (with_reducible refine df ?_))); exact h.o) : p := hq h1 h2 h3 ⟨h⟩
theorem rn4 {a1 a2 a3 a4 p q : Prop} (h1 : a1) (h2 : a2) (h3 : a3) (h4 : a4) (h : q) (hq : a1 → a2 → a3 → a4 → Wr q → p := by intro h1 h2 h3 h4 h; (repeat ((repeat1' (first | simp -implicitDefEqProofs -dsimp only [go_sem, h1, h2, h3, h4] | simp -dsimp (disch := omega) only [wrap_i64])); repeat (with_reducible refine df ?_))); exact h.o) : p := hq h1 h2 h3 h4 ⟨h⟩
theorem rn5 {a1 a2 a3 a4 a5 p q : Prop} (h1 : a1) (h2 : a2) (h3 : a3) (h4 : a4) (h5 : a5) (h : q) (hq : a1 → a2 → a3 → a4 → a5 → Wr q → p := by intro h1 h2 h3 h4 h5 h; (repeat ((repeat1' (first | simp -implicitDefEqProofs -dsimp only [go_sem, h1, h2, h3, h4, h5] | simp -dsimp (disch := omega) only [wrap_i64])); repeat (with_reducible refine df ?_))); exact h.o) : p := hq h1 h2 h3 h4 h5 ⟨h⟩
theorem rn6 {a1 a2 a3 a4 a5 a6 p q : Prop} (h1 : a1) (h2 : a2) (h3 : a3) (h4 : a4) (h5 : a5) (h6 : a6) (h : q) (hq : a1 → a2 → a3 → a4 → a5 → a6 → Wr q → p := by intro h1 h2 h3 h4 h5 h6 h; (repeat ((repeat1' (first | simp -implicitDefEqProofs -dsimp only [go_sem, h1, h2, h3, h4, h5, h6] | simp -dsimp (disch := omega) only [wrap_i64])); repeat (with_reducible refine df ?_))); exact h.o) : p := hq h1 h2 h3 h4 h5 h6 ⟨h⟩
theorem rn7 {a1 a2 a3 a4 a5 a6 a7 p q : Prop} (h1 : a1) (h2 : a2) (h3 : a3) (h4 : a4) (h5 : a5) (h6 : a6) (h7 : a7) (h : q) (hq : a1 → a2 → a3 → a4 → a5 → a6 → a7 → Wr q → p := by intro h1 h2 h3 h4 h5 h6 h7 h; (repeat ((repeat1' (first | simp -implicitDefEqProofs -dsimp only [go_sem, h1, h2, h3, h4, h5, h6, h7] | simp -dsimp (disch := omega) only [wrap_i64])); repeat (with_reducible refine df ?_))); exact h.o) : p := hq h1 h2 h3 h4 h5 h6 h7 ⟨h⟩
theorem rn8 {a1 a2 a3 a4 a5 a6 a7 a8 p q : Prop} (h1 : a1) (h2 : a2) (h3 : a3) (h4 : a4) (h5 : a5) (h6 : a6) (h7 : a7) (h8 : a8) (h : q) (hq : a1 → a2 → a3 → a4 → a5 → a6 → a7 → a8 → Wr q → p := by intro h1 h2 h3 h4 h5 h6 h7 h8 h; (repeat ((repeat1' (first | simp -implicitDefEqProofs -dsimp only [go_sem, h1, h2, h3, h4, h5, h6, h7, h8] | simp -dsimp (disch := omega) only [wrap_i64])); repeat (with_reducible refine df ?_))); exact h.o) : p := hq h1 h2 h3 h4 h5 h6 h7 h8 ⟨h⟩
theorem rn11 {a1 a2 a3 a4 a5 a6 a7 a8 a9 a10 a11 p q : Prop} (h1 : a1) (h2 : a2) (h3 : a3) (h4 : a4) (h5 : a5) (h6 : a6) (h7 : a7) (h8 : a8) (h9 : a9) (h10 : a10) (h11 : a11) (h : q) (hq : a1 → a2 → a3 → a4 → a5 → a6 → a7 → a8 → a9 → a10 → a11 → Wr q → p := by intro h1 h2 h3 h4 h5 h6 h7 h8 h9 h10 h11 h; (repeat ((repeat1' (first | simp -implicitDefEqProofs -dsimp only [go_sem, h1, h2, h3, h4, h5, h6, h7, h8, h9, h10, h11] | simp -dsimp (disch := omega) only [wrap_i64])); repeat (with_reducible refine df ?_))); exact h.o) : p := hq h1 h2 h3 h4 h5 h6 h7 h8 h9 h10 h11 ⟨h⟩
theorem aqu {a1 a2 a3 a4 a5 a6 a7 a8 a9 a10 a11 a12 a13 p q : Prop} (h1 : a1) (h2 : a2) (h3 : a3) (h4 : a4) (h5 : a5) (h6 : a6) (h7 : a7) (h8 : a8) (h9 : a9) (h10 : a10) (h11 : a11) (h12 : a12) (h13 : a13) (h : q) (hq : a1 → a2 → a3 → a4 → a5 → a6 → a7 → a8 → a9 → a10 → a11 → a12 → a13 → Wr q → p := by intro h1 h2 h3 h4 h5 h6 h7 h8 h9 h10 h11 h12 h13 h; (repeat ((repeat1' (first | simp -implicitDefEqProofs -dsimp only [go_sem, h1, h2, h3, h4, h5, h6, h7, h8, h9, h10, h11, h12, h13] | simp -dsimp (disch := omega) only [wrap_i64])); repeat (with_reducible refine df ?_))); exact h.o) : p := hq h1 h2 h3 h4 h5 h6 h7 h8 h9 h10 h11 h12 h13 ⟨h⟩
theorem rn15 {a1 a2 a3 a4 a5 a6 a7 a8 a9 a10 a11 a12 a13 a14 a15 p q : Prop} (h1 : a1) (h2 : a2) (h3 : a3) (h4 : a4) (h5 : a5) (h6 : a6) (h7 : a7) (h8 : a8) (h9 : a9) (h10 : a10) (h11 : a11) (h12 : a12) (h13 : a13) (h14 : a14) (h15 : a15) (h : q) (hq : a1 → a2 → a3 → a4 → a5 → a6 → a7 → a8 → a9 → a10 → a11 → a12 → a13 → a14 → a15 → Wr q → p := by intro h1 h2 h3 h4 h5 h6 h7 h8 h9 h10 h11 h12 h13 h14 h15 h; (repeat ((repeat1' (first | simp -implicitDefEqProofs -dsimp only [go_sem, h1, h2, h3, h4, h5, h6, h7, h8, h9, h10, h11, h12, h13, h14, h15] | simp -dsimp (disch := omega) only [wrap_i64])); repeat (with_reducible refine df ?_))); exact h.o) : p := hq h1 h2 h3 h4 h5 h6 h7 h8 h9 h10 h11 h12 h13 h14 h15 ⟨h⟩
theorem rn16 {a1 a2 a3 a4 a5 a6 a7 a8 a9 a10 a11 a12 a13 a14 a15 a16 p q : Prop} (h1 : a1) (h2 : a2) (h3 : a3) (h4 : a4) (h5 : a5) (h6 : a6) (h7 : a7) (h8 : a8) (h9 : a9) (h10 : a10) (h11 : a11) (h12 : a12) (h13 : a13) (h14 : a14) (h15 : a15) (h16 : a16) (h : q) (hq : a1 → a2 → a3 → a4 → a5 → a6 → a7 → a8 → a9 → a10 → a11 → a12 → a13 → a14 → a15 → a16 → Wr q → p := by intro h1 h2 h3 h4 h5 h6 h7 h8 h9 h10 h11 h12 h13 h14 h15 h16 h; (repeat ((repeat1' (first | simp -implicitDefEqProofs -dsimp only [go_sem, h1, h2, h3, h4, h5, h6, h7, h8, h9, h10, h11, h12, h13, h14, h15, h16] | simp -dsimp (disch := omega) only [wrap_i64])); repeat (with_reducible refine df ?_))); exact h.o) : p := hq h1 h2 h3 h4 h5 h6 h7 h8 h9 h10 h11 h12 h13 h14 h15 h16 ⟨h⟩
theorem rn17 {a1 a2 a3 a4 a5 a6 a7 a8 a9 a10 a11 a12 a13 a14 a15 a16 a17 p q : Prop} (h1 : a1) (h2 : a2) (h3 : a3) (h4 : a4) (h5 : a5) (h6 : a6) (h7 : a7) (h8 : a8) (h9 : a9) (h10 : a10) (h11 : a11) (h12 : a12) (h13 : a13) (h14 : a14) (h15 : a15) (h16 : a16) (h17 : a17) (h : q) (hq : a1 → a2 → a3 → a4 → a5 → a6 → a7 → a8 → a9 → a10 → a11 → a12 → a13 → a14 → a15 → a16 → a17 → Wr q → p := by intro h1 h2 h3 h4 h5 h6 h7 h8 h9 h10 h11 h12 h13 h14 h15 h16 h17 h; (repeat ((repeat1' (first | simp -implicitDefEqProofs -dsimp only [go_sem, h1, h2, h3, h4, h5, h6, h7, h8, h9, h10, h11, h12, h13, h14, h15, h16, h17] | simp -dsimp (disch := omega) only [wrap_i64])); repeat (with_reducible refine df ?_))); exact h.o) : p := hq h1 h2 h3 h4 h5 h6 h7 h8 h9 h10 h11 h12 h13 h14 h15 h16 h17 ⟨h⟩
theorem ev0 {p q : Prop} (h : q) (hq : Wr q → p := by intro h; simp -implicitDefEqProofs -dsimp only [go_sem]; exact h.o) : p := hq ⟨h⟩
theorem ev1 {a1 p q : Prop} (h1 : a1) (h : q) (hq : a1 → Wr q → p := by intro h1 h; simp -implicitDefEqProofs -dsimp only [go_sem, h1]; exact h.o) : p := hq h1 ⟨h⟩
theorem ev2 {a1 a2 p q : Prop} (h1 : a1) (h2 : a2) (h : q) (hq : a1 → a2 → Wr q → p := by intro h1 h2 h; simp -implicitDefEqProofs -dsimp only [go_sem, h1, h2]; exact h.o) : p := hq h1 h2 ⟨h⟩
theorem ev3 {a1 a2 a3 p q : Prop} (h1 : a1) (h2 : a2) (h3 : a3) (h : q) (hq : a1 → a2 → a3 → Wr q → p := by intro h1 h2 h3 h; simp -implicitDefEqProofs -dsimp only [go_sem, h1, h2, h3]; exact h.o) : p := hq h1 h2 h3 ⟨h⟩
theorem ev4 {a1 a2 a3 a4 p q : Prop} (h1 : a1) (h2 : a2) (h3 : a3) (h4 : a4) (h : q) (hq : a1 → a2 → a3 → a4 → Wr q → p := by intro h1 h2 h3 h4 h; simp -implicitDefEqProofs -dsimp only [go_sem, h1, h2, h3, h4]; exact h.o) : p := hq h1 h2 h3 h4 ⟨h⟩
theorem ev7 {a1 a2 a3 a4 a5 a6 a7 p q : Prop} (h1 : a1) (h2 : a2) (h3 : a3) (h4 : a4) (h5 : a5) (h6 : a6) (h7 : a7) (h : q) (hq : a1 → a2 → a3 → a4 → a5 → a6 → a7 → Wr q → p := by intro h1 h2 h3 h4 h5 h6 h7 h; simp -implicitDefEqProofs -dsimp only [go_sem, h1, h2, h3, h4, h5, h6, h7]; exact h.o) : p := hq h1 h2 h3 h4 h5 h6 h7 ⟨h⟩
theorem ew0 {p q : Prop} (h : q) (hq : Wr q → p := by intro h; (repeat1' (first | simp -implicitDefEqProofs -dsimp only [go_sem] | simp -dsimp (disch := omega) only [wrap_i64])); exact h.o) : p := hq ⟨h⟩
theorem ew1 {a1 p q : Prop} (h1 : a1) (h : q) (hq : a1 → Wr q → p := by intro h1 h; (repeat1' (first | simp -implicitDefEqProofs -dsimp only [go_sem, h1] | simp -dsimp (disch := omega) only [wrap_i64])); exact h.o) : p := hq h1 ⟨h⟩
theorem ew2 {a1 a2 p q : Prop} (h1 : a1) (h2 : a2) (h : q) (hq : a1 → a2 → Wr q → p := by intro h1 h2 h; (repeat1' (first | simp -implicitDefEqProofs -dsimp only [go_sem, h1, h2] | simp -dsimp (disch := omega) only [wrap_i64])); exact h.o) : p := hq h1 h2 ⟨h⟩
theorem ew3 {a1 a2 a3 p q : Prop} (h1 : a1) (h2 : a2) (h3 : a3) (h : q) (hq : a1 → a2 → a3 → Wr q → p := by intro h1 h2 h3 h; (repeat1' (first | simp -implicitDefEqProofs -dsimp only [go_sem, h1, h2, h3] | simp -dsimp (disch := omega) only [wrap_i64])); exact h.o) : p := hq h1 h2 h3 ⟨h⟩
theorem ew5 {a1 a2 a3 a4 a5 p q : Prop} (h1 : a1) (h2 : a2) (h3 : a3) (h4 : a4) (h5 : a5) (h : q) (hq : a1 → a2 → a3 → a4 → a5 → Wr q → p := by intro h1 h2 h3 h4 h5 h; (repeat1' (first | simp -implicitDefEqProofs -dsimp only [go_sem, h1, h2, h3, h4, h5] | simp -dsimp (disch := omega) only [wrap_i64])); exact h.o) : p := hq h1 h2 h3 h4 h5 ⟨h⟩
theorem ew6 {a1 a2 a3 a4 a5 a6 p q : Prop} (h1 : a1) (h2 : a2) (h3 : a3) (h4 : a4) (h5 : a5) (h6 : a6) (h : q) (hq : a1 → a2 → a3 → a4 → a5 → a6 → Wr q → p := by intro h1 h2 h3 h4 h5 h6 h; (repeat1' (first | simp -implicitDefEqProofs -dsimp only [go_sem, h1, h2, h3, h4, h5, h6] | simp -dsimp (disch := omega) only [wrap_i64])); exact h.o) : p := hq h1 h2 h3 h4 h5 h6 ⟨h⟩
end Go.Lv
end
section
namespace Go.Lv
theorem n7 {α : Type} {cs : α → List V} {w : Nat} (hw : ∀ a, (cs a).length = w) {L : List α} {i : Nat} (hi : i < L.length) (x : α) : dp (rows cs L) (i * w) (cs x) = rows cs (L.set i x) := by
 have e : L = L.take i ++ L[i] :: L.drop (i + 1) := by rw [← List.drop_eq_getElem_cons hi, List.take_append_drop]
 have e2 : L.set i x = L.take i ++ x :: L.drop (i + 1) := by rw [List.set_eq_take_append_cons_drop, if_pos hi]
 have hA : (rows cs (L.take i)).length = i * w := by rw [lj hw, List.length_take, Nat.min_eq_left (by omega)]
 rw [e2, jb, fq]
 conv => lhs; rw [e, jb, fq]
 rw [ai7 hA, aa9]
 congr 2
 rw [List.drop_append_of_le_length (by rw [hw, hw]; exact Nat.le_refl _), List.drop_of_length_le (by rw [hw, hw]; exact Nat.le_refl _)]
 rfl
end Go.Lv
end
section
namespace Go.Lv
theorem ajo {A B ns : List V} {f : Nat} (h : f + ns.length ≤ A.length) : dp (A ++ B) f ns = dp A f ns ++ B := by
 unfold dp
 rw [List.take_append_of_le_length (by omega), List.drop_append_of_le_length (by omega)]
 simp [List.append_assoc]
theorem ru {α : Type} {cs : α → List V} {w : Nat} (hw : ∀ a, (cs a).length = w) {L : List α} {j f : Nat} {v : V} {x : α} (hj : j < L.length) (hf : f < w) (hx : cs x = dp (cs L[j]) f [v]) : dp (rows cs L) (j * w + f) [v] = rows cs (L.set j x) := by
 have e : L = L.take j ++ L[j] :: L.drop (j + 1) := by rw [← List.drop_eq_getElem_cons hj, List.take_append_drop]
 have e2 : L.set j x = L.take j ++ x :: L.drop (j + 1) := by rw [List.set_eq_take_append_cons_drop, if_pos hj]
 have hA : (rows cs (L.take j)).length = j * w := by rw [lj hw, List.length_take, Nat.min_eq_left (by omega)]
 rw [e2, jb, fq]
 conv => lhs; rw [e, jb, fq]
 rw [acq hA, ajo (by rw [hw]; simp; omega), hx]

def fits (id n : Nat) : Nat → V → Bool
 | _, .osl i off m w => i != id || decide (off + m * w ≤ n)
 | d + 1, .agg cs => cs.all (fits id n d)
 | d + 1, .tup cs => cs.all (fits id n d)
 | d + 1, .fn _ a c => a.all (fits id n d) && c.all (fits id n d)
 | 0, .agg _ => false
 | 0, .tup _ => false
 | 0, .fn _ _ _ => false
 | _, _ => true

theorem RV.trim {w : World} {m : Nat → Nat} {h : Hp} {av av' : Nat → Prop} {id n : Nat} {cs : List V} (hid : h[id]? = some (some cs)) (hmb : im cs = false) (hmb' : im (cs.take n) = false) (hn : n ≤ cs.length) (hav : ∀ b, av' b → av b) {o : Bool} {v : Value} {x : V}
 (hx : RV w m h av o v x) : ∀ d, fits id n d x = true → RV w m (h.set id (some (cs.take n))) av' o v x := by
 have hro : ∀ {v : Value} {x : V}, RV w m h av false v x → RV w m (h.set id (some (cs.take n))) av' false v x := fun hx =>
  hx.wq (fun b off v hb hc => ⟨fun h => hb (hav b h), hc⟩) rfl
 have hset : ∀ {i : Nat} {c : List V}, h[i]? = some (some c) → i ≠ id → (h.set id (some (cs.take n)))[i]? = some (some c) := fun h e => by
  rw [List.getElem?_set_ne (Ne.symm e)]; exact h
 have hself : (h.set id (some (cs.take n)))[id]? = some (some (cs.take n)) := List.getElem?_set_self (eo hid)
 induction hx with
 | undef v => exact fun _ _ => .undef v
 | skip => exact fun _ _ => .skip
 | bool b => exact fun _ _ => .bool b
 | int k n => exact fun _ _ => .int k n
 | str s => exact fun _ _ => .str s
 | nilsl => exact fun _ _ => .nilsl
 | slz a c wd => exact fun _ _ => .slz a c wd
 | sl b off n' cap wd cs' vals hl ha hc hv hr _ => exact fun _ _ => .sl b off n' cap wd cs' vals hl (fun hne h => ha hne (hav b h)) hc hv (fun i hi => hro (hr i hi))
 | pt b off cs' vals ha hv hr _ => exact fun _ _ => .pt b off cs' vals (fun hne h => ha hne (hav b h)) hv (fun i hi => hro (hr i hi))
 | osl id' off n' cap wd cs' hid' hl hc hs =>
  intro d hf
  by_cases e : id' = id
  · subst e
    have he : cs = cs' := by have := hid'.1; rw [hid] at this; simpa using this
    subst he
    have hf' : off + n' * wd ≤ n := by cases d <;> simpa [fits] using hf
    exact .osl id' off n' cap wd (cs.take n) ⟨hself, hmb'⟩ (by simp; omega) hc hs
  · exact .osl id' off n' cap wd cs' ⟨hset hid'.1 e, hid'.2⟩ hl hc hs
 | ptr id' off cs' hid' =>
  intro d _
  by_cases e : id' = id
  · subst e
    exact .ptr id' off (cs.take n) ⟨hself, hmb'⟩
  · exact .ptr id' off cs' ⟨hset hid'.1 e, hid'.2⟩
 | fn g a c a' c' ha hc hra hrc iha ihc =>
  intro d hf
  cases d with
  | zero => simp [fits] at hf
  | succ d =>
   simp only [fits, Bool.and_eq_true, List.all_eq_true] at hf
   exact .fn g a c a' c' ha hc (fun i hi => iha i hi d (hf.1 _ (List.getElem_mem hi))) (fun i hi => ihc i hi d (hf.2 _ (List.getElem_mem hi)))
 | agg a a' ha hra iha =>
  intro d hf
  cases d with
  | zero => simp [fits] at hf
  | succ d =>
   simp only [fits, List.all_eq_true] at hf
   exact .agg a a' ha (fun i hi => iha i hi d (hf _ (List.getElem_mem hi)))
 | tup a a' ha hra iha =>
  intro d hf
  cases d with
  | zero => simp [fits] at hf
  | succ d =>
   simp only [fits, List.all_eq_true] at hf
   exact .tup a a' ha (fun i hi => iha i hi d (hf _ (List.getElem_mem hi)))
 | lit v => exact fun _ _ => .lit v
 | mp id' cs' hid' hm =>
  intro d _
  by_cases e : id' = id
  · subst e
    rw [hid] at hid'
    have he : cs = cs' := by simpa using hid'
    subst he
    rw [hmb] at hm; cases hm
  · exact .mp id' cs' (hset hid' e) hm

theorem ak.trim {k : Nat} {v r : V} {h hout : Hp} (id n : Nat) {cs : List V} (hid : h[id]? = some (some cs)) (hk : k ≤ id) (hn : n ≤ cs.length) (hmb : im cs = false) (hmb' : im (cs.take n) = false) (hv : fits id n 3 v = true)
 (hh : (h.all fun b => match b with | some cs => cs.all (fits id n 2) | none => true) = true) (hr : ak k v (h.set id (some (cs.take n))) r hout) : ak k v h r hout := by
 intro w0 m0 h0 av0 w m val e1 e2 hlt hle H hx hI
 have hfit : ∀ (j : Nat) (c : List V), h[j]? = some (some c) → ∀ x ∈ c, fits id n 2 x = true := by
  intro j c hj x hxc
  have := List.all_eq_true.1 hh _ (List.mem_of_getElem? hj)
  exact List.all_eq_true.1 this x hxc
 have hown : ∀ b, own m (h.set id (some (cs.take n))) b → own m h b := by
  rintro b ⟨j, c, h1, rfl⟩
  rcases nw hid h1 with ⟨rfl, _⟩ | ⟨_, h2⟩
  · exact ⟨j, cs, hid, rfl⟩
  · exact ⟨j, c, h2, rfl⟩
 have hav : ∀ b, avm av0 m (h.set id (some (cs.take n))) b → avm av0 m h b := fun b hb => hb.imp (fun x => x) (hown b)
 have hcase : ∀ (j : Nat) (c : List V), (h.set id (some (cs.take n)))[j]? = some (some c) → ∃ c0, h[j]? = some (some c0) ∧ (∃ q, c = c0.take q) := by
  intro j c h1
  rcases nw hid h1 with ⟨rfl, rfl⟩ | ⟨_, h2⟩
  · exact ⟨cs, hid, n, rfl⟩
  · exact ⟨c, h2, c.length, by simp⟩
 refine hr w0 m0 h0 av0 w m val e1 (by simpa using e2) hlt hle ⟨fun i j ci cj h1 h2 he => ?_, fun j c h1 => .inr ⟨j, c, h1, rfl⟩, fun j c h1 => ?_⟩ (hx.trim hid hmb hmb' hn hav 3 hv) (fun j c h1 => ?_)
 · obtain ⟨c1, g1, _⟩ := hcase i ci h1
   obtain ⟨c2, g2, _⟩ := hcase j cj h2
   exact H.inj i j c1 c2 g1 g2 he
 · rcases nw hid h1 with ⟨rfl, rfl⟩ | ⟨_, h2⟩
   · obtain ⟨C, T, fr, g1, hfr, g2, g3⟩ := (H.blk j cs hid).cells hmb
     refine .inl ⟨C, T, fr, g1, hfr, by simp; omega, fun i hi => ?_⟩
     have hi' : i < cs.length := by simp at hi; omega
     rw [List.getElem_take]
     exact (g3 i hi').trim hid hmb hmb' hn hav 2 (hfit j cs hid _ (List.getElem_mem _))
   · rcases H.blk j c h2 with ⟨C, T, fr, g1, hfr, g2, g3⟩ | h3
     · exact .inl ⟨C, T, fr, g1, hfr, g2, fun i hi => (g3 i hi).trim hid hmb hmb' hn hav 2 (hfit j c h2 _ (List.getElem_mem _))⟩
     · exact .inr h3
 · rcases nw hid h1 with ⟨rfl, rfl⟩ | ⟨_, h2⟩
   · rcases hI j cs hid with ⟨q1, _⟩ | q1
     · omega
     · exact .inr q1
   · exact hI j c h2

theorem aef (id n : Nat) : ∀ (d : Nat) (x : V), db d x = true → fits id n d x = true
 | 0, x, hx => by cases x <;> simp_all [db, fits]
 | d + 1, x, hx => by
  have hall : ∀ l : List V, l.all (db d) = true → l.all (fits id n d) = true := fun l h =>
   List.all_eq_true.2 fun y hy => aef id n d y (List.all_eq_true.1 h y hy)
  cases x <;> first | (simp only [db, fits, Bool.and_eq_true] at hx ⊢; exact ⟨hall _ hx.1, hall _ hx.2⟩) | (simp only [db, fits] at hx ⊢; exact hall _ hx) | rfl | cases hx
theorem aff {α : Type} {cs : α → List V} {w : Nat} [nc cs w] (id n d : Nat) (L : List α) : (rows cs L).all (fits id n d) = true :=
 List.all_eq_true.2 fun x hx => aef id n d x (List.all_eq_true.1 (ly (cs := cs) L d) x hx)
end Go.Lv
end
section
set_option maxRecDepth 100000
namespace Go.Proofs
open Go.Lv
def u8R (x : Int) : Prop := 0 ≤ x ∧ x ≤ 255
def ByteS.cs (x : Int) : List V := [.int .u8 x]
instance instFlatPByteS : qp ByteS.cs 1 := ⟨fun _ => rfl, fun _ d => by cases d <;> rfl, fun _ => rfl, fun _ => rfl⟩
theorem ByteS.csl (a : Int) : (ByteS.cs a).length = 1 := rfl
abbrev ByteS.ok (x : Int) : Prop := u8R x
abbrev ByteS.sl (L : List Int) : V := .sl L.length 1 (Go.Lv.rows ByteS.cs L)

end Go.Proofs
end
section
namespace Go.Proofs
open Go.Lv

theorem Tryz.mixed : Tryz.prog.follows .mixedOrders = true := by kernel_rfl
@[go_sem] theorem Tryz.tsz3 : jd Tryz.prog 3 = some (1, false) := by kernel_rfl
@[go_sem] theorem Tryz.udef3 : (Tryz.prog.underlying 3).isSome = true := by kernel_rfl
@[go_sem] theorem Tryz.zero3 : zeroOf Tryz.prog 3 = some [.int .i64 0] := by kernel_rfl
@[go_sem] theorem Tryz.isInt3 : vn Tryz.prog 3 = some .i64 := by kernel_rfl
@[go_sem] theorem Tryz.tsz4 : jd Tryz.prog 4 = some (1, false) := by kernel_rfl
@[go_sem] theorem Tryz.a6p : yg Tryz.prog 4 = true := by kernel_rfl
@[go_sem] theorem Tryz.tsz5 : jd Tryz.prog 5 = some (1, false) := by kernel_rfl
theorem Tryz.cz5 : Tryz.prog.cellsOf 5 = 1 := by kernel_rfl
@[go_sem] theorem Tryz.udef5 : (Tryz.prog.underlying 5).isSome = true := by kernel_rfl
@[go_sem] theorem Tryz.zero5 : zeroOf Tryz.prog 5 = some [.int .u8 0] := by kernel_rfl
@[go_sem] theorem Tryz.tsz9 : jd Tryz.prog 9 = some (1, false) := by kernel_rfl
@[go_sem] theorem Tryz.zero9 : zeroOf Tryz.prog 9 = some [.str ByteArray.empty] := by kernel_rfl
@[go_sem] theorem Tryz.isStr9 : isStr Tryz.prog 9 = true := by kernel_rfl
@[go_sem] theorem Tryz.tsz22 : jd Tryz.prog 22 = some (1, false) := by kernel_rfl
@[go_sem] theorem Tryz.el22 : jg Tryz.prog 22 = some (5, 1, 1) := by kernel_rfl
@[go_sem] theorem Tryz.isSl22 : w7 Tryz.prog 22 = true := by kernel_rfl
@[go_sem] theorem Tryz.a61 : ta Tryz.prog 22 = true := by kernel_rfl
@[go_sem] theorem Tryz.tsz24 : jd Tryz.prog 24 = some (1, false) := by kernel_rfl
@[go_sem] theorem Tryz.el24 : jg Tryz.prog 24 = some (100, 3, 24) := by kernel_rfl
@[go_sem] theorem Tryz.isSl24 : w7 Tryz.prog 24 = true := by kernel_rfl
@[go_sem] theorem Tryz.tsz25 : jd Tryz.prog 25 = some (1, false) := by kernel_rfl
@[go_sem] theorem Tryz.el25 : jg Tryz.prog 25 = some (80, 5, 40) := by kernel_rfl
@[go_sem] theorem Tryz.isSl25 : w7 Tryz.prog 25 = true := by kernel_rfl
@[go_sem] theorem Tryz.tsz27 : jd Tryz.prog 27 = some (5, true) := by kernel_rfl
@[go_sem] theorem Tryz.zero27 : zeroOf Tryz.prog 27 = some [.int .i64 0, .nilsl, .nilsl, .int .i64 0, .int .i64 0] := by kernel_rfl
@[go_sem] theorem Tryz.pl27 : abx Tryz.prog 27 = some [(0, 1), (1, 1), (2, 1), (3, 1), (4, 1)] := by kernel_rfl
@[go_sem] theorem Tryz.fd27_0 : kj Tryz.prog 27 0 = some (0, 1, false) := by kernel_rfl
@[go_sem] theorem Tryz.fd27_1 : kj Tryz.prog 27 1 = some (1, 1, false) := by kernel_rfl
@[go_sem] theorem Tryz.fd27_2 : kj Tryz.prog 27 2 = some (2, 1, false) := by kernel_rfl
@[go_sem] theorem Tryz.fd27_3 : kj Tryz.prog 27 3 = some (3, 1, false) := by kernel_rfl
@[go_sem] theorem Tryz.fd27_4 : kj Tryz.prog 27 4 = some (4, 1, false) := by kernel_rfl
@[go_sem] theorem Tryz.tsz29 : jd Tryz.prog 29 = some (3, true) := by kernel_rfl
@[go_sem] theorem Tryz.zero29 : zeroOf Tryz.prog 29 = some [.str ByteArray.empty, .str ByteArray.empty, .int .i64 0] := by kernel_rfl
@[go_sem] theorem Tryz.a6c : uj Tryz.prog 29 = some [.string, .string, .int .i64] := by kernel_rfl
@[go_sem] theorem Tryz.pl29 : abx Tryz.prog 29 = some [(0, 1), (1, 1), (2, 1)] := by kernel_rfl
@[go_sem] theorem Tryz.fd29_0 : kj Tryz.prog 29 0 = some (0, 1, false) := by kernel_rfl
@[go_sem] theorem Tryz.fd29_1 : kj Tryz.prog 29 1 = some (1, 1, false) := by kernel_rfl
@[go_sem] theorem Tryz.fd29_2 : kj Tryz.prog 29 2 = some (2, 1, false) := by kernel_rfl
@[go_sem] theorem Tryz.tsz31 : jd Tryz.prog 31 = some (8, true) := by kernel_rfl
@[go_sem] theorem Tryz.zero31 : zeroOf Tryz.prog 31 = some [.int .i64 0, .nilsl, .nilsl, .int .i64 0, .int .i64 0, .str ByteArray.empty, .str ByteArray.empty, .int .i64 0] := by kernel_rfl
@[go_sem] theorem Tryz.pl31 : abx Tryz.prog 31 = some [(0, 5), (5, 3)] := by kernel_rfl
@[go_sem] theorem Tryz.fd31_0 : kj Tryz.prog 31 0 = some (0, 5, true) := by kernel_rfl
@[go_sem] theorem Tryz.fd31_1 : kj Tryz.prog 31 1 = some (5, 3, true) := by kernel_rfl
@[go_sem] theorem Tryz.el37 : jg Tryz.prog 37 = some (41, 2, 32) := by kernel_rfl
@[go_sem] theorem Tryz.isSl37 : w7 Tryz.prog 37 = true := by kernel_rfl
@[go_sem] theorem Tryz.tsz41 : jd Tryz.prog 41 = some (2, true) := by kernel_rfl
@[go_sem] theorem Tryz.zero41 : zeroOf Tryz.prog 41 = some [.str ByteArray.empty, .str ByteArray.empty] := by kernel_rfl
@[go_sem] theorem Tryz.a4m : uj Tryz.prog 41 = some [.string, .string] := by kernel_rfl
@[go_sem] theorem Tryz.pl41 : abx Tryz.prog 41 = some [(0, 1), (1, 1)] := by kernel_rfl
@[go_sem] theorem Tryz.fd41_0 : kj Tryz.prog 41 0 = some (0, 1, false) := by kernel_rfl
@[go_sem] theorem Tryz.fd41_1 : kj Tryz.prog 41 1 = some (1, 1, false) := by kernel_rfl
@[go_sem] theorem Tryz.el42 : jg Tryz.prog 42 = some (9, 1, 16) := by kernel_rfl
@[go_sem] theorem Tryz.isSl42 : w7 Tryz.prog 42 = true := by kernel_rfl
@[go_sem] theorem Tryz.el48 : jg Tryz.prog 48 = some (3, 1, 8) := by kernel_rfl
@[go_sem] theorem Tryz.isSl48 : w7 Tryz.prog 48 = true := by kernel_rfl
@[go_sem] theorem Tryz.tsz59 : jd Tryz.prog 59 = some (1, false) := by kernel_rfl
@[go_sem] theorem Tryz.udef59 : (Tryz.prog.underlying 59).isSome = true := by kernel_rfl
@[go_sem] theorem Tryz.a6w : vn Tryz.prog 59 = some .u64 := by kernel_rfl
@[go_sem] theorem Tryz.zero61 : zeroOf Tryz.prog 61 = some [.nilsl, .int .i64 0, .int .u64 0] := by kernel_rfl
@[go_sem] theorem Tryz.pl61 : abx Tryz.prog 61 = some [(0, 1), (1, 1), (2, 1)] := by kernel_rfl
@[go_sem] theorem Tryz.fd61_0 : kj Tryz.prog 61 0 = some (0, 1, false) := by kernel_rfl
@[go_sem] theorem Tryz.fd61_1 : kj Tryz.prog 61 1 = some (1, 1, false) := by kernel_rfl
@[go_sem] theorem Tryz.fd61_2 : kj Tryz.prog 61 2 = some (2, 1, false) := by kernel_rfl
@[go_sem] theorem Tryz.tsz80 : jd Tryz.prog 80 = some (5, true) := by kernel_rfl
@[go_sem] theorem Tryz.zero80 : zeroOf Tryz.prog 80 = some [.int .i64 0, .int .i64 0, .int .i64 0, .int .i64 0, .int .i64 0] := by kernel_rfl
@[go_sem] theorem Tryz.a2o : uj Tryz.prog 80 = some [.int .i64, .int .i64, .int .i64, .int .i64, .int .i64] := by kernel_rfl
@[go_sem] theorem Tryz.pl80 : abx Tryz.prog 80 = some [(0, 1), (1, 1), (2, 1), (3, 1), (4, 1)] := by kernel_rfl
@[go_sem] theorem Tryz.fd80_0 : kj Tryz.prog 80 0 = some (0, 1, false) := by kernel_rfl
@[go_sem] theorem Tryz.fd80_1 : kj Tryz.prog 80 1 = some (1, 1, false) := by kernel_rfl
@[go_sem] theorem Tryz.fd80_2 : kj Tryz.prog 80 2 = some (2, 1, false) := by kernel_rfl
@[go_sem] theorem Tryz.fd80_3 : kj Tryz.prog 80 3 = some (3, 1, false) := by kernel_rfl
@[go_sem] theorem Tryz.fd80_4 : kj Tryz.prog 80 4 = some (4, 1, false) := by kernel_rfl
@[go_sem] theorem Tryz.tsz95 : jd Tryz.prog 95 = some (3, true) := by kernel_rfl
@[go_sem] theorem Tryz.zero95 : zeroOf Tryz.prog 95 = some [.int .i64 0, .int .i64 0, .int .i64 0] := by kernel_rfl
@[go_sem] theorem Tryz.pl95 : abx Tryz.prog 95 = some [(0, 1), (1, 1), (2, 1)] := by kernel_rfl
@[go_sem] theorem Tryz.fd95_0 : kj Tryz.prog 95 0 = some (0, 1, false) := by kernel_rfl
@[go_sem] theorem Tryz.fd95_1 : kj Tryz.prog 95 1 = some (1, 1, false) := by kernel_rfl
@[go_sem] theorem Tryz.fd95_2 : kj Tryz.prog 95 2 = some (2, 1, false) := by kernel_rfl
@[go_sem] theorem Tryz.tsz100 : jd Tryz.prog 100 = some (3, true) := by kernel_rfl
@[go_sem] theorem Tryz.a7d : zeroOf Tryz.prog 100 = some [.int .i64 0, .bool false, .int .i64 0] := by kernel_rfl
@[go_sem] theorem Tryz.aze : uj Tryz.prog 100 = some [.int .i64, .bool, .int .i64] := by kernel_rfl
@[go_sem] theorem Tryz.pl100 : abx Tryz.prog 100 = some [(0, 1), (1, 1), (2, 1)] := by kernel_rfl
@[go_sem] theorem Tryz.a7y : kj Tryz.prog 100 0 = some (0, 1, false) := by kernel_rfl
@[go_sem] theorem Tryz.a6r : kj Tryz.prog 100 1 = some (1, 1, false) := by kernel_rfl
@[go_sem] theorem Tryz.a7o : kj Tryz.prog 100 2 = some (2, 1, false) := by kernel_rfl
@[go_sem] theorem Tryz.a1y : mapOf Tryz.prog 141 = some (.string, .int .i64 0) := by kernel_rfl
@[go_sem] theorem Tryz.isPt3 : aaa Tryz.prog 3 = false := by kernel_rfl
@[go_sem] theorem Tryz.isPt9 : aaa Tryz.prog 9 = false := by kernel_rfl
@[go_sem] theorem Tryz.isPt24 : aaa Tryz.prog 24 = false := by kernel_rfl
@[go_sem] theorem Tryz.isPt25 : aaa Tryz.prog 25 = false := by kernel_rfl
@[go_sem] theorem Tryz.isPt27 : aaa Tryz.prog 27 = false := by kernel_rfl
@[go_sem] theorem Tryz.isPt29 : aaa Tryz.prog 29 = false := by kernel_rfl
@[go_sem] theorem Tryz.isPt31 : aaa Tryz.prog 31 = false := by kernel_rfl
@[go_sem] theorem Tryz.isPt41 : aaa Tryz.prog 41 = false := by kernel_rfl
@[go_sem] theorem Tryz.isPt58 : aaa Tryz.prog 58 = true := by kernel_rfl
@[go_sem] theorem Tryz.isPt80 : aaa Tryz.prog 80 = false := by kernel_rfl
@[go_sem] theorem Tryz.a77 : aaa Tryz.prog 100 = false := by kernel_rfl
theorem Tryz.okF3 : okF Tryz.prog 3 = true := by kernel_rfl
theorem Tryz.okF6 : okF Tryz.prog 6 = true := by kernel_rfl
theorem Tryz.okF7 : okF Tryz.prog 7 = true := by kernel_rfl
theorem Tryz.arh : okF Tryz.prog 8 = true := by kernel_rfl
theorem Tryz.as9 : okF Tryz.prog 9 = true := by kernel_rfl
theorem Tryz.a4c : okF Tryz.prog 10 = true := by kernel_rfl
theorem Tryz.a5a : okF Tryz.prog 11 = true := by kernel_rfl
theorem Tryz.a2t : okF Tryz.prog 12 = true := by kernel_rfl
theorem Tryz.a5d : okF Tryz.prog 13 = true := by kernel_rfl
theorem Tryz.a5l : okF Tryz.prog 27 = true := by kernel_rfl
theorem Tryz.a4q : okF Tryz.prog 28 = true := by kernel_rfl
theorem Tryz.aqk : okF Tryz.prog 29 = true := by kernel_rfl
theorem Tryz.a1v : okF Tryz.prog 30 = true := by kernel_rfl
theorem Tryz.a1z : okF Tryz.prog 31 = true := by kernel_rfl
theorem Tryz.a2j : okF Tryz.prog 32 = true := by kernel_rfl
theorem Tryz.a5s : okF Tryz.prog 33 = true := by kernel_rfl
theorem Tryz.a1i : okF Tryz.prog 34 = true := by kernel_rfl
theorem Tryz.au3 : okF Tryz.prog 35 = true := by kernel_rfl
theorem Tryz.a5b : okF Tryz.prog 36 = true := by kernel_rfl
theorem Tryz.a1r : okF Tryz.prog 37 = true := by kernel_rfl
theorem Tryz.a3r : okF Tryz.prog 38 = true := by kernel_rfl
theorem Tryz.a5o : okF Tryz.prog 39 = true := by kernel_rfl
theorem Tryz.a3g : okF Tryz.prog 40 = true := by kernel_rfl
theorem Tryz.a1a : okF Tryz.prog 41 = true := by kernel_rfl
theorem Tryz.a54 : okF Tryz.prog 42 = true := by kernel_rfl
theorem Tryz.a2y : okF Tryz.prog 43 = true := by kernel_rfl
theorem Tryz.a45 : okF Tryz.prog 44 = true := by kernel_rfl
theorem Tryz.a2m : okF Tryz.prog 45 = true := by kernel_rfl
theorem Tryz.a6a : okF Tryz.prog 46 = true := by kernel_rfl
theorem Tryz.a4v : okF Tryz.prog 47 = true := by kernel_rfl
theorem Tryz.a03 : okF Tryz.prog 48 = true := by kernel_rfl
theorem Tryz.au0 : okF Tryz.prog 49 = true := by kernel_rfl
theorem Tryz.a3v : okF Tryz.prog 50 = true := by kernel_rfl
theorem Tryz.a30 : okF Tryz.prog 51 = true := by kernel_rfl
theorem Tryz.a2e : okF Tryz.prog 52 = true := by kernel_rfl
theorem Tryz.a2b : okF Tryz.prog 53 = true := by kernel_rfl
theorem Tryz.a5w : okF Tryz.prog 56 = true := by kernel_rfl
theorem Tryz.a1q : okF Tryz.prog 57 = true := by kernel_rfl
theorem Tryz.a32 : okF Tryz.prog 58 = true := by kernel_rfl
theorem Tryz.a4a : okF Tryz.prog 59 = true := by kernel_rfl
theorem Tryz.a2k : okF Tryz.prog 60 = true := by kernel_rfl
theorem Tryz.au6 : okF Tryz.prog 61 = true := by kernel_rfl
theorem Tryz.a2c : okF Tryz.prog 62 = true := by kernel_rfl
theorem Tryz.aug : okF Tryz.prog 63 = true := by kernel_rfl
theorem Tryz.a5y : okF Tryz.prog 64 = true := by kernel_rfl
theorem Tryz.a1x : okF Tryz.prog 65 = true := by kernel_rfl
theorem Tryz.a3u : okF Tryz.prog 66 = true := by kernel_rfl
theorem Tryz.a5c : okF Tryz.prog 67 = true := by kernel_rfl
theorem Tryz.a3b : okF Tryz.prog 68 = true := by kernel_rfl
theorem Tryz.a3l : okF Tryz.prog 69 = true := by kernel_rfl
theorem Tryz.a1d : okF Tryz.prog 70 = true := by kernel_rfl
theorem Tryz.abe : okF Tryz.prog 71 = true := by kernel_rfl
theorem Tryz.zg : okF Tryz.prog 72 = true := by kernel_rfl
theorem Tryz.a4n : okF Tryz.prog 73 = true := by kernel_rfl
theorem Tryz.afx : okF Tryz.prog 74 = true := by kernel_rfl
theorem Tryz.a4y : okF Tryz.prog 75 = true := by kernel_rfl
theorem Tryz.a26 : okF Tryz.prog 76 = true := by kernel_rfl
theorem Tryz.a2v : okF Tryz.prog 77 = true := by kernel_rfl
theorem Tryz.a25 : okF Tryz.prog 78 = true := by kernel_rfl
theorem Tryz.a44 : okF Tryz.prog 79 = true := by kernel_rfl
theorem Tryz.a3h : okF Tryz.prog 80 = true := by kernel_rfl
theorem Tryz.yf : okF Tryz.prog 81 = true := by kernel_rfl
theorem Tryz.ad5 : okF Tryz.prog 82 = true := by kernel_rfl
theorem Tryz.ac8 : okF Tryz.prog 83 = true := by kernel_rfl
theorem Tryz.apk : okF Tryz.prog 84 = true := by kernel_rfl
theorem Tryz.a5v : okF Tryz.prog 85 = true := by kernel_rfl
theorem Tryz.a5p : okF Tryz.prog 86 = true := by kernel_rfl
theorem Tryz.a1f : okF Tryz.prog 87 = true := by kernel_rfl
theorem Tryz.a2x : okF Tryz.prog 88 = true := by kernel_rfl
theorem Tryz.a3t : okF Tryz.prog 89 = true := by kernel_rfl
theorem Tryz.a04 : okF Tryz.prog 90 = true := by kernel_rfl
theorem Tryz.a2z : okF Tryz.prog 91 = true := by kernel_rfl
theorem Tryz.a42 : okF Tryz.prog 92 = true := by kernel_rfl
theorem Tryz.a1s : okF Tryz.prog 93 = true := by kernel_rfl
theorem Tryz.a3e : okF Tryz.prog 94 = true := by kernel_rfl
theorem Tryz.a1h : okF Tryz.prog 95 = true := by kernel_rfl
theorem Tryz.a4x : okF Tryz.prog 97 = true := by kernel_rfl
theorem Tryz.a4u : okF Tryz.prog 98 = true := by kernel_rfl
theorem Tryz.a36 : okF Tryz.prog 99 = true := by kernel_rfl
theorem Tryz.ax0 : okF Tryz.prog 100 = true := by kernel_rfl
theorem Tryz.avv : okF Tryz.prog 101 = true := by kernel_rfl
theorem Tryz.ax1 : okF Tryz.prog 102 = true := by kernel_rfl
theorem Tryz.ayk : okF Tryz.prog 103 = true := by kernel_rfl
theorem Tryz.awf : okF Tryz.prog 104 = true := by kernel_rfl
theorem Tryz.av4 : okF Tryz.prog 108 = true := by kernel_rfl
theorem Tryz.ayd : okF Tryz.prog 109 = true := by kernel_rfl
theorem Tryz.ao7 : okF Tryz.prog 110 = true := by kernel_rfl
theorem Tryz.aw1 : okF Tryz.prog 111 = true := by kernel_rfl
theorem Tryz.avw : okF Tryz.prog 112 = true := by kernel_rfl
theorem Tryz.awl : okF Tryz.prog 113 = true := by kernel_rfl
theorem Tryz.ax5 : okF Tryz.prog 114 = true := by kernel_rfl
theorem Tryz.awc : okF Tryz.prog 115 = true := by kernel_rfl
theorem Tryz.awu : okF Tryz.prog 116 = true := by kernel_rfl
theorem Tryz.av5 : okF Tryz.prog 117 = true := by kernel_rfl
theorem Tryz.ayb : okF Tryz.prog 118 = true := by kernel_rfl
theorem Tryz.aw7 : okF Tryz.prog 119 = true := by kernel_rfl
theorem Tryz.ayl : okF Tryz.prog 120 = true := by kernel_rfl
theorem Tryz.axy : okF Tryz.prog 121 = true := by kernel_rfl
theorem Tryz.awd : okF Tryz.prog 122 = true := by kernel_rfl
theorem Tryz.axq : okF Tryz.prog 123 = true := by kernel_rfl
theorem Tryz.awn : okF Tryz.prog 124 = true := by kernel_rfl
theorem Tryz.aj0 : okF Tryz.prog 125 = true := by kernel_rfl
theorem Tryz.ayf : okF Tryz.prog 126 = true := by kernel_rfl
theorem Tryz.ax4 : okF Tryz.prog 127 = true := by kernel_rfl
theorem Tryz.axn : okF Tryz.prog 131 = true := by kernel_rfl
theorem Tryz.axg : okF Tryz.prog 132 = true := by kernel_rfl
theorem Tryz.xk : okF Tryz.prog 133 = true := by kernel_rfl
theorem Tryz.vh : okF Tryz.prog 134 = true := by kernel_rfl
theorem Tryz.awj : okF Tryz.prog 135 = true := by kernel_rfl
theorem Tryz.ax2 : okF Tryz.prog 136 = true := by kernel_rfl
theorem Tryz.ayy : okF Tryz.prog 141 = true := by kernel_rfl
theorem Tryz.yc : okF Tryz.prog 144 = true := by kernel_rfl
theorem Tryz.wm : okF Tryz.prog 145 = true := by kernel_rfl
theorem Tryz.axx : okF Tryz.prog 146 = true := by kernel_rfl
theorem Tryz.awy : okF Tryz.prog 147 = true := by kernel_rfl
theorem Tryz.axd : okF Tryz.prog 148 = true := by kernel_rfl
theorem Tryz.av2 : okF Tryz.prog 149 = true := by kernel_rfl
theorem Tryz.ayr : okF Tryz.prog 150 = true := by kernel_rfl
theorem Tryz.ax8 : okF Tryz.prog 151 = true := by kernel_rfl
theorem Tryz.ayt : okF Tryz.prog 152 = true := by kernel_rfl
theorem Tryz.aw3 : okF Tryz.prog 153 = true := by kernel_rfl
theorem Tryz.ayc : okF Tryz.prog 154 = true := by kernel_rfl
theorem Tryz.av7 : okF Tryz.prog 155 = true := by kernel_rfl
theorem Tryz.axu : okF Tryz.prog 156 = true := by kernel_rfl
theorem Tryz.axi : okF Tryz.prog 161 = true := by kernel_rfl
theorem Tryz.axk : okF Tryz.prog 162 = true := by kernel_rfl
theorem Tryz.ays : okF Tryz.prog 163 = true := by kernel_rfl
theorem Tryz.aw9 : okF Tryz.prog 164 = true := by kernel_rfl
theorem Tryz.axb : okF Tryz.prog 165 = true := by kernel_rfl
theorem Tryz.aj3 : okF Tryz.prog 166 = true := by kernel_rfl
theorem Tryz.awp : okF Tryz.prog 178 = true := by kernel_rfl
theorem Tryz.agl : okF Tryz.prog 179 = true := by kernel_rfl
theorem Tryz.ax7 : okF Tryz.prog 183 = true := by kernel_rfl
theorem Tryz.axr : okF Tryz.prog 184 = true := by kernel_rfl
theorem Tryz.ax9 : okF Tryz.prog 195 = true := by kernel_rfl
theorem Tryz.ayx : okF Tryz.prog 196 = true := by kernel_rfl
theorem Tryz.awi : okF Tryz.prog 200 = true := by kernel_rfl
end Go.Proofs
end
section
set_option maxRecDepth 100000
namespace Go.Proofs
open Go.Lv
def IntS.cs (x : Int) : List V := [.int .i64 x]
instance : qp IntS.cs 1 := ⟨fun _ => rfl, fun _ d => by cases d <;> rfl, fun _ => rfl, fun _ => rfl⟩
theorem IntS.csl (a : Int) : (IntS.cs a).length = 1 := rfl
abbrev IntS.ok (x : Int) : Prop := bt x
abbrev IntS.sl (L : List Int) : V := .sl L.length 1 (Go.Lv.rows IntS.cs L)
abbrev IntS.zs : List V := [.int .i64 0]
def IntS.marks (k : Int) (n : Nat) : List Int := (List.range n).map fun i : Nat => k + (i : Int)
@[simp] theorem IntS.tg (k : Int) (n : Nat) : (IntS.marks k n).length = n := by simp [IntS.marks]
abbrev IntS.v (x : Int) : V := .int .i64 x
end Go.Proofs
end
section
set_option maxRecDepth 100000
set_option maxHeartbeats 1000000
namespace Go.Proofs
open Go.Lv
structure Cur where
 a : Int
 s : Int
def Cur.cs (B : List Int) (c : Cur) : List V := [ByteS.sl B, .int .i64 c.a, .int .u64 c.s]
def CB (B : List Int) : Prop := aem u8R B
def Cur.le (c : Cur) (k : Int) : Prop := 0 ≤ c.a ∧ c.a ≤ k
theorem Cur.ren (B : List Int) (c : Cur) (f : Nat → R) (d : Nat) : (c.cs B).map (Go.Lv.ren f d) = c.cs B := by cases d <;> simp [Cur.cs, Go.Lv.ren]
theorem dj {B : List Int} {c : Cur} {h : Hp} {id : Nat} (hid : h[id]? = some (some (c.cs B))) : az [id] h false = [some (c.cs B)] := by
 simp only [az, List.map_cons, List.map_nil, bg, hid, Cur.ren]
theorem br {α : Type} {cs : α → List V} {w : Nat} [qp cs w] {L : List α} {B : List Int} {c : Cur} {h : Hp} {i j : Nat} (hi : h[i]? = some (some (c.cs B))) (hj : h[j]? = some (some (rows cs L))) : az [i, j] h false = [some (c.cs B), some (rows cs L)] := by
 simp only [az, List.map_cons, List.map_nil, bg, hi, hj, Cur.ren, ae]
theorem ib (B : List Int) (c c' : Cur) : grown [some (c.cs B)] [some (c'.cs B)] := ⟨⟨rfl, rfl⟩, trivial⟩
theorem bp {α : Type} {cs : α → List V} {L : List α} (B : List Int) (c c' : Cur) : grown [some (c.cs B), some (rows cs L)] [some (c'.cs B), some (rows cs L)] := ⟨⟨rfl, rfl⟩, ⟨rfl, rfl⟩, trivial⟩
theorem aif (x : Int) : 0 ≤ ahm .u64 x 255 ∧ ahm .u64 x 255 ≤ 255 := by
 have h : ∀ y : BitVec 64, (y &&& BitVec.ofInt 64 255).toNat ≤ 255 := fun y => by
  rw [BitVec.toNat_and]
  exact Nat.le_trans Nat.and_le_right (by decide)
 have hb : (BitVec.ofInt 64 x &&& BitVec.ofInt 64 255).toNat ≤ 255 := h _
 have hw : ahm .u64 x 255 = (((BitVec.ofInt 64 x &&& BitVec.ofInt 64 255).toNat : Nat) : Int) := by
  unfold ahm
  show IntKind.u64.wrap (((BitVec.ofInt 64 x &&& BitVec.ofInt 64 255).toNat : Nat) : Int) = _
  generalize (BitVec.ofInt 64 x &&& BitVec.ofInt 64 255).toNat = n at hb
  simp [IntKind.wrap, IntKind.bits, IntKind.signed]
  omega
 rw [hw]
 omega
def mn (B : List Int) (c : Cur) : Int := if c.a < B.length then B.getD c.a.toNat 0 else 0
def ajr (B : List Int) (c : Cur) : Int := IntKind.u64.wrap (IntKind.u64.wrap (IntKind.u64.wrap (c.s * 6364136223846793005) + IntKind.u64.wrap (mn B c)) + 101717)
def qk (B : List Int) (c : Cur) : Cur := ⟨c.a + 1, ajr B c⟩
def og (B : List Int) (c : Cur) : Int := if c.a < B.length then mn B c else ahm .u64 (aoe .u64 (ajr B c) 40) 255
theorem aqc {B : List Int} (hB : CB B) {c : Cur} (h : 0 ≤ c.a) : 0 ≤ mn B c ∧ mn B c ≤ 255 := by
 unfold mn
 split
 · have hi : c.a.toNat < B.length := by omega
   have := hB.2 _ (List.getElem_mem hi)
   simpa [List.getD, hi, u8R] using this
 · omega
theorem zo {B : List Int} (hB : CB B) {c : Cur} (h : 0 ≤ c.a) : 0 ≤ og B c ∧ og B c ≤ 255 := by
 unfold og
 split
 · exact aqc hB h
 · exact aif _
theorem alv {B : List Int} (hB : CB B) {c : Cur} (hc : c.le 4611686018427387904) : Ctr Tryz.prog 61 [.ptr 0 0] [some (c.cs B)] (.int .i64 (og B c)) [some ((qk B c).cs B)] := by
 obtain ⟨a, s⟩ := c
 obtain ⟨ha, hak⟩ := hc
 dsimp only at ha hak
 have hw : IntKind.i64.wrap (a + 1) = a + 1 := wrap_i64 (by omega) (by omega)
 have hbl := hB.1
 by_cases h1 : a < B.length
 · obtain ⟨i, rfl⟩ : ∃ i : Nat, a = i := ⟨a.toNat, by omega⟩
   have hi : i < B.length := by omega
   have hr := bw ByteS.csl hi
   obtain ⟨b0, b1⟩ : 0 ≤ B[i] ∧ B[i] ≤ 255 := by have := hB.2 _ (List.getElem_mem hi); simpa [u8R] using this
   have hwb : IntKind.i64.wrap B[i] = B[i] := wrap_i64 (by omega) (by omega)
   have hd : decide ((i : Int) < (B.length : Int)) = true := by simp; omega
   have hd2 : decide ((i : Int) + 1 ≤ (B.length : Int)) = true := by simp; omega
   have e1 : mn B ⟨i, s⟩ = B[i] := by simp [mn, h1, List.getD, hi]
   have e2 : og B ⟨i, s⟩ = B[i] := by simp [og, h1, e1]
   rw [qk, ajr, e1, e2]
   refine Ctr.intro Tryz.mixed Tryz.func61 rfl Tryz.au6 ?_
   refine ev2 @Tryz.ntmps61 @Tryz.results61 ?_
   refine rn7 @Cur.cs.eq_1 @hw @hd @hd2 @hr @ByteS.cs.eq_1 @hwb ?_
   exact ak.refl _ _ _
 · have hd : decide (a < (B.length : Int)) = false := by simp; omega
   have hd2 : decide (a + 1 ≤ (B.length : Int)) = false := by simp; omega
   have e3 : og B ⟨a, s⟩ = ahm .u64 (aoe .u64 (ajr B ⟨a, s⟩) 40) 255 := by simp [og, h1]
   have e4 : mn B ⟨a, s⟩ = 0 := by simp [mn, h1]
   rw [qk, e3]
   rw [ajr, e4]
   obtain ⟨e1, e2⟩ := aif (aoe .u64 (IntKind.u64.wrap (IntKind.u64.wrap (IntKind.u64.wrap (s * 6364136223846793005) + IntKind.u64.wrap 0) + 101717)) 40)
   generalize hq : ahm .u64 (aoe .u64 (IntKind.u64.wrap (IntKind.u64.wrap (IntKind.u64.wrap (s * 6364136223846793005) + IntKind.u64.wrap 0) + 101717)) 40) 255 = q at e1 e2 ⊢
   have hwq : IntKind.i64.wrap q = q := wrap_i64 (by omega) (by omega)
   refine Ctr.intro Tryz.mixed Tryz.func61 rfl Tryz.au6 ?_
   refine ev2 @Tryz.ntmps61 @Tryz.results61 ?_
   refine rn5 @Cur.cs.eq_1 @hw @hd @hd2 @hq ?_
   exact ak.refl _ _ _
def iq (B : List Int) (n : Int) (c : Cur) : Int := if n ≤ 1 then 0 else if 200 < n then (og B c * 256 + og B (qk B c)).tmod n else (og B c).tmod n
def ff (B : List Int) (n : Int) (c : Cur) : Cur := if n ≤ 1 then c else if 200 < n then qk B (qk B c) else qk B c
theorem dm {B : List Int} {n k : Int} {c : Cur} (h : c.le k) : (ff B n c).le (k + 2) := by
 unfold ff qk Cur.le at *
 split
 · omega
 · split <;> (simp only []; omega)
theorem ew {B : List Int} (hB : CB B) {n : Int} {c : Cur} (h : 0 ≤ c.a) : 0 ≤ iq B n c ∧ (1 ≤ n → iq B n c < n) := by
 have h1 := zo hB h
 have h2 := zo hB (c := qk B c) (by simp [qk]; omega)
 unfold iq
 split
 · omega
 · split
   · exact ⟨Int.tmod_nonneg _ (by omega), fun _ => Int.tmod_lt_of_pos _ (by omega)⟩
   · exact ⟨Int.tmod_nonneg _ (by omega), fun _ => Int.tmod_lt_of_pos _ (by omega)⟩
theorem jx {B : List Int} (hB : CB B) {c : Cur} (hc : c.le 4611686018427387903) (n : Int) (hn : n ≤ 1000000000) : Ctr Tryz.prog 29 [.ptr 0 0, .int .i64 n] [some (c.cs B)] (.int .i64 (iq B n c)) [some ((ff B n c).cs B)] := by
 obtain ⟨r1, r2⟩ := zo hB hc.1
 have hc1 : (qk B c).le 4611686018427387904 := by obtain ⟨h, h'⟩ := hc; exact ⟨by simp [qk]; omega, by simp [qk]; omega⟩
 obtain ⟨q1, q2⟩ := zo hB hc1.1
 have p4 := alv hB (c := c) ⟨hc.1, by have := hc.2; omega⟩
 have q4 := alv hB hc1
 by_cases h1 : n ≤ 1
 · have hd : decide (n ≤ 1) = true := by simp [h1]
   rw [iq, ff, if_pos h1, if_pos h1]
   refine Ctr.intro Tryz.mixed Tryz.func29 rfl Tryz.aqk ?_
   refine ev2 @Tryz.ntmps29 @Tryz.results29 ?_
   refine rn1 @hd ?_
   exact ak.refl _ _ _
 have hd : decide (n ≤ 1) = false := by simp; omega
 by_cases h2 : 200 < n
 · have hd2 : decide (200 < n) = true := by simp [h2]
   have hw : IntKind.i64.wrap (og B c * 256) = og B c * 256 := wrap_i64 (by omega) (by omega)
   have hw2 : IntKind.i64.wrap (og B c * 256 + og B (qk B c)) = og B c * 256 + og B (qk B c) := wrap_i64 (by omega) (by omega)
   rw [iq, ff, if_neg h1, if_neg h1, if_pos h2, if_pos h2]
   refine Ctr.intro Tryz.mixed Tryz.func29 rfl Tryz.aqk ?_
   refine ev2 @Tryz.ntmps29 @Tryz.results29 ?_
   refine rn1 @hd ?_
   refine ah.di [0] false p4 (by decide) ⟨leO, trivial⟩ (dj rfl) (ib B _ _) (.inl rfl) ?_
   refine rn3 @hd2 @hw @Cur.ren ?_
   refine ah.di [0] false q4 (by decide) ⟨leO, trivial⟩ (dj rfl) (ib B _ _) (.inl rfl) ?_
   refine rn2 @hw2 @Cur.ren ?_
   exact ak.refl _ _ _
 · have hd2 : decide (200 < n) = false := by simp [h2]
   rw [iq, ff, if_neg h1, if_neg h1, if_neg h2, if_neg h2]
   refine Ctr.intro Tryz.mixed Tryz.func29 rfl Tryz.aqk ?_
   refine ev2 @Tryz.ntmps29 @Tryz.results29 ?_
   refine rn1 @hd ?_
   refine ah.di [0] false p4 (by decide) ⟨leO, trivial⟩ (dj rfl) (ib B _ _) (.inl rfl) ?_
   refine rn2 @hd2 @Cur.ren ?_
   exact ak.refl _ _ _
theorem ij {B : List Int} (hB : CB B) {c : Cur} {k : Int} (hc : c.le k) (hk : k ≤ 4000000) (n : Int) (hn : n ≤ 1000000000) {t : List V} {h : Hp} {kk : Nat} {dst : Option Tmp} {Q : St → Prop} {x : Tag Q} {ci : Nat} (h0 : h[ci]? = some (some (c.cs B)))
 (hq : ∀ (v : Int) (c' : Cur), (0 ≤ v ∧ (1 ≤ n → v < n)) → c'.le (k + 2) → Q (sg ⟨t, h, kk⟩ dst [ci] (.int .i64 v) [some (c'.cs B)])) : ah Tryz.prog ⟨t, h, kk⟩ dst (.fn (.func 29) [] []) [.ptr ci 0, .int .i64 n] Q x :=
 ah.di [ci] false (jx hB ⟨hc.1, by have := hc.2; omega⟩ n hn) (by simp) ⟨by simp [ren, bc, posOf, LeV], leO, trivial⟩ (dj h0) (ib B _ _) (.inl rfl) (hq _ _ (ew hB hc.1) (dm hc))
def oneV (B : List Int) (n : Int) (c : Cur) : Bool := iq B n c == 0
theorem apq {B : List Int} (hB : CB B) {c : Cur} (hc : c.le 4611686018427387903) (n : Int) (hn : n ≤ 1000000000) : Ctr Tryz.prog 28 [.ptr 0 0, .int .i64 n] [some (c.cs B)] (.bool (oneV B n c)) [some ((ff B n c).cs B)] := by
 refine Ctr.intro Tryz.mixed Tryz.func28 rfl Tryz.a4q ?_
 refine ev2 @Tryz.ntmps28 @Tryz.results28 ?_
 refine rn0 ?_
 refine ah.di [0] false (jx hB hc n hn) (by decide) ⟨leO, leO, trivial⟩ (dj rfl) (ib B _ _) (.inl rfl) ?_
 refine rn1 @Cur.ren ?_
 exact ak.refl _ _ _
theorem dt {B : List Int} (hB : CB B) {c : Cur} {k : Int} (hc : c.le k) (hk : k ≤ 4000000) (n : Int) (hn : n ≤ 1000000000) {t : List V} {h : Hp} {kk : Nat} {dst : Option Tmp} {Q : St → Prop} {x : Tag Q} {ci : Nat} (h0 : h[ci]? = some (some (c.cs B)))
 (hq : ∀ (v : Bool) (c' : Cur), c'.le (k + 2) → Q (sg ⟨t, h, kk⟩ dst [ci] (.bool v) [some (c'.cs B)])) : ah Tryz.prog ⟨t, h, kk⟩ dst (.fn (.func 28) [] []) [.ptr ci 0, .int .i64 n] Q x :=
 ah.di [ci] false (apq hB ⟨hc.1, by have := hc.2; omega⟩ n hn) (by simp) ⟨by simp [ren, bc, posOf, LeV], leO, trivial⟩ (dj h0) (ib B _ _) (.inl rfl) (hq _ _ (dm hc))
def ng (B : List Int) (K : List Int) (c : Cur) : Int := K.getD (iq B K.length c).toNat 0
theorem lp {B : List Int} (hB : CB B) {K : List Int} (hK : 0 < K.length) {c : Cur} (h : 0 ≤ c.a) : ng B K c ∈ K := by
 obtain ⟨h1, h2⟩ := ew hB (n := K.length) h
 have hi : (iq B K.length c).toNat < K.length := by omega
 simp [ng, List.getD, hi]
theorem oi {B : List Int} (hB : CB B) {c : Cur} (hc : c.le 4611686018427387903) (K : List Int) (hK0 : 0 < K.length) (hK : K.length ≤ 1000000000) : Ctr Tryz.prog 98 [.ptr 0 0, .osl 1 0 K.length 1] [some (c.cs B), some (rows IntS.cs K)] (.int .i64 (ng B K c)) [some ((ff B K.length c).cs B), some (rows IntS.cs K)] := by
 obtain ⟨h1, h2⟩ := ew hB (n := K.length) hc.1
 obtain ⟨i, hi'⟩ : ∃ i : Nat, iq B K.length c = i := ⟨(iq B K.length c).toNat, by omega⟩
 have hi : i < K.length := by omega
 have hr := bw IntS.csl hi
 have e : ng B K c = K[i] := by simp [ng, hi', List.getD, hi]
 have hp := jx hB hc K.length (by omega)
 rw [hi'] at hp
 rw [e]
 refine Ctr.intro Tryz.mixed Tryz.func98 rfl Tryz.a4u ?_
 refine ev2 @Tryz.ntmps98 @Tryz.results98 ?_
 refine rn0 ?_
 refine ah.di [0] false hp (by decide) ⟨leO, leO, trivial⟩ (dj rfl) (ib B _ _) (.inl rfl) ?_
 refine rn3 @Cur.ren @hr @IntS.cs.eq_1 ?_
 exact ak.refl _ _ _
theorem an {B : List Int} (hB : CB B) {c : Cur} {k : Int} (hc : c.le k) (hk : k ≤ 4000000) (K : List Int) (hK0 : 0 < K.length) (hK : K.length ≤ 1000000000) {t : List V} {h : Hp} {kk : Nat} {dst : Option Tmp} {Q : St → Prop} {x : Tag Q} {ci : Nat} (h0 : h[ci]? = some (some (c.cs B))) {i : Nat} (h1 : h[i]? = some (some (rows IntS.cs K))) (hne : (ci == i) = false)
 (hq : ∀ (v : Int) (c' : Cur), v ∈ K → c'.le (k + 2) → Q (sg ⟨t, h, kk⟩ dst [ci, i] (.int .i64 v) [some (c'.cs B), some (rows IntS.cs K)])) : ah Tryz.prog ⟨t, h, kk⟩ dst (.fn (.func 98) [] []) [.ptr ci 0, .osl i 0 K.length 1] Q x := by
 have hn : ci ≠ i := by simpa using hne
 have hn' : (i == ci) = false := by simpa using Ne.symm hn
 exact ah.di [ci, i] false (oi hB ⟨hc.1, by have := hc.2; omega⟩ K hK0 hK) (by simp [hn]) ⟨by simp [ren, bc, posOf, LeV], by simp [ren, bc, posOf, LeV, Ne.symm hn], trivial⟩ (br h0 h1) (bp B _ _) (.inl rfl) (hq _ _ (lp hB hK0 hc.1) (dm hc))
end Go.Proofs
end
section
set_option maxRecDepth 100000
namespace Go.Proofs
open Go.Lv
def ez (n a b : Int) : Bool := decide (a ≤ n) && decide (n ≤ b)
theorem gp {n a b : Int} : ez n a b = true ↔ a ≤ n ∧ n ≤ b := by simp [ez]
theorem j1 (n a b : Int) : Ctr Tryz.prog 57 [.int .i64 n, .int .i64 a, .int .i64 b] [] (.bool (ez n a b)) [] := by
 refine Ctr.intro Tryz.mixed Tryz.func57 rfl Tryz.a1q ?_
 refine ev2 @Tryz.ntmps57 @Tryz.results57 ?_
 refine ax.bu (fun h1 => ?_) (fun h1 => ?_) <;> refine ev1 @h1 ?_
 · exact ak.of_eq (by simp [ez, h1])
 · exact ak.of_eq (by simp [ez, h1])
theorem dy (n a b : Int) : Ctr Tryz.prog 104 [.int .i64 n, .int .i64 a, .int .i64 b] [] (.bool (ez n a b)) [] := by
 refine Ctr.intro Tryz.mixed Tryz.func104 rfl Tryz.awf ?_
 refine ev2 @Tryz.ntmps104 @Tryz.results104 ?_
 refine ax.bu (fun h1 => ?_) (fun h1 => ?_) <;> refine ev1 @h1 ?_
 · exact ak.of_eq (by simp [ez, h1])
 · exact ak.of_eq (by simp [ez, h1])
theorem abf {α : Type} {p : α → Bool} {k : α → Int} {m : Nat} {L : List α} (h : je p k m L = true) : (∀ x ∈ L, p x = true) ∧ L.length ≤ m := by
 simp only [je, Bool.and_eq_true, decide_eq_true_eq, List.all_eq_true, List.mem_range] at h
 refine ⟨fun x hx => ?_, h.2⟩
 obtain ⟨i, hi, rfl⟩ := List.getElem_of_mem hx
 have := h.1 i hi
 simp only [gu, List.getElem?_eq_getElem hi, Bool.and_eq_true] at this
 exact this.1
theorem adq {α : Type} {p : α → Bool} {k : α → Int} {m : Nat} {L : List α} (h : je p k m L = true) : (L.map k).Pairwise (· < ·) := by
 simp only [je, Bool.and_eq_true, List.all_eq_true, List.mem_range] at h
 have adj : ∀ j, (hj : j + 1 < L.length) → k (L[j]'(by omega)) < k L[j + 1] := by
  intro j hj
  have := h.1 (j + 1) hj
  rw [ia hj] at this
  simp at this
  exact this.2
 rw [List.pairwise_iff_getElem]
 intro i j hi hj hij
 simp only [List.length_map] at hi hj
 simp only [List.getElem_map]
 induction j with
 | zero => omega
 | succ j ih =>
  have h1 := adj j hj
  rcases Nat.lt_succ_iff_lt_or_eq.1 hij with h2 | h2
  · have := ih (by simpa using (by omega : j < L.length)) h2 (by omega)
    omega
  · subst h2; exact h1
end Go.Proofs
end
section
set_option maxRecDepth 100000
namespace Go.Proofs
open Go.Lv
def ahr (x y : Int) : Bool := ez x 0 999 && ez y 0 999
theorem afa (n : Int) : Ctr Tryz.prog 91 [.int .i64 n] [] (.bool (ez n 0 1000000)) [] := by
 refine Ctr.intro Tryz.mixed Tryz.func91 rfl Tryz.a2z ?_
 refine ev2 @Tryz.ntmps91 @Tryz.results91 ?_
 repeat' (first | (refine ak.aq ?_ (by rfl); first | rfl | (simp [ahr, *]; done)) | ((first | refine al.at (j1 _ _ _) ⟨leA, leA, leA, trivial⟩ ?_ | refine ah.at (j1 _ _ _) ⟨leA, leA, leA, trivial⟩ ?_); simp -implicitDefEqProofs -dsimp only [go_sem, *]) | (refine ax.bu (fun _ => ?_) (fun _ => ?_) <;> simp -implicitDefEqProofs -dsimp only [go_sem, *]) | (refine ax.cq (fun _ => ?_) (fun _ => ?_) <;> simp -implicitDefEqProofs -dsimp only [go_sem, *]) | (refine ay.split (fun _ => ?_) (fun _ => ?_) <;> simp -implicitDefEqProofs -dsimp only [go_sem, *]))
theorem afd (n : Int) : Ctr Tryz.prog 119 [.int .i64 n] [] (.bool (ez n 0 1000000)) [] := by
 refine Ctr.intro Tryz.mixed Tryz.func119 rfl Tryz.aw7 ?_
 refine ev2 @Tryz.ntmps119 @Tryz.results119 ?_
 repeat' (first | (refine ak.aq ?_ (by rfl); first | rfl | (simp [ahr, *]; done)) | ((first | refine al.at (dy _ _ _) ⟨leA, leA, leA, trivial⟩ ?_ | refine ah.at (dy _ _ _) ⟨leA, leA, leA, trivial⟩ ?_); simp -implicitDefEqProofs -dsimp only [go_sem, *]) | (refine ax.bu (fun _ => ?_) (fun _ => ?_) <;> simp -implicitDefEqProofs -dsimp only [go_sem, *]) | (refine ax.cq (fun _ => ?_) (fun _ => ?_) <;> simp -implicitDefEqProofs -dsimp only [go_sem, *]) | (refine ay.split (fun _ => ?_) (fun _ => ?_) <;> simp -implicitDefEqProofs -dsimp only [go_sem, *]))
theorem vx (n : Int) : Ctr Tryz.prog 88 [.int .i64 n] [] (.bool (ez n 1 99)) [] := by
 refine Ctr.intro Tryz.mixed Tryz.func88 rfl Tryz.a2x ?_
 refine ev2 @Tryz.ntmps88 @Tryz.results88 ?_
 repeat' (first | (refine ak.aq ?_ (by rfl); first | rfl | (simp [ahr, *]; done)) | ((first | refine al.at (j1 _ _ _) ⟨leA, leA, leA, trivial⟩ ?_ | refine ah.at (j1 _ _ _) ⟨leA, leA, leA, trivial⟩ ?_); simp -implicitDefEqProofs -dsimp only [go_sem, *]) | (refine ax.bu (fun _ => ?_) (fun _ => ?_) <;> simp -implicitDefEqProofs -dsimp only [go_sem, *]) | (refine ax.cq (fun _ => ?_) (fun _ => ?_) <;> simp -implicitDefEqProofs -dsimp only [go_sem, *]) | (refine ay.split (fun _ => ?_) (fun _ => ?_) <;> simp -implicitDefEqProofs -dsimp only [go_sem, *]))
theorem mr (n : Int) : Ctr Tryz.prog 90 [.int .i64 n] [] (.bool (ez n (-20) 95)) [] := by
 refine Ctr.intro Tryz.mixed Tryz.func90 rfl Tryz.a04 ?_
 refine ev2 @Tryz.ntmps90 @Tryz.results90 ?_
 repeat' (first | (refine ak.aq ?_ (by rfl); first | rfl | (simp [ahr, *]; done)) | ((first | refine al.at (j1 _ _ _) ⟨leA, leA, leA, trivial⟩ ?_ | refine ah.at (j1 _ _ _) ⟨leA, leA, leA, trivial⟩ ?_); simp -implicitDefEqProofs -dsimp only [go_sem, *]) | (refine ax.bu (fun _ => ?_) (fun _ => ?_) <;> simp -implicitDefEqProofs -dsimp only [go_sem, *]) | (refine ax.cq (fun _ => ?_) (fun _ => ?_) <;> simp -implicitDefEqProofs -dsimp only [go_sem, *]) | (refine ay.split (fun _ => ?_) (fun _ => ?_) <;> simp -implicitDefEqProofs -dsimp only [go_sem, *]))
end Go.Proofs
end
section
set_option maxRecDepth 100000
namespace Go.Proofs
open Go.Lv
structure bf where
 Station : Int
 Up : Bool
 Since : Int
def bf.cs (r : bf) : List V := [.int .i64 r.Station, .bool r.Up, .int .i64 r.Since]
def bf.v (r : bf) : V := .agg [.int .i64 r.Station, .bool r.Up, .int .i64 r.Since]
theorem bf.csl (a : bf) : a.cs.length = 3 := rfl
instance : qp bf.cs 3 := ⟨fun _ => rfl, fun _ d => by cases d <;> rfl, fun _ => rfl, fun _ => rfl⟩
def bf.ok (r : bf) : Prop := bt r.Station ∧ bt r.Since
abbrev bf.rows (L : List bf) : List V := Go.Lv.rows bf.cs L
abbrev bf.sl (L : List bf) : V := .sl L.length 3 (Go.Lv.rows bf.cs L)
abbrev bf.zs : List V := [.int .i64 0, .bool false, .int .i64 0]
def bf.mk1 (k : Int) : bf := ⟨k, ((k + 1).tmod 3 == 0), k + 1 + 1⟩
def bf.marks (k : Int) (n : Nat) : List bf := (List.range n).map fun i : Nat => bf.mk1 (k + 3 * (i : Int))
@[simp] theorem bf.tg (k : Int) (n : Nat) : (bf.marks k n).length = n := by simp [bf.marks]
theorem sj (L : List bf) (p : bf → Bool) (key : bf → Int) (most : Int) (fv fk : Nat) (vc kc : List V) (hvc : ∀ d, vc.all (db d) = true) (hkc : ∀ d, kc.all (db d) = true) (hv : ∀ x, Ctr Tryz.prog fv (bf.v x :: vc) [] (.bool (p x)) []) (hkey : ∀ x, Ctr Tryz.prog fk (bf.v x :: kc) [] (.int .i64 (key x)) []) (m : Nat) (hm : most = m) (hl : L.length ≤ 281474976710656) :
 Ctr Tryz.prog 92 [bf.sl L, .int .i64 most, .fn (.func fv) [] vc, .fn (.func fk) [] kc] [] (.bool (je p key m L)) [] := by
 subst hm
 refine Ctr.intro Tryz.mixed Tryz.func92 rfl Tryz.a42 ?_
 refine ev2 @Tryz.ntmps92 @Tryz.results92 ?_
 have hvc2 : ∀ f d, vc.map (ren f d) = vc := fun f d => r6 f (hvc d)
 have hkc2 : ∀ f d, kc.map (ren f d) = kc := fun f d => r6 f (hkc d)
 refine dr.intro (fun i : Nat => i ≤ L.length ∧ (List.range i).all (gu p key L) = true) (fun i => ⟨(bf.sl L :: .int .i64 m :: .fn (.func fv) [] vc :: .fn (.func fk) [] kc :: (un 7 (bf.sl L :: .int .i64 L.length :: .int .i64 i :: (un 30 [])))), [], 0⟩) (fun i => L.length - i) 0 ⟨Nat.zero_le _, rfl⟩ ?_ (fun i hi => ?_)
 · refine au.cut (0) (by simp) (by simp) ?_ ?_
   · simp [LeC, LeV, ren, bq, hvc2, hkc2]
   · rfl
 refine ev0 ?_
 refine ay.split (fun h1 => ?_) (fun h1 => ?_)
 · refine ev1 @h1 ?_
   have hi' : i < L.length := by simpa using h1
   have h5 := bf.csl L[i]
   have hr := bw bf.csl hi'
   refine ew2 @hr @bf.cs.eq_1 ?_
   repeat (with_reducible refine df ?_)
   refine al.intro (hv L[i]) ⟨.inl rfl, ky (hvc2 _ _)⟩ (.inl (by simp only [List.nil_append, List.cons_append, List.all_cons, hvc, Bool.and_true]; rfl)) ⟨sk (hvc 3), rfl⟩ ?_
   refine ev0 ?_
   refine ax.cq (fun h2 => ?_) (fun h2 => ?_) <;> refine ev1 @h2 ?_
   · have hw : p L[i] = true := by simpa using h2
     refine ax.bu (fun h3 => ?_) (fun h3 => ?_) <;> refine ev1 @h3 ?_
     · obtain ⟨j, rfl⟩ : ∃ j, i = j + 1 := ⟨i - 1, by simp at h3; omega⟩
       have hj : j < L.length := by omega
       refine al.intro (hkey L[j + 1]) ⟨.inl rfl, ky (hkc2 _ _)⟩ (.inl (by simp only [List.nil_append, List.cons_append, List.all_cons, hkc, Bool.and_true]; rfl)) ⟨sk (hkc 3), rfl⟩ ?_
       have hw1 : IntKind.i64.wrap (((j + 1 : Nat) : Int) - 1) = (j : Int) := by rw [wrap_i64 (by omega) (by omega)]; omega
       have hr2 := bw bf.csl hj
       refine ew3 @hw1 @hr2 @bf.cs.eq_1 ?_
       repeat (with_reducible refine df ?_)
       refine al.intro (hkey L[j]) ⟨.inl rfl, ky (hkc2 _ _)⟩ (.inl (by simp only [List.nil_append, List.cons_append, List.all_cons, hkc, Bool.and_true]; rfl)) ⟨sk (hkc 3), rfl⟩ ?_
       refine ew0 ?_
       refine ay.split (fun h4 => ?_) (fun h4 => ?_) <;> refine ev1 @h4 ?_
       · refine ak.aq ?_ rfl
         have hq : gu p key L (j + 1) = false := by
          rw [ia hi', hw]
          simp at h4 ⊢
          omega
         rw [jo hi' hq]
       · refine ⟨j + 1 + 1, ⟨hi', gk hi.2 (by rw [ia hi', hw]; simp at h4 ⊢; omega)⟩, ?_, by omega⟩
         refine au.cut (0) (by simp) (by simp) ?_ ?_
         · rw [wrap_i64 (by omega) (by omega)]
           simp [LeC, LeV, ren, bq, hvc2, hkc2]
         · rfl
     · have h0 : i = 0 := by simp at h3; omega
       refine ⟨i + 1, ⟨hi', gk hi.2 (by subst h0; rw [km hi', hw])⟩, ?_, by omega⟩
       refine au.cut (0) (by simp) (by simp) ?_ ?_
       · rw [wrap_i64 (by omega) (by omega)]
         simp [LeC, LeV, ren, bq, hvc2, hkc2]
       · rfl
   · have hw : p L[i] = false := by simpa using h2
     refine ak.aq ?_ rfl
     have hq : gu p key L i = false := by simp [gu, hi', hw]
     rw [jo hi' hq]
 · refine ev1 @h1 ?_
   refine ak.aq ?_ rfl
   have : i = L.length := by simp at h1; omega
   subst this
   rw [je, hi.2]
   simp
   try omega
end Go.Proofs
end
section
set_option maxRecDepth 100000
namespace Go.Proofs
open Go.Lv
structure ai where
 Number : Int
 State : Int
 Seen : Int
 Size : Int
 Tick : Int
def ai.cs (r : ai) : List V := [.int .i64 r.Number, .int .i64 r.State, .int .i64 r.Seen, .int .i64 r.Size, .int .i64 r.Tick]
def ai.v (r : ai) : V := .agg [.int .i64 r.Number, .int .i64 r.State, .int .i64 r.Seen, .int .i64 r.Size, .int .i64 r.Tick]
theorem ai.csl (a : ai) : a.cs.length = 5 := rfl
instance : qp ai.cs 5 := ⟨fun _ => rfl, fun _ d => by cases d <;> rfl, fun _ => rfl, fun _ => rfl⟩
def ai.ok (r : ai) : Prop := bt r.Number ∧ bt r.State ∧ bt r.Seen ∧ bt r.Size ∧ bt r.Tick
abbrev ai.rows (L : List ai) : List V := Go.Lv.rows ai.cs L
abbrev ai.sl (L : List ai) : V := .sl L.length 5 (Go.Lv.rows ai.cs L)
abbrev ai.zs : List V := [.int .i64 0, .int .i64 0, .int .i64 0, .int .i64 0, .int .i64 0]
def ai.mk1 (k : Int) : ai := ⟨k, k + 1, k + 1 + 1, k + 1 + 1 + 1, k + 1 + 1 + 1 + 1⟩
def ai.marks (k : Int) (n : Nat) : List ai := (List.range n).map fun i : Nat => ai.mk1 (k + 5 * (i : Int))
@[simp] theorem ai.tg (k : Int) (n : Nat) : (ai.marks k n).length = n := by simp [ai.marks]
theorem rm (L : List ai) (p : ai → Bool) (key : ai → Int) (most : Int) (fv fk : Nat) (vc kc : List V) (hvc : ∀ d, vc.all (db d) = true) (hkc : ∀ d, kc.all (db d) = true) (hv : ∀ x, Ctr Tryz.prog fv (ai.v x :: vc) [] (.bool (p x)) []) (hkey : ∀ x, Ctr Tryz.prog fk (ai.v x :: kc) [] (.int .i64 (key x)) []) (m : Nat) (hm : most = m) (hl : L.length ≤ 281474976710656) :
 Ctr Tryz.prog 94 [ai.sl L, .int .i64 most, .fn (.func fv) [] vc, .fn (.func fk) [] kc] [] (.bool (je p key m L)) [] := by
 subst hm
 refine Ctr.intro Tryz.mixed Tryz.func94 rfl Tryz.a3e ?_
 refine ev2 @Tryz.ntmps94 @Tryz.results94 ?_
 have hvc2 : ∀ f d, vc.map (ren f d) = vc := fun f d => r6 f (hvc d)
 have hkc2 : ∀ f d, kc.map (ren f d) = kc := fun f d => r6 f (hkc d)
 refine dr.intro (fun i : Nat => i ≤ L.length ∧ (List.range i).all (gu p key L) = true) (fun i => ⟨(ai.sl L :: .int .i64 m :: .fn (.func fv) [] vc :: .fn (.func fk) [] kc :: (un 7 (ai.sl L :: .int .i64 L.length :: .int .i64 i :: (un 30 [])))), [], 0⟩) (fun i => L.length - i) 0 ⟨Nat.zero_le _, rfl⟩ ?_ (fun i hi => ?_)
 · refine au.cut (0) (by simp) (by simp) ?_ ?_
   · simp [LeC, LeV, ren, bq, hvc2, hkc2]
   · rfl
 refine ev0 ?_
 refine ay.split (fun h1 => ?_) (fun h1 => ?_)
 · refine ev1 @h1 ?_
   have hi' : i < L.length := by simpa using h1
   have h5 := ai.csl L[i]
   have hr := bw ai.csl hi'
   refine ew2 @hr @ai.cs.eq_1 ?_
   repeat (with_reducible refine df ?_)
   refine al.intro (hv L[i]) ⟨.inl rfl, ky (hvc2 _ _)⟩ (.inl (by simp only [List.nil_append, List.cons_append, List.all_cons, hvc, Bool.and_true]; rfl)) ⟨sk (hvc 3), rfl⟩ ?_
   refine ev0 ?_
   refine ax.cq (fun h2 => ?_) (fun h2 => ?_) <;> refine ev1 @h2 ?_
   · have hw : p L[i] = true := by simpa using h2
     refine ax.bu (fun h3 => ?_) (fun h3 => ?_) <;> refine ev1 @h3 ?_
     · obtain ⟨j, rfl⟩ : ∃ j, i = j + 1 := ⟨i - 1, by simp at h3; omega⟩
       have hj : j < L.length := by omega
       refine al.intro (hkey L[j + 1]) ⟨.inl rfl, ky (hkc2 _ _)⟩ (.inl (by simp only [List.nil_append, List.cons_append, List.all_cons, hkc, Bool.and_true]; rfl)) ⟨sk (hkc 3), rfl⟩ ?_
       have hw1 : IntKind.i64.wrap (((j + 1 : Nat) : Int) - 1) = (j : Int) := by rw [wrap_i64 (by omega) (by omega)]; omega
       have hr2 := bw ai.csl hj
       refine ew3 @hw1 @hr2 @ai.cs.eq_1 ?_
       repeat (with_reducible refine df ?_)
       refine al.intro (hkey L[j]) ⟨.inl rfl, ky (hkc2 _ _)⟩ (.inl (by simp only [List.nil_append, List.cons_append, List.all_cons, hkc, Bool.and_true]; rfl)) ⟨sk (hkc 3), rfl⟩ ?_
       refine ew0 ?_
       refine ay.split (fun h4 => ?_) (fun h4 => ?_) <;> refine ev1 @h4 ?_
       · refine ak.aq ?_ rfl
         have hq : gu p key L (j + 1) = false := by
          rw [ia hi', hw]
          simp at h4 ⊢
          omega
         rw [jo hi' hq]
       · refine ⟨j + 1 + 1, ⟨hi', gk hi.2 (by rw [ia hi', hw]; simp at h4 ⊢; omega)⟩, ?_, by omega⟩
         refine au.cut (0) (by simp) (by simp) ?_ ?_
         · rw [wrap_i64 (by omega) (by omega)]
           simp [LeC, LeV, ren, bq, hvc2, hkc2]
         · rfl
     · have h0 : i = 0 := by simp at h3; omega
       refine ⟨i + 1, ⟨hi', gk hi.2 (by subst h0; rw [km hi', hw])⟩, ?_, by omega⟩
       refine au.cut (0) (by simp) (by simp) ?_ ?_
       · rw [wrap_i64 (by omega) (by omega)]
         simp [LeC, LeV, ren, bq, hvc2, hkc2]
       · rfl
   · have hw : p L[i] = false := by simpa using h2
     refine ak.aq ?_ rfl
     have hq : gu p key L i = false := by simp [gu, hi', hw]
     rw [jo hi' hq]
 · refine ev1 @h1 ?_
   refine ak.aq ?_ rfl
   have : i = L.length := by simp at h1; omega
   subst this
   rw [je, hi.2]
   simp
   try omega
theorem wb (L : List ai) (p : ai → Bool) (fv : Nat) (vc : List V) (hvc : ∀ d, vc.all (db d) = true) (hv : ∀ x, Ctr Tryz.prog fv (ai.v x :: vc) [] (.bool (p x)) []) (hl : L.length ≤ 16777216) :
 Ctr Tryz.prog 149 [ai.sl L, .fn (.func fv) [] vc] [] (.osl 0 0 (L.filter p).length 5) [some (rows ai.cs (L.filter p))] := by
 refine Ctr.intro Tryz.mixed Tryz.func149 rfl Tryz.av2 ?_
 refine ev2 @Tryz.ntmps149 @Tryz.results149 ?_
 have hvc2 : ∀ f d, vc.map (ren f d) = vc := fun f d => r6 f (hvc d)
 have hstep : ∀ {i : Nat} (hi : i < L.length), (L.take (i + 1)).filter p = (L.take i).filter p ++ if p L[i] then [L[i]] else [] := fun {i} hi => by
  rw [List.take_succ_eq_append_getElem hi, List.filter_append]
  congr 1
  cases h : p L[i] <;> simp [h]
 refine dr.intro (fun i : Nat => i ≤ L.length) (fun i => ⟨(.undef :: .fn (.func fv) [] vc :: (un 3 (.osl 0 0 ((L.take i).filter p).length 5 :: (un 3 (ai.sl L :: .int .i64 L.length :: .int .i64 i :: (un 12 [])))))), [some (rows ai.cs ((L.take i).filter p))], 0⟩) (fun i => L.length - i) 0 (Nat.zero_le _) ?_ (fun i hi => ?_)
 · refine au.cut (1) (by simp) (by simp) ?_ ?_
   · simp [LeC, LeV, ren, bq, hvc2]
   · simp [bz, cw, rows]
 refine ev0 ?_
 refine ay.split (fun h1 => ?_) (fun h1 => ?_)
 · refine ev1 @h1 ?_
   have hi' : i < L.length := by simpa using h1
   have hf : ((L.take i).filter p).length ≤ i := Nat.le_trans (List.length_filter_le _ _) (by simp; omega)
   have h5 := ai.csl L[i]
   have hr := bw ai.csl hi'
   refine ew2 @hr @ai.cs.eq_1 ?_
   repeat (with_reducible refine df ?_)
   refine ah.intro (hv L[i]) ⟨.inl rfl, ky (hvc2 _ _)⟩ (.inl (by simp only [List.nil_append, List.cons_append, List.all_cons, hvc, Bool.and_true]; rfl)) ?_
   refine ev0 ?_
   refine ay.split (fun h2 => ?_) (fun h2 => ?_) <;> refine ev1 @h2 ?_
   · try refine ew6 @bb @Nat.mul_one @bh @List.length_append.{0} @List.length_cons.{0} @List.length_nil.{0} ?_
     repeat (with_reducible refine df ?_)
     refine ⟨i + 1, hi', ?_, by omega⟩
     refine au.cut (1) (by simp) (by simp) ?_ ?_
     · rw [hstep hi', h2]
       simp [LeC, LeV, ren, bq, hvc2]
     · rw [hstep hi', h2, if_pos rfl, ← dw]
       simp [bz, cw, ae, dk, ren, ai.cs]
   · refine ⟨i + 1, hi', ?_, by omega⟩
     refine au.cut (1) (by simp) (by simp) ?_ ?_
     · rw [hstep hi', h2, wrap_i64 (by omega) (by omega)]
       simp [LeC, LeV, ren, bq, hvc2]
     · rw [hstep hi', h2]
       simp [bz, cw, ae]
 · refine ev1 @h1 ?_
   have hi' : i = L.length := by simp at h1; omega
   subst hi'
   rw [List.take_length]
   exact ak.refl _ _ _
end Go.Proofs
end
section
set_option maxRecDepth 100000
namespace Go.Proofs
open Go.Lv
structure ab where
 Now : Int
 Posts : List bf
 Shocks : List ai
 Next : Int
 Archived : Int
def ab.cs (r : ab) : List V := [.int .i64 r.Now, .sl r.Posts.length 3 (Go.Lv.rows bf.cs r.Posts), .sl r.Shocks.length 5 (Go.Lv.rows ai.cs r.Shocks), .int .i64 r.Next, .int .i64 r.Archived]
def ab.v (r : ab) : V := .agg [.int .i64 r.Now, .sl r.Posts.length 3 (Go.Lv.rows bf.cs r.Posts), .sl r.Shocks.length 5 (Go.Lv.rows ai.cs r.Shocks), .int .i64 r.Next, .int .i64 r.Archived]
def ab.o (r : ab) (i0 i1 : Nat) : V := .agg [.int .i64 r.Now, .osl i0 0 r.Posts.length 3, .osl i1 0 r.Shocks.length 5, .int .i64 r.Next, .int .i64 r.Archived]
theorem ab.csl (a : ab) : a.cs.length = 5 := rfl
def ab.ok (r : ab) : Prop := bt r.Now ∧ aem bf.ok r.Posts ∧ aem ai.ok r.Shocks ∧ bt r.Next ∧ bt r.Archived
theorem ab.le {h : Hp} {r : ab} {i0 i1 : Nat} (h0 : h[i0]? = some (some (rows bf.cs r.Posts))) (h1 : h[i1]? = some (some (rows ai.cs r.Shocks))) : LeV (ren (fa h 3) 3 (r.o i0 i1)) r.v := by
 refine .inl ?_
 simp only [ab.o, ab.v, ren, List.map_cons, List.map_nil, fa, h0, h1, ae, List.drop_zero, dc]
end Go.Proofs
end
section
set_option maxRecDepth 100000
namespace Go.Proofs
open Go.Lv
def r5 (now : Int) (p : bf) : Bool := ez p.Station 1 99 && ez p.Since 0 now
def kq (next now : Int) (x : ai) : Bool := ez x.Number 1 (next - 1) && ez x.State 0 3 && ez x.Seen 0 8 && ez x.Size (-20) 95 && (x.State != 0 || x.Size == 0) && ez x.Tick 0 now
def ju (w : ab) : Bool := ez w.Now 0 1000000 && ez w.Next 1 999 && ez w.Archived 0 999
def wB (w : ab) : Bool := ju w && je (r5 w.Now) bf.Station 8 w.Posts && je (kq w.Next w.Now) ai.Number 6 w.Shocks
theorem vt {w : ab} : ju w = true ↔ (0 ≤ w.Now ∧ w.Now ≤ 1000000) ∧ (1 ≤ w.Next ∧ w.Next ≤ 999) ∧ 0 ≤ w.Archived ∧ w.Archived ≤ 999 := by simp [ju, ez, and_assoc]
theorem l5 {now : Int} {p : bf} : r5 now p = true ↔ (1 ≤ p.Station ∧ p.Station ≤ 99) ∧ 0 ≤ p.Since ∧ p.Since ≤ now := by simp [r5, ez, and_assoc]
theorem gb {next now : Int} {x : ai} : kq next now x = true ↔ (1 ≤ x.Number ∧ x.Number ≤ next - 1) ∧ (0 ≤ x.State ∧ x.State ≤ 3) ∧ (0 ≤ x.Seen ∧ x.Seen ≤ 8) ∧ (-20 ≤ x.Size ∧ x.Size ≤ 95) ∧ (x.State ≠ 0 ∨ x.Size = 0) ∧ 0 ≤ x.Tick ∧ x.Tick ≤ now := by
 simp [kq, ez, and_assoc]
structure atc (w : ab) : Prop where
 now : 0 ≤ w.Now ∧ w.Now ≤ 1000000
 next : 1 ≤ w.Next ∧ w.Next ≤ 999
 arch : 0 ≤ w.Archived ∧ w.Archived ≤ 999
 posts : ∀ p ∈ w.Posts, r5 w.Now p = true
 plen : w.Posts.length ≤ 8
 shocks : ∀ x ∈ w.Shocks, kq w.Next w.Now x = true
 slen : w.Shocks.length ≤ 6
 pasc : (w.Posts.map bf.Station).Pairwise (· < ·)
 sasc : (w.Shocks.map ai.Number).Pairwise (· < ·)
theorem ey {w : ab} (h : wB w = true) : atc w := by
 simp only [wB, Bool.and_eq_true] at h
 obtain ⟨⟨h1, h2⟩, h3⟩ := h
 obtain ⟨a, b, c⟩ := vt.1 h1
 obtain ⟨d, e⟩ := abf h2
 obtain ⟨f, g⟩ := abf h3
 exact ⟨a, b, c, d, e, f, g, adq h2, adq h3⟩
theorem afz (w : ab) (p : bf) : Ctr Tryz.prog 87 [p.v, .pt w.cs] [] (.bool (r5 w.Now p)) [] := by
 refine Ctr.intro Tryz.mixed Tryz.func87 rfl Tryz.a1f ?_
 refine ev2 @Tryz.ntmps87 @Tryz.results87 ?_
 refine ev2 @bf.v.eq_1 @ab.cs.eq_1 ?_
 repeat' (first | (refine ak.aq ?_ (by rfl); first | rfl | (simp [r5, *]; done)) | ((first | refine al.at (j1 _ _ _) ⟨leA, leA, leA, trivial⟩ ?_ | refine ah.at (j1 _ _ _) ⟨leA, leA, leA, trivial⟩ ?_); simp -implicitDefEqProofs -dsimp only [go_sem, *]) | ((first | refine al.at (vx _) ⟨leA, trivial⟩ ?_ | refine ah.at (vx _) ⟨leA, trivial⟩ ?_); simp -implicitDefEqProofs -dsimp only [go_sem, *]) | (refine ax.bu (fun _ => ?_) (fun _ => ?_) <;> simp -implicitDefEqProofs -dsimp only [go_sem, *]) | (refine ax.cq (fun _ => ?_) (fun _ => ?_) <;> simp -implicitDefEqProofs -dsimp only [go_sem, *]) | (refine ay.split (fun _ => ?_) (fun _ => ?_) <;> simp -implicitDefEqProofs -dsimp only [go_sem, *]))
theorem ab9 (w : ab) (hw : 1 ≤ w.Next ∧ w.Next ≤ 999) (x : ai) : Ctr Tryz.prog 89 [x.v, .pt w.cs] [] (.bool (kq w.Next w.Now x)) [] := by
 refine Ctr.intro Tryz.mixed Tryz.func89 rfl Tryz.a3t ?_
 refine ev2 @Tryz.ntmps89 @Tryz.results89 ?_
 refine ev2 @ai.v.eq_1 @ab.cs.eq_1 ?_
 have hw1 : IntKind.i64.wrap (w.Next - 1) = w.Next - 1 := wrap_i64 (by omega) (by omega)
 repeat' (first | (refine ak.aq ?_ (by rfl); first | rfl | (simp [kq, *]; done)) | ((first | refine al.at (j1 _ _ _) ⟨leA, leA, leA, trivial⟩ ?_ | refine ah.at (j1 _ _ _) ⟨leA, leA, leA, trivial⟩ ?_); simp -implicitDefEqProofs -dsimp only [go_sem, *]) | ((first | refine al.at (mr _) ⟨leA, trivial⟩ ?_ | refine ah.at (mr _) ⟨leA, trivial⟩ ?_); simp -implicitDefEqProofs -dsimp only [go_sem, *]) | (refine ax.bu (fun _ => ?_) (fun _ => ?_) <;> simp -implicitDefEqProofs -dsimp only [go_sem, *]) | (refine ax.cq (fun _ => ?_) (fun _ => ?_) <;> simp -implicitDefEqProofs -dsimp only [go_sem, *]))
theorem y0 (p : bf) : Ctr Tryz.prog 93 [p.v] [] (.int .i64 p.Station) [] := by
 refine Ctr.intro Tryz.mixed Tryz.func93 rfl Tryz.a1s ?_
 refine ev2 @Tryz.ntmps93 @Tryz.results93 ?_
 refine ev1 @bf.v.eq_1 ?_
 exact ak.aq rfl (by rfl)
theorem abl (x : ai) : Ctr Tryz.prog 95 [x.v] [] (.int .i64 x.Number) [] := by
 refine Ctr.intro Tryz.mixed Tryz.func95 rfl Tryz.a1h ?_
 refine ev2 @Tryz.ntmps95 @Tryz.results95 ?_
 refine ev1 @ai.v.eq_1 ?_
 exact ak.aq rfl (by rfl)
theorem ec (w : ab) (hp : w.Posts.length ≤ 281474976710656) (hs : w.Shocks.length ≤ 281474976710656) : Ctr Tryz.prog 42 [w.v] [] (.bool (wB w)) [] := by
 refine Ctr.intro Tryz.mixed Tryz.func42 rfl Tryz.a54 ?_
 refine ev2 @Tryz.ntmps42 @Tryz.results42 ?_
 refine ev1 @ab.v.eq_1 ?_
 have fin : ∀ b, b = wB w → ak 0 (.bool b) [some w.cs] (.bool (wB w)) [] := fun b h => ak.aq (by rw [h]) (by rfl)
 (first | refine al.at (afa _) ⟨leA, trivial⟩ ?_ | refine ah.at (afa _) ⟨leA, trivial⟩ ?_)
 refine ev0 ?_
 refine ax.bu (fun h1 => ?_) (fun h1 => ?_) <;> refine ev1 @h1 ?_
 rotate_left
 · exact ak.aq (by simp [wB, ju, h1]) (by rfl)
 (first | refine al.at (j1 _ _ _) ⟨leA, leA, leA, trivial⟩ ?_ | refine ah.at (j1 _ _ _) ⟨leA, leA, leA, trivial⟩ ?_)
 refine ev1 @h1 ?_
 refine ax.bu (fun h2 => ?_) (fun h2 => ?_) <;> refine ev2 @h1 @h2 ?_
 rotate_left
 · exact ak.aq (by simp [wB, ju, h1, h2]) (by rfl)
 (first | refine al.at (j1 _ _ _) ⟨leA, leA, leA, trivial⟩ ?_ | refine ah.at (j1 _ _ _) ⟨leA, leA, leA, trivial⟩ ?_)
 refine ev2 @h1 @h2 ?_
 refine ax.bu (fun h3 => ?_) (fun h3 => ?_) <;> refine ev3 @h1 @h2 @h3 ?_
 rotate_left
 · exact ak.aq (by simp [wB, ju, h1, h2, h3]) (by rfl)
 have hc : ju w = true := by simp [ju, h1, h2, h3]
 have hw := (vt.1 hc).2.1
 (first | refine al.at (sj w.Posts (r5 w.Now) bf.Station 8 _ _ [.pt w.cs] [] (fun d => by cases d <;> rfl) (fun _ => rfl) (fun x => afz w x) y0 8 rfl hp) ⟨leA, leA, leA, leA, trivial⟩ ?_ | refine ah.at (sj w.Posts (r5 w.Now) bf.Station 8 _ _ [.pt w.cs] [] (fun d => by cases d <;> rfl) (fun _ => rfl) (fun x => afz w x) y0 8 rfl hp) ⟨leA, leA, leA, leA, trivial⟩ ?_)
 refine ev3 @h1 @h2 @h3 ?_
 refine ax.bu (fun h4 => ?_) (fun h4 => ?_) <;> refine ev4 @h1 @h2 @h3 @h4 ?_
 rotate_left
 · exact ak.aq (by simp [wB, hc, h4]) (by rfl)
 (first | refine al.at (rm w.Shocks (kq w.Next w.Now) ai.Number 6 _ _ [.pt w.cs] [] (fun d => by cases d <;> rfl) (fun _ => rfl) (fun x => ab9 w hw x) abl 6 rfl hs) ⟨leA, leA, leA, leA, trivial⟩ ?_ | refine ah.at (rm w.Shocks (kq w.Next w.Now) ai.Number 6 _ _ [.pt w.cs] [] (fun d => by cases d <;> rfl) (fun _ => rfl) (fun x => ab9 w hw x) abl 6 rfl hs) ⟨leA, leA, leA, leA, trivial⟩ ?_)
 refine ev4 @h1 @h2 @h3 @h4 ?_
 exact ak.aq (by simp [wB, hc, h4]) (by rfl)
theorem ad4 {α : Type} {p : α → Bool} {k : α → Int} {m : Nat} {L : List α} (h : (List.range L.length).all (gu p k L) = true) (hm : L.length ≤ m) : je p k m L = true := by
 simp [je, h, hm]
theorem abk (w : ab) (hw : 1 ≤ w.Next ∧ w.Next ≤ 999) (x : ai) : Ctr Tryz.prog 120 [w.v, x.v] [] (.bool (kq w.Next w.Now x)) [] := by
 refine Ctr.intro Tryz.mixed Tryz.func120 rfl Tryz.ayl ?_
 refine ev2 @Tryz.ntmps120 @Tryz.results120 ?_
 refine ev2 @ai.v.eq_1 @ab.v.eq_1 ?_
 have hw1 : IntKind.i64.wrap (w.Next - 1) = w.Next - 1 := wrap_i64 (by omega) (by omega)
 repeat' (first | (refine ak.aq ?_ (by rfl); first | rfl | (simp [kq, *]; done)) | ((first | refine al.at (dy _ _ _) ⟨leA, leA, leA, trivial⟩ ?_ | refine ah.at (dy _ _ _) ⟨leA, leA, leA, trivial⟩ ?_); simp -implicitDefEqProofs -dsimp only [go_sem, *]) | (refine ax.bu (fun _ => ?_) (fun _ => ?_) <;> simp -implicitDefEqProofs -dsimp only [go_sem, *]) | (refine ax.cq (fun _ => ?_) (fun _ => ?_) <;> simp -implicitDefEqProofs -dsimp only [go_sem, *]))
theorem eg (w : ab) (hp : w.Posts.length ≤ 281474976710656) (hs : w.Shocks.length ≤ 281474976710656) : Ctr Tryz.prog 77 [w.v] [] (.bool (wB w)) [] := by
 refine Ctr.intro Tryz.mixed Tryz.func77 rfl Tryz.a2v ?_
 refine ev2 @Tryz.ntmps77 @Tryz.results77 ?_
 refine ev1 @ab.v.eq_1 ?_
 (first | refine al.at (afd _) ⟨leA, trivial⟩ ?_ | refine ah.at (afd _) ⟨leA, trivial⟩ ?_)
 refine ev0 ?_
 refine ax.cq (fun h1 => ?_) (fun h1 => ?_) <;> refine ev1 @h1 ?_
 rotate_left
 · exact ak.aq (by simp at h1; simp [wB, ju, h1]) (by rfl)
 refine ax.cq (fun h2 => ?_) (fun h2 => ?_) <;> refine ev1 @h2 ?_
 rotate_left
 · have : ¬ w.Posts.length ≤ 8 := by simp at h2; omega
   exact ak.aq (by simp [wB, je, this]) (by rfl)
 refine ax.cq (fun h3 => ?_) (fun h3 => ?_) <;> refine ev1 @h3 ?_
 rotate_left
 · have : ¬ w.Shocks.length ≤ 6 := by simp at h3; omega
   exact ak.aq (by simp [wB, je, this]) (by rfl)
 (first | refine al.at (dy _ _ _) ⟨leA, leA, leA, trivial⟩ ?_ | refine ah.at (dy _ _ _) ⟨leA, leA, leA, trivial⟩ ?_)
 refine ev0 ?_
 refine ax.cq (fun h4 => ?_) (fun h4 => ?_) <;> refine ev1 @h4 ?_
 rotate_left
 · exact ak.aq (by simp at h4; simp [wB, ju, h4]) (by rfl)
 (first | refine al.at (dy _ _ _) ⟨leA, leA, leA, trivial⟩ ?_ | refine ah.at (dy _ _ _) ⟨leA, leA, leA, trivial⟩ ?_)
 refine ev0 ?_
 refine ay.split (fun h5 => ?_) (fun h5 => ?_) <;> refine ev1 @h5 ?_
 · exact ak.aq (by simp at h5; simp [wB, ju, h5]) (by rfl)
 have hc : ju w = true := by simp at h1 h4 h5; simp [ju, h1, h4, h5]
 have hcn := vt.1 hc
 have hpl : w.Posts.length ≤ 8 := by simp at h2; omega
 have hsl : w.Shocks.length ≤ 6 := by simp at h3; omega
 clear h1 h2 h3 h4 h5
 refine dr.intro (fun i : Nat => i ≤ (w.Posts).length ∧ (List.range i).all (gu (r5 w.Now) bf.Station (w.Posts)) = true) (fun i => ⟨(.undef :: .ptr 0 0 :: .undef :: .int .i64 i :: (un 105 [])), [some w.cs], 0⟩) (fun i => (w.Posts).length - i) 0 ⟨Nat.zero_le _, rfl⟩ ?_ (fun i hi => ?_)
 · refine au.cut (1) (by simp) (by simp) ?_ ?_
   · simp [LeC, LeV, ren, bq]
   · first | rfl | simp [bz, cw, ren, ae, ab.cs]
 refine ev1 @ab.cs.eq_1 ?_
 refine ay.split (fun h1 => ?_) (fun h1 => ?_)
 rotate_left
 · refine ev2 @h1 @ab.cs.eq_1 ?_
   have hi' : i = (w.Posts).length := by simp at h1; omega
   subst hi'
   have hpq := ad4 hi.2 hpl
   refine dr.intro (fun i : Nat => i ≤ (w.Shocks).length ∧ (List.range i).all (gu (kq w.Next w.Now) ai.Number (w.Shocks)) = true) (fun i => ⟨(.undef :: .ptr 0 0 :: (un 3 (.int .i64 i :: (un 103 [])))), [some w.cs], 0⟩) (fun i => (w.Shocks).length - i) 0 ⟨Nat.zero_le _, rfl⟩ ?_ (fun i hi => ?_)
   · refine au.cut (1) (by simp) (by simp) ?_ ?_
     · simp [LeC, LeV, ren, bq]
     · first | rfl | simp [bz, cw, ren, ae, ab.cs]
   refine ev1 @ab.cs.eq_1 ?_
   refine ay.split (fun h1 => ?_) (fun h1 => ?_)
   rotate_left
   · refine ev2 @h1 @ab.cs.eq_1 ?_
     have hi' : i = (w.Shocks).length := by simp at h1; omega
     subst hi'
     exact ak.aq (by rw [wB, hc, hpq, ad4 hi.2 hsl]; rfl) (by rfl)
   · refine ev2 @h1 @ab.cs.eq_1 ?_
     have hi' : i < (w.Shocks).length := by simpa using h1
     have h5 := ai.csl (w.Shocks)[i]
     have hr := bw ai.csl hi'
     have hbad : gu (kq w.Next w.Now) ai.Number (w.Shocks) i = false → _ := fun hq => (show V.bool false = V.bool (wB w) by rw [wB, jo hi' hq]; simp)
     cases i with
     | zero =>
      have hz : ((0 : Nat) : Int) = 0 := rfl
      have hr0 := hr
      rw [Nat.zero_mul, List.drop_zero] at hr0
      refine rn5 @hr @hr0 @hz @ai.cs.eq_1 @ab.cs.eq_1 ?_
      repeat' (first | (refine ak.aq (hbad ?_) (by rfl); (rw [km hi']; (try simp only [Bool.not_eq_false', Bool.not_eq_true', decide_eq_false_iff_not, decide_eq_true_eq] at *); simp [*]; try omega; done)) | ((have ct := abk w hcn.2.1 (w.Shocks[0]); (first | refine al.at ct ⟨leA, leA, trivial⟩ ?_ | refine ah.at ct ⟨leA, leA, trivial⟩ ?_); clear ct); simp -implicitDefEqProofs -dsimp only [go_sem, *, ab.cs]) | (refine ax.bu (fun _ => ?_) (fun _ => ?_) <;> simp -implicitDefEqProofs -dsimp only [go_sem, *, ab.cs]) | (refine ax.cq (fun _ => ?_) (fun _ => ?_) <;> simp -implicitDefEqProofs -dsimp only [go_sem, *, ab.cs]) | (refine ay.split (fun _ => ?_) (fun _ => ?_) <;> simp -implicitDefEqProofs -dsimp only [go_sem, *, ab.cs]) | (with_reducible refine And.intro (by first | omega | (show cd _ = true; kernel_rfl)) ?_; (repeat ((repeat1' (first | simp -implicitDefEqProofs -dsimp only [go_sem, *, ai.cs, ab.cs] | simp -dsimp (disch := omega) only [wrap_i64])); repeat (with_reducible refine df ?_)))) | (refine ⟨0 + 1, ⟨hi', gk hi.2 (by rw [km hi']; (try simp only [Bool.not_eq_false', Bool.not_eq_true', decide_eq_false_iff_not, decide_eq_true_eq] at *); simp [*]; try omega)⟩, ?_, by omega⟩; refine au.cut (1) (by simp) (by simp) ?_ ?_; (· (try refine ew0 ?_; simp [LeC, LeV, ren, bq]; try omega)); (· (first | rfl | simp [bz, cw, ren, ae, ab.cs]))))
     | succ j =>
      have hj : j < (w.Shocks).length := by omega
      have hw1 : IntKind.i64.wrap (((j + 1 : Nat) : Int) - 1) = (j : Int) := by rw [wrap_i64 (by omega) (by omega)]; omega
      have hg : decide ((0 : Int) < ((j + 1 : Nat) : Int)) = true := decide_eq_true (by omega)
      have hr2 := bw ai.csl hj
      refine rn6 @hr @hg @hw1 @hr2 @ai.cs.eq_1 @ab.cs.eq_1 ?_
      repeat' (first | (refine ak.aq (hbad ?_) (by rfl); (rw [ia hi']; (try simp only [Bool.not_eq_false', Bool.not_eq_true', decide_eq_false_iff_not, decide_eq_true_eq] at *); simp [*]; try omega; done)) | ((have ct := abk w hcn.2.1 (w.Shocks[j + 1]); (first | refine al.at ct ⟨leA, leA, trivial⟩ ?_ | refine ah.at ct ⟨leA, leA, trivial⟩ ?_); clear ct); simp -implicitDefEqProofs -dsimp only [go_sem, *, ab.cs]) | (refine ax.bu (fun _ => ?_) (fun _ => ?_) <;> simp -implicitDefEqProofs -dsimp only [go_sem, *, ab.cs]) | (refine ax.cq (fun _ => ?_) (fun _ => ?_) <;> simp -implicitDefEqProofs -dsimp only [go_sem, *, ab.cs]) | (refine ay.split (fun _ => ?_) (fun _ => ?_) <;> simp -implicitDefEqProofs -dsimp only [go_sem, *, ab.cs]) | (with_reducible refine And.intro (by first | omega | (show cd _ = true; kernel_rfl)) ?_; (repeat ((repeat1' (first | simp -implicitDefEqProofs -dsimp only [go_sem, *, ai.cs, ab.cs] | simp -dsimp (disch := omega) only [wrap_i64])); repeat (with_reducible refine df ?_)))) | (refine ⟨j + 1 + 1, ⟨hi', gk hi.2 (by rw [ia hi']; (try simp only [Bool.not_eq_false', Bool.not_eq_true', decide_eq_false_iff_not, decide_eq_true_eq] at *); simp [*]; try omega)⟩, ?_, by omega⟩; refine au.cut (1) (by simp) (by simp) ?_ ?_; (· (try refine ew0 ?_; simp [LeC, LeV, ren, bq]; try omega)); (· (first | rfl | simp [bz, cw, ren, ae, ab.cs]))))
 · refine ev2 @h1 @ab.cs.eq_1 ?_
   have hi' : i < (w.Posts).length := by simpa using h1
   have h5 := bf.csl (w.Posts)[i]
   have hr := bw bf.csl hi'
   have hbad : gu (r5 w.Now) bf.Station (w.Posts) i = false → _ := fun hq => (show V.bool false = V.bool (wB w) by rw [wB, jo hi' hq]; simp)
   cases i with
   | zero =>
    have hz : ((0 : Nat) : Int) = 0 := rfl
    have hr0 := hr
    rw [Nat.zero_mul, List.drop_zero] at hr0
    refine rn5 @hr @hr0 @hz @bf.cs.eq_1 @ab.cs.eq_1 ?_
    repeat' (first | (refine ak.aq (hbad ?_) (by rfl); (rw [km hi']; (try simp only [Bool.not_eq_false', Bool.not_eq_true', decide_eq_false_iff_not, decide_eq_true_eq] at *); simp [r5, *]; try omega; done)) | ((first | refine al.at (dy _ _ _) ⟨leA, leA, leA, trivial⟩ ?_ | refine ah.at (dy _ _ _) ⟨leA, leA, leA, trivial⟩ ?_); simp -implicitDefEqProofs -dsimp only [go_sem, *, ab.cs]) | (refine ax.bu (fun _ => ?_) (fun _ => ?_) <;> simp -implicitDefEqProofs -dsimp only [go_sem, *, ab.cs]) | (refine ax.cq (fun _ => ?_) (fun _ => ?_) <;> simp -implicitDefEqProofs -dsimp only [go_sem, *, ab.cs]) | (refine ay.split (fun _ => ?_) (fun _ => ?_) <;> simp -implicitDefEqProofs -dsimp only [go_sem, *, ab.cs]) | (with_reducible refine And.intro (by first | omega | (show cd _ = true; kernel_rfl)) ?_; (repeat ((repeat1' (first | simp -implicitDefEqProofs -dsimp only [go_sem, *, bf.cs, ab.cs] | simp -dsimp (disch := omega) only [wrap_i64])); repeat (with_reducible refine df ?_)))) | (refine ⟨0 + 1, ⟨hi', gk hi.2 (by rw [km hi']; (try simp only [Bool.not_eq_false', Bool.not_eq_true', decide_eq_false_iff_not, decide_eq_true_eq] at *); simp [r5, *]; try omega)⟩, ?_, by omega⟩; refine au.cut (1) (by simp) (by simp) ?_ ?_; (· (try refine ew0 ?_; simp [LeC, LeV, ren, bq]; try omega)); (· (first | rfl | simp [bz, cw, ren, ae, ab.cs]))))
   | succ j =>
    have hj : j < (w.Posts).length := by omega
    have hw1 : IntKind.i64.wrap (((j + 1 : Nat) : Int) - 1) = (j : Int) := by rw [wrap_i64 (by omega) (by omega)]; omega
    have hg : decide ((0 : Int) < ((j + 1 : Nat) : Int)) = true := decide_eq_true (by omega)
    have hr2 := bw bf.csl hj
    refine rn6 @hr @hg @hw1 @hr2 @bf.cs.eq_1 @ab.cs.eq_1 ?_
    repeat' (first | (refine ak.aq (hbad ?_) (by rfl); (rw [ia hi']; (try simp only [Bool.not_eq_false', Bool.not_eq_true', decide_eq_false_iff_not, decide_eq_true_eq] at *); simp [r5, *]; try omega; done)) | ((first | refine al.at (dy _ _ _) ⟨leA, leA, leA, trivial⟩ ?_ | refine ah.at (dy _ _ _) ⟨leA, leA, leA, trivial⟩ ?_); simp -implicitDefEqProofs -dsimp only [go_sem, *, ab.cs]) | (refine ax.bu (fun _ => ?_) (fun _ => ?_) <;> simp -implicitDefEqProofs -dsimp only [go_sem, *, ab.cs]) | (refine ax.cq (fun _ => ?_) (fun _ => ?_) <;> simp -implicitDefEqProofs -dsimp only [go_sem, *, ab.cs]) | (refine ay.split (fun _ => ?_) (fun _ => ?_) <;> simp -implicitDefEqProofs -dsimp only [go_sem, *, ab.cs]) | (with_reducible refine And.intro (by first | omega | (show cd _ = true; kernel_rfl)) ?_; (repeat ((repeat1' (first | simp -implicitDefEqProofs -dsimp only [go_sem, *, bf.cs, ab.cs] | simp -dsimp (disch := omega) only [wrap_i64])); repeat (with_reducible refine df ?_)))) | (refine ⟨j + 1 + 1, ⟨hi', gk hi.2 (by rw [ia hi']; (try simp only [Bool.not_eq_false', Bool.not_eq_true', decide_eq_false_iff_not, decide_eq_true_eq] at *); simp [r5, *]; try omega)⟩, ?_, by omega⟩; refine au.cut (1) (by simp) (by simp) ?_ ?_; (· (try refine ew0 ?_; simp [LeC, LeV, ren, bq]; try omega)); (· (first | rfl | simp [bz, cw, ren, ae, ab.cs]))))
end Go.Proofs
end
section
set_option maxRecDepth 100000
set_option maxHeartbeats 1000000
namespace Go.Proofs
open Go.Lv
theorem al4 {x y : V} (h : LeV x y := by first | exact leA | exact LeV.aoo ⟨.inl rfl, yk rfl (by simp [gq, xo]) (by simp [xo]), yk rfl rfl rfl, .inl rfl, .inl rfl, trivial⟩ | exact LeV.aoo ⟨.inl rfl, yk rfl (by simp [gq, xo]) (by simp [xo]), LeE.nil, .inl rfl, .inl rfl, trivial⟩) : LeV x y := h
def gq (K : List Int) : List bf := K.map fun n => ⟨n, true, 0⟩
def xo (K : List Int) : ab := ⟨0, gq K, [], 1, 0⟩
theorem aeh {K : List Int} {i : Nat} (hi : i < K.length) : gq (K.take (i + 1)) = gq (K.take i) ++ [⟨K[i], true, 0⟩] := by
 rw [gq, List.take_succ_eq_append_getElem hi, List.map_append]; rfl
theorem ahb {K : List Int} {i : Nat} (hi : i ≤ K.length) : (gq (K.take i)).length = i := by simp [gq]; omega
def alb : V := .tup [.agg [.int .i64 0, .nilsl, .nilsl, .int .i64 0, .int .i64 0], .bool false]
theorem xf (K : List Int) (hk : K.length ≤ 16777216) (r : V) (hout : Hp)
 (fin : wB (xo K) = true → ak 0 (.tup [.agg [.int .i64 0, .osl 1 0 K.length 3, .osl 2 0 0 5, .int .i64 1, .int .i64 0], .bool true]) [some [.int .i64 0, .osl 1 0 K.length 3, .osl 2 0 0 5, .int .i64 1, .int .i64 0], some (rows bf.cs (gq K)), some [], some [.int .i64 0, .osl 1 0 K.length 3, .osl 2 0 0 5, .int .i64 1, .int .i64 0]] r hout)
 (no : wB (xo K) = false → r = alb ∧ hout = []) : Ctr Tryz.prog 56 [IntS.sl K] [] r hout := by
 refine Ctr.intro Tryz.mixed Tryz.func56 rfl Tryz.a5w ?_
 refine ev2 @Tryz.ntmps56 @Tryz.results56 ?_
 refine dr.intro (fun i : Nat => i ≤ K.length) (fun i => ⟨(IntS.sl K :: .undef :: .ptr 0 0 :: .undef :: .ptr 3 0 :: .int .i64 i :: (un 24 [])), [some [.int .i64 0, .nilsl, .nilsl, .int .i64 0, .int .i64 0], some (rows bf.cs (gq (K.take i))), some [], some [.int .i64 0, .osl 1 0 i 3, .osl 2 0 0 5, .int .i64 1, .int .i64 0]], 0⟩) (fun i => K.length - i) 0 (Nat.zero_le _) ?_ (fun i hi => ?_)
 · refine au.cut (4) (by simp) (by simp) ?_ ?_
   · simp [LeC, LeV, ren, bq]
   · simp [bz, cw, ren, bq, gq, rows]
 refine ev0 ?_
 refine ay.split (fun h1 => ?_) (fun h1 => ?_)
 · refine ev1 @h1 ?_
   have hi' : i < K.length := by simpa using h1
   have hr := bw IntS.csl hi'
   have hn := ahb hi
   refine rn5 @hr @IntS.cs.eq_1 @bb @hn @bh ?_
   refine ⟨i + 1, hi', ?_, by omega⟩
   refine au.cut (4) (by simp) (by simp) ?_ ?_
   · simp [LeC, LeV, ren, bq]
   · rw [aeh hi', ← dw]
     simp [bz, cw, ren, bq, ae, dk, bf.cs]
 · refine ev1 @h1 ?_
   have hi' : i = K.length := by simp at h1; omega
   subst hi'
   rw [List.take_length]
   (have ct := eg (xo K) (by simp [xo, gq]; omega) (by simp [xo]); (first | refine al.at ct ⟨al4, trivial⟩ ?_ | refine ah.at ct ⟨al4, trivial⟩ ?_); clear ct)
   cases h : wB (xo K) with
   | false =>
    refine ev1 @h ?_
    obtain ⟨rfl, rfl⟩ := no h
    exact ak.aq rfl (by rfl)
   | true =>
    refine ev1 @h ?_
    exact fin h
theorem agj (K : List Int) (hk : K.length ≤ 16777216) (h : wB (xo K) = false) : Ctr Tryz.prog 56 [IntS.sl K] [] alb [] :=
 xf K hk _ _ (fun h' => by rw [h] at h'; cases h') (fun _ => ⟨rfl, rfl⟩)
theorem agc (K : List Int) (hk : K.length ≤ 16777216) (h : wB (xo K) = true) : Ctr Tryz.prog 56 [IntS.sl K] [] (.tup [.agg [.int .i64 0, .osl 0 0 K.length 3, .osl 1 0 0 5, .int .i64 1, .int .i64 0], .bool true]) [some (rows bf.cs (gq K)), some []] := by
 refine xf K hk _ _ (fun _ => ?_) (fun h' => by rw [h] at h'; cases h')
 refine ak.pick [1, 2] (by decide) (fun j hj => by omega) (.inl ?_) ?_
 · first | rfl | (simp [ren, bc, posOf]; done)
 · simp only [az, List.map_cons, List.map_nil, bg, List.getElem?_cons_zero, List.getElem?_cons_succ, ae]
end Go.Proofs
end
section
namespace Go.Lv
def jn {α : Type} (p : α → Bool) (L : List α) : Int := match L.findIdx? p with
 | some i => i
 | none => -1
theorem ug {α : Type} {p : α → Bool} {L : List α} {i : Nat} (h : i < L.length) (h0 : (L.take i).any p = false) (h1 : p L[i] = true) : jn p L = i := by
 have : L.findIdx? p = some i := by
  rw [List.findIdx?_eq_some_iff_getElem]
  refine ⟨h, h1, fun j hj => ?_⟩
  have := List.any_eq_false.1 h0 L[j] (by rw [List.mem_take_iff_getElem]; exact ⟨j, by omega, rfl⟩)
  simpa using this
 simp [jn, this]
theorem wx {α : Type} {p : α → Bool} {L : List α} (h : L.any p = false) : jn p L = -1 := by
 have : L.findIdx? p = none := by
  rw [List.findIdx?_eq_none_iff]
  intro x hx
  have := List.any_eq_false.1 h x hx
  simpa using this
 simp [jn, this]
end Go.Lv
end
section
set_option maxRecDepth 100000
namespace Go.Proofs
open Go.Lv
theorem td (L : List bf) (p : bf → Bool) (fv : Nat) (vc : List V) (hvc : ∀ d, vc.all (db d) = true) (hv : ∀ x, Ctr Tryz.prog fv (bf.v x :: vc) [] (.bool (p x)) []) (hl : L.length ≤ 281474976710656) :
 Ctr Tryz.prog 195 [bf.sl L, .fn (.func fv) [] vc] [] (.int .i64 (jn p L)) [] := by
 refine Ctr.intro Tryz.mixed Tryz.func195 rfl Tryz.ax9 ?_
 refine ev2 @Tryz.ntmps195 @Tryz.results195 ?_
 have hvc2 : ∀ f d, vc.map (ren f d) = vc := fun f d => r6 f (hvc d)
 refine dr.intro (fun i : Nat => i ≤ L.length ∧ (L.take i).any p = false) (fun i => ⟨(bf.sl L :: .fn (.func fv) [] vc :: (un 5 (.int .i64 L.length :: .int .i64 i :: (un 10 [])))), [], 0⟩) (fun i => L.length - i) 0 ⟨Nat.zero_le _, rfl⟩ ?_ (fun i hi => ?_)
 · refine au.cut (0) (by simp) (by simp) ?_ ?_
   · simp [LeC, LeV, ren, bq, hvc2]
   · rfl
 refine ev0 ?_
 refine ay.split (fun h1 => ?_) (fun h1 => ?_)
 · refine ev1 @h1 ?_
   have hi' : i < L.length := by simpa using h1
   have h5 := bf.csl L[i]
   have hr := bw bf.csl hi'
   refine ew2 @hr @bf.cs.eq_1 ?_
   repeat (with_reducible refine df ?_)
   refine ah.intro (hv L[i]) ⟨.inl rfl, ky (hvc2 _ _)⟩ (.inl (by simp only [List.nil_append, List.cons_append, List.all_cons, hvc, Bool.and_true]; rfl)) ?_
   refine ev0 ?_
   refine ay.split (fun h2 => ?_) (fun h2 => ?_) <;> refine ev1 @h2 ?_
   · exact ak.aq (by rw [ug hi' hi.2 h2]) (by rfl)
   · refine ⟨i + 1, ⟨hi', by rw [List.take_succ_eq_append_getElem hi']; simp only [List.any_append, hi.2, List.any_cons, h2, List.any_nil, Bool.or_self]⟩, ?_, by omega⟩
     refine au.cut (0) (by simp) (by simp) ?_ ?_
     · rw [wrap_i64 (by omega) (by omega)]
       simp [LeC, LeV, ren, bq, hvc2]
     · rfl
 · refine ev1 @h1 ?_
   have hi' : i = L.length := by simp at h1; omega
   subst hi'
   have h2 := hi.2
   rw [List.take_length] at h2
   exact ak.aq (by rw [wx h2]) (by rfl)
end Go.Proofs
end
section
set_option maxRecDepth 100000
namespace Go.Proofs
open Go.Lv
theorem rq (L : List ai) (p : ai → Bool) (fv : Nat) (vc : List V) (hvc : ∀ d, vc.all (db d) = true) (hv : ∀ x, Ctr Tryz.prog fv (ai.v x :: vc) [] (.bool (p x)) []) (hl : L.length ≤ 281474976710656) :
 Ctr Tryz.prog 147 [ai.sl L, .fn (.func fv) [] vc] [] (.int .i64 (jn p L)) [] := by
 refine Ctr.intro Tryz.mixed Tryz.func147 rfl Tryz.awy ?_
 refine ev2 @Tryz.ntmps147 @Tryz.results147 ?_
 have hvc2 : ∀ f d, vc.map (ren f d) = vc := fun f d => r6 f (hvc d)
 refine dr.intro (fun i : Nat => i ≤ L.length ∧ (L.take i).any p = false) (fun i => ⟨(ai.sl L :: .fn (.func fv) [] vc :: (un 5 (.int .i64 L.length :: .int .i64 i :: (un 10 [])))), [], 0⟩) (fun i => L.length - i) 0 ⟨Nat.zero_le _, rfl⟩ ?_ (fun i hi => ?_)
 · refine au.cut (0) (by simp) (by simp) ?_ ?_
   · simp [LeC, LeV, ren, bq, hvc2]
   · rfl
 refine ev0 ?_
 refine ay.split (fun h1 => ?_) (fun h1 => ?_)
 · refine ev1 @h1 ?_
   have hi' : i < L.length := by simpa using h1
   have h5 := ai.csl L[i]
   have hr := bw ai.csl hi'
   refine ew2 @hr @ai.cs.eq_1 ?_
   repeat (with_reducible refine df ?_)
   refine ah.intro (hv L[i]) ⟨.inl rfl, ky (hvc2 _ _)⟩ (.inl (by simp only [List.nil_append, List.cons_append, List.all_cons, hvc, Bool.and_true]; rfl)) ?_
   refine ev0 ?_
   refine ay.split (fun h2 => ?_) (fun h2 => ?_) <;> refine ev1 @h2 ?_
   · exact ak.aq (by rw [ug hi' hi.2 h2]) (by rfl)
   · refine ⟨i + 1, ⟨hi', by rw [List.take_succ_eq_append_getElem hi']; simp only [List.any_append, hi.2, List.any_cons, h2, List.any_nil, Bool.or_self]⟩, ?_, by omega⟩
     refine au.cut (0) (by simp) (by simp) ?_ ?_
     · rw [wrap_i64 (by omega) (by omega)]
       simp [LeC, LeV, ren, bq, hvc2]
     · rfl
 · refine ev1 @h1 ?_
   have hi' : i = L.length := by simp at h1; omega
   subst hi'
   have h2 := hi.2
   rw [List.take_length] at h2
   exact ak.aq (by rw [wx h2]) (by rfl)
end Go.Proofs
end
section
set_option maxRecDepth 100000
namespace Go.Proofs
open Go.Lv
def du (n : Int) (x : ai) : Bool := x.Number == n
def ks (n : Int) (x : bf) : Bool := x.Station == n
theorem adl (x : ai) (n : Int) : Ctr Tryz.prog 148 [x.v, .pt [.int .i64 n]] [] (.bool (du n x)) [] := by
 refine Ctr.intro Tryz.mixed Tryz.func148 rfl Tryz.axd ?_
 refine ev2 @Tryz.ntmps148 @Tryz.results148 ?_
 refine ev1 @ai.v.eq_1 ?_
 exact ak.aq rfl (by rfl)
theorem j5 (w : ab) (n : Int) (hs : w.Shocks.length ≤ 281474976710656) : Ctr Tryz.prog 112 [w.v, .int .i64 n] [] (.int .i64 (jn (du n) w.Shocks)) [] := by
 refine Ctr.intro Tryz.mixed Tryz.func112 rfl Tryz.avw ?_
 refine ev2 @Tryz.ntmps112 @Tryz.results112 ?_
 refine ev1 @ab.v.eq_1 ?_
 (first | refine al.at (rq w.Shocks (du n) _ [.pt [.int .i64 n]] (fun d => by cases d <;> rfl) (fun x => adl x n) hs) ⟨leA, leA, trivial⟩ ?_ | refine ah.at (rq w.Shocks (du n) _ [.pt [.int .i64 n]] (fun d => by cases d <;> rfl) (fun x => adl x n) hs) ⟨leA, leA, trivial⟩ ?_)
 refine ev0 ?_
 exact ak.aq rfl (by rfl)
theorem j8 (w : ab) (n : Int) (hs : w.Shocks.length ≤ 281474976710656) : Ctr Tryz.prog 163 [w.v, .int .i64 n] [] (.int .i64 (jn (du n) w.Shocks)) [] := by
 refine Ctr.intro Tryz.mixed Tryz.func163 rfl Tryz.ays ?_
 refine ev2 @Tryz.ntmps163 @Tryz.results163 ?_
 refine ev1 @ab.v.eq_1 ?_
 refine dr.intro (fun i : Nat => i ≤ w.Shocks.length ∧ (w.Shocks.take i).any (du n) = false) (fun i => ⟨(.undef :: .int .i64 n :: .ptr 0 0 :: .undef :: .undef :: .int .i64 i :: (un 16 [])), [some w.cs], 0⟩) (fun i => w.Shocks.length - i) 0 ⟨Nat.zero_le _, rfl⟩ ?_ (fun i hi => ?_)
 · refine au.cut (1) (by simp) (by simp) ?_ ?_
   · simp [LeC, LeV, ren, bq]
   · simp [bz, cw, ren, ae, ab.cs]
 refine ev1 @ab.cs.eq_1 ?_
 refine ay.split (fun h1 => ?_) (fun h1 => ?_)
 · refine ev2 @h1 @ab.cs.eq_1 ?_
   have hi' : i < w.Shocks.length := by simpa using h1
   have h5 := ai.csl w.Shocks[i]
   have hr := bw ai.csl hi'
   refine rn3 @hr @ai.cs.eq_1 @ab.cs.eq_1 ?_
   refine ay.split (fun h2 => ?_) (fun h2 => ?_) <;> refine rn1 @h2 ?_
   · exact ak.aq (by rw [ug hi' hi.2 h2]) (by rfl)
   · refine ⟨i + 1, ⟨hi', by rw [List.take_succ_eq_append_getElem hi']; simp only [List.any_append, hi.2, List.any_cons, du, h2, List.any_nil, Bool.or_self]⟩, ?_, by omega⟩
     refine au.cut (1) (by simp) (by simp) ?_ ?_
     · simp [LeC, LeV, ren, bq]
     · simp [bz, cw, ren, ae, ab.cs]
 · refine ev1 @h1 ?_
   have hi' : i = w.Shocks.length := by simp at h1; omega
   subst hi'
   have h2 := hi.2
   rw [List.take_length] at h2
   exact ak.aq (by rw [wx h2]) (by rfl)
theorem afc (x : bf) (n : Int) : Ctr Tryz.prog 196 [x.v, .pt [.int .i64 n]] [] (.bool (ks n x)) [] := by
 refine Ctr.intro Tryz.mixed Tryz.func196 rfl Tryz.ayx ?_
 refine ev2 @Tryz.ntmps196 @Tryz.results196 ?_
 refine ev1 @bf.v.eq_1 ?_
 exact ak.aq rfl (by rfl)
theorem pw (w : ab) (n : Int) (hs : w.Posts.length ≤ 281474976710656) : Ctr Tryz.prog 178 [w.v, .int .i64 n] [] (.int .i64 (jn (ks n) w.Posts)) [] := by
 refine Ctr.intro Tryz.mixed Tryz.func178 rfl Tryz.awp ?_
 refine ev2 @Tryz.ntmps178 @Tryz.results178 ?_
 refine ev1 @ab.v.eq_1 ?_
 (first | refine al.at (td w.Posts (ks n) _ [.pt [.int .i64 n]] (fun d => by cases d <;> rfl) (fun x => afc x n) hs) ⟨leA, leA, trivial⟩ ?_ | refine ah.at (td w.Posts (ks n) _ [.pt [.int .i64 n]] (fun d => by cases d <;> rfl) (fun x => afc x n) hs) ⟨leA, leA, trivial⟩ ?_)
 refine ev0 ?_
 exact ak.aq rfl (by rfl)
theorem n8 (w : ab) (n : Int) (hs : w.Posts.length ≤ 281474976710656) : Ctr Tryz.prog 162 [w.v, .int .i64 n] [] (.int .i64 (jn (ks n) w.Posts)) [] := by
 refine Ctr.intro Tryz.mixed Tryz.func162 rfl Tryz.axk ?_
 refine ev2 @Tryz.ntmps162 @Tryz.results162 ?_
 refine ev1 @ab.v.eq_1 ?_
 refine dr.intro (fun i : Nat => i ≤ w.Posts.length ∧ (w.Posts.take i).any (ks n) = false) (fun i => ⟨(.undef :: .int .i64 n :: .ptr 0 0 :: .undef :: .undef :: .int .i64 i :: (un 16 [])), [some w.cs], 0⟩) (fun i => w.Posts.length - i) 0 ⟨Nat.zero_le _, rfl⟩ ?_ (fun i hi => ?_)
 · refine au.cut (1) (by simp) (by simp) ?_ ?_
   · simp [LeC, LeV, ren, bq]
   · simp [bz, cw, ren, ae, ab.cs]
 refine ev1 @ab.cs.eq_1 ?_
 refine ay.split (fun h1 => ?_) (fun h1 => ?_)
 · refine ev2 @h1 @ab.cs.eq_1 ?_
   have hi' : i < w.Posts.length := by simpa using h1
   have h5 := bf.csl w.Posts[i]
   have hr := bw bf.csl hi'
   refine rn3 @hr @bf.cs.eq_1 @ab.cs.eq_1 ?_
   refine ay.split (fun h2 => ?_) (fun h2 => ?_) <;> refine rn1 @h2 ?_
   · exact ak.aq (by rw [ug hi' hi.2 h2]) (by rfl)
   · refine ⟨i + 1, ⟨hi', by rw [List.take_succ_eq_append_getElem hi']; simp only [List.any_append, hi.2, List.any_cons, ks, h2, List.any_nil, Bool.or_self]⟩, ?_, by omega⟩
     refine au.cut (1) (by simp) (by simp) ?_ ?_
     · simp [LeC, LeV, ren, bq]
     · simp [bz, cw, ren, ae, ab.cs]
 · refine ev1 @h1 ?_
   have hi' : i = w.Posts.length := by simp at h1; omega
   subst hi'
   have h2 := hi.2
   rw [List.take_length] at h2
   exact ak.aq (by rw [wx h2]) (by rfl)
end Go.Proofs
end
section
set_option maxRecDepth 100000
namespace Go.Proofs
open Go.Lv
structure cm where
 Kind : Int
 Number : Int
 Value : Int
def cm.cs (r : cm) : List V := [.int .i64 r.Kind, .int .i64 r.Number, .int .i64 r.Value]
def cm.v (r : cm) : V := .agg [.int .i64 r.Kind, .int .i64 r.Number, .int .i64 r.Value]
theorem cm.csl (a : cm) : a.cs.length = 3 := rfl
instance : qp cm.cs 3 := ⟨fun _ => rfl, fun _ d => by cases d <;> rfl, fun _ => rfl, fun _ => rfl⟩
def cm.ok (r : cm) : Prop := bt r.Kind ∧ bt r.Number ∧ bt r.Value
abbrev cm.rows (L : List cm) : List V := Go.Lv.rows cm.cs L
abbrev cm.sl (L : List cm) : V := .sl L.length 3 (Go.Lv.rows cm.cs L)
abbrev cm.zs : List V := [.int .i64 0, .int .i64 0, .int .i64 0]
def cm.mk1 (k : Int) : cm := ⟨k, k + 1, k + 1 + 1⟩
def cm.marks (k : Int) (n : Nat) : List cm := (List.range n).map fun i : Nat => cm.mk1 (k + 3 * (i : Int))
@[simp] theorem cm.tg (k : Int) (n : Nat) : (cm.marks k n).length = n := by simp [cm.marks]
end Go.Proofs
end
section
set_option maxRecDepth 100000
set_option maxHeartbeats 1000000
namespace Go.Proofs
open Go.Lv
theorem aky {α : Type} (p : α → Bool) (L : List α) : (∃ i, ∃ h : i < L.length, jn p L = (i : Int) ∧ p L[i] = true) ∨ jn p L = -1 := by
 unfold jn
 cases h : L.findIdx? p with
 | none => exact .inr rfl
 | some i =>
  obtain ⟨h1, h2, _⟩ := List.findIdx?_eq_some_iff_getElem.1 h
  exact .inl ⟨i, h1, rfl, h2⟩
theorem s4 {α : Type} {p : α → Bool} {L : List α} (h : decide (0 ≤ jn p L) = true) : ∃ i, ∃ h : i < L.length, jn p L = (i : Int) ∧ p L[i] = true := by
 rcases aky p L with h1 | h1
 · exact h1
 · rw [h1] at h; simp at h
def pAt (w : ab) (n : Int) : Nat := (jn (ks n) w.Posts).toNat
def sAt (w : ab) (n : Int) : Nat := (jn (du n) w.Shocks).toNat
def dv (w : ab) (k n v : Int) : Bool :=
 if k = 1 then n == 0 && decide (1 ≤ v)
 else if k = 2 ∨ k = 3 then decide (0 ≤ jn (ks n) w.Posts) && v == 0
 else if k = 4 then n == 0 && v == 0
 else if k = 5 then decide (0 ≤ jn (du n) w.Shocks) && ez v (-20) 95
 else if k = 6 then decide (0 ≤ jn (du n) w.Shocks) && ez v (-10) 10
 else (k == 7 || k == 8) && decide (0 ≤ jn (du n) w.Shocks) && v == 0
def vr (x : ai) (k v : Int) : ai := if k = 5 then ⟨x.Number, 1, x.Seen, v, x.Tick⟩ else if k = 6 then ⟨x.Number, 2, x.Seen, x.Size + v, x.Tick⟩ else ⟨x.Number, 3, x.Seen, x.Size, x.Tick⟩
def aay (x : ai) (k : Int) : Bool := if k = 5 then x.State == 0 && decide (3 ≤ x.Seen) else if k = 6 then x.State == 1 else x.State == 2 || (x.State == 1 && decide (50 ≤ x.Size))
def ad0 (w : ab) (x : ai) : Bool := x.State == 3 || (x.State == 0 && decide (6000 < w.Now - x.Tick))
def upN (w : ab) (i : Nat) : Nat := ((w.Posts.take i).filter bf.Up).length
def akp (w : ab) (i : Nat) : ai := (w.Shocks[i]?).getD ⟨0, 0, 0, 0, 0⟩
def avz (w : ab) (i : Nat) : bf := (w.Posts[i]?).getD ⟨0, false, 0⟩
theorem zw {w : ab} {i : Nat} (h : i < w.Shocks.length) : akp w i = w.Shocks[i] := by simp [akp, h]
theorem ah2 {w : ab} {i : Nat} (h : i < w.Posts.length) : avz w i = w.Posts[i] := by simp [avz, h]
def fo (w : ab) (k n v : Int) : ab :=
 if k = 1 then ⟨w.Now + v, w.Posts, w.Shocks, w.Next, w.Archived⟩
 else if k = 2 ∨ k = 3 then ⟨w.Now, w.Posts.set (pAt w n) ⟨n, decide (k = 3), w.Now⟩, w.Shocks, w.Next, w.Archived⟩
 else if k = 4 then ⟨w.Now, w.Posts, w.Shocks ++ [⟨w.Next, 0, (upN w w.Posts.length : Int), 0, w.Now⟩], w.Next + 1, w.Archived⟩
 else if k = 8 then ⟨w.Now, w.Posts, w.Shocks.take (sAt w n) ++ w.Shocks.drop (sAt w n + 1), w.Next, w.Archived + 1⟩
 else ⟨w.Now, w.Posts, w.Shocks.set (sAt w n) (vr (akp w (sAt w n)) k v), w.Next, w.Archived⟩
def o6 (w : ab) (k n v : Int) : Bool :=
 if k = 1 then decide (v ≤ 1000000 - w.Now)
 else if k = 2 ∨ k = 3 then (avz w (pAt w n)).Up != decide (k = 3)
 else if k = 4 then true
 else if k = 8 then ad0 w (akp w (sAt w n))
 else aay (akp w (sAt w n)) k
def fx (w : ab) (k n v : Int) : ab := if k = 1 ∧ ¬ v ≤ 1000000 - w.Now then w else fo w k n v
theorem akb (w : ab) (k n v : Int) (hp : w.Posts.length ≤ 16777216) (hs : w.Shocks.length ≤ 16777216) : Ctr Tryz.prog 133 [w.v, .agg [.int .i64 k, .int .i64 n, .int .i64 v]] [] (.bool (dv w k n v)) [] := by
 by_cases k1 : k = 1
 · subst k1
   refine Ctr.intro Tryz.mixed Tryz.func133 rfl Tryz.xk ?_
   refine ev2 @Tryz.ntmps133 @Tryz.results133 ?_
   refine ev1 @ab.v.eq_1 ?_
   repeat' (first | (refine ak.aq ?_ (by rfl); first | rfl | (simp [dv, *]; done)) | ((have ct := n8 w n (by omega); (first | refine al.at ct ⟨leA, leA, trivial⟩ ?_ | refine ah.at ct ⟨leA, leA, trivial⟩ ?_); clear ct); simp -implicitDefEqProofs -dsimp only [go_sem, *]) | (refine ax.bu (fun _ => ?_) (fun _ => ?_) <;> simp -implicitDefEqProofs -dsimp only [go_sem, *]) | (refine ax.cq (fun _ => ?_) (fun _ => ?_) <;> simp -implicitDefEqProofs -dsimp only [go_sem, *]) | (refine ay.split (fun _ => ?_) (fun _ => ?_) <;> simp -implicitDefEqProofs -dsimp only [go_sem, *]))
 by_cases k2 : k = 2 ∨ k = 3
 · rcases k2 with k2 | k2
   · subst k2
     refine Ctr.intro Tryz.mixed Tryz.func133 rfl Tryz.xk ?_
     refine ev2 @Tryz.ntmps133 @Tryz.results133 ?_
     refine ev1 @ab.v.eq_1 ?_
     repeat' (first | (refine ak.aq ?_ (by rfl); first | rfl | (simp [dv, *]; done)) | ((have ct := n8 w n (by omega); (first | refine al.at ct ⟨leA, leA, trivial⟩ ?_ | refine ah.at ct ⟨leA, leA, trivial⟩ ?_); clear ct); simp -implicitDefEqProofs -dsimp only [go_sem, *]) | (refine ax.bu (fun _ => ?_) (fun _ => ?_) <;> simp -implicitDefEqProofs -dsimp only [go_sem, *]) | (refine ax.cq (fun _ => ?_) (fun _ => ?_) <;> simp -implicitDefEqProofs -dsimp only [go_sem, *]) | (refine ay.split (fun _ => ?_) (fun _ => ?_) <;> simp -implicitDefEqProofs -dsimp only [go_sem, *]))
   · subst k2
     refine Ctr.intro Tryz.mixed Tryz.func133 rfl Tryz.xk ?_
     refine ev2 @Tryz.ntmps133 @Tryz.results133 ?_
     refine ev1 @ab.v.eq_1 ?_
     repeat' (first | (refine ak.aq ?_ (by rfl); first | rfl | (simp [dv, *]; done)) | ((have ct := n8 w n (by omega); (first | refine al.at ct ⟨leA, leA, trivial⟩ ?_ | refine ah.at ct ⟨leA, leA, trivial⟩ ?_); clear ct); simp -implicitDefEqProofs -dsimp only [go_sem, *]) | (refine ax.bu (fun _ => ?_) (fun _ => ?_) <;> simp -implicitDefEqProofs -dsimp only [go_sem, *]) | (refine ax.cq (fun _ => ?_) (fun _ => ?_) <;> simp -implicitDefEqProofs -dsimp only [go_sem, *]) | (refine ay.split (fun _ => ?_) (fun _ => ?_) <;> simp -implicitDefEqProofs -dsimp only [go_sem, *]))
 by_cases k4 : k = 4
 · subst k4
   refine Ctr.intro Tryz.mixed Tryz.func133 rfl Tryz.xk ?_
   refine ev2 @Tryz.ntmps133 @Tryz.results133 ?_
   refine ev1 @ab.v.eq_1 ?_
   repeat' (first | (refine ak.aq ?_ (by rfl); first | rfl | (simp [dv, *]; done)) | ((have ct := n8 w n (by omega); (first | refine al.at ct ⟨leA, leA, trivial⟩ ?_ | refine ah.at ct ⟨leA, leA, trivial⟩ ?_); clear ct); simp -implicitDefEqProofs -dsimp only [go_sem, *]) | (refine ax.bu (fun _ => ?_) (fun _ => ?_) <;> simp -implicitDefEqProofs -dsimp only [go_sem, *]) | (refine ax.cq (fun _ => ?_) (fun _ => ?_) <;> simp -implicitDefEqProofs -dsimp only [go_sem, *]) | (refine ay.split (fun _ => ?_) (fun _ => ?_) <;> simp -implicitDefEqProofs -dsimp only [go_sem, *]))
 by_cases k5 : k = 5
 · subst k5
   refine Ctr.intro Tryz.mixed Tryz.func133 rfl Tryz.xk ?_
   refine ev2 @Tryz.ntmps133 @Tryz.results133 ?_
   refine ev1 @ab.v.eq_1 ?_
   repeat' (first | (refine ak.aq ?_ (by rfl); first | rfl | (simp [dv, *]; done)) | ((have ct := j8 w n (by omega); (first | refine al.at ct ⟨leA, leA, trivial⟩ ?_ | refine ah.at ct ⟨leA, leA, trivial⟩ ?_); clear ct); simp -implicitDefEqProofs -dsimp only [go_sem, *]) | ((first | refine al.at (dy _ _ _) ⟨leA, leA, leA, trivial⟩ ?_ | refine ah.at (dy _ _ _) ⟨leA, leA, leA, trivial⟩ ?_); simp -implicitDefEqProofs -dsimp only [go_sem, *]) | (refine ax.bu (fun _ => ?_) (fun _ => ?_) <;> simp -implicitDefEqProofs -dsimp only [go_sem, *]) | (refine ax.cq (fun _ => ?_) (fun _ => ?_) <;> simp -implicitDefEqProofs -dsimp only [go_sem, *]) | (refine ay.split (fun _ => ?_) (fun _ => ?_) <;> simp -implicitDefEqProofs -dsimp only [go_sem, *]))
 by_cases k6 : k = 6
 · subst k6
   refine Ctr.intro Tryz.mixed Tryz.func133 rfl Tryz.xk ?_
   refine ev2 @Tryz.ntmps133 @Tryz.results133 ?_
   refine ev1 @ab.v.eq_1 ?_
   repeat' (first | (refine ak.aq ?_ (by rfl); first | rfl | (simp [dv, *]; done)) | ((have ct := j8 w n (by omega); (first | refine al.at ct ⟨leA, leA, trivial⟩ ?_ | refine ah.at ct ⟨leA, leA, trivial⟩ ?_); clear ct); simp -implicitDefEqProofs -dsimp only [go_sem, *]) | ((first | refine al.at (dy _ _ _) ⟨leA, leA, leA, trivial⟩ ?_ | refine ah.at (dy _ _ _) ⟨leA, leA, leA, trivial⟩ ?_); simp -implicitDefEqProofs -dsimp only [go_sem, *]) | (refine ax.bu (fun _ => ?_) (fun _ => ?_) <;> simp -implicitDefEqProofs -dsimp only [go_sem, *]) | (refine ax.cq (fun _ => ?_) (fun _ => ?_) <;> simp -implicitDefEqProofs -dsimp only [go_sem, *]) | (refine ay.split (fun _ => ?_) (fun _ => ?_) <;> simp -implicitDefEqProofs -dsimp only [go_sem, *]))
 have b1 : (k == 1) = false := by simp [k1]
 have b2 : (k == 2) = false := by simp at k2; simp [k2]
 have b3 : (k == 3) = false := by simp at k2; simp [k2]
 have b4 : (k == 4) = false := by simp [k4]
 have b5 : (k == 5) = false := by simp [k5]
 have b6 : (k == 6) = false := by simp [k6]
 have e : dv w k n v = ((k == 7 || k == 8) && decide (0 ≤ jn (du n) w.Shocks) && v == 0) := by
  rw [dv, if_neg k1, if_neg k2, if_neg k4, if_neg k5, if_neg k6]
 rw [e]
 clear e k1 k2 k4 k5 k6
 refine Ctr.intro Tryz.mixed Tryz.func133 rfl Tryz.xk ?_
 refine ev2 @Tryz.ntmps133 @Tryz.results133 ?_
 refine ev7 @b1 @b2 @b3 @b4 @b5 @b6 @ab.v.eq_1 ?_
 repeat' (first | (refine ak.aq ?_ (by rfl); first | rfl | (simp [*]; done)) | ((have ct := j8 w n (by omega); (first | refine al.at ct ⟨leA, leA, trivial⟩ ?_ | refine ah.at ct ⟨leA, leA, trivial⟩ ?_); clear ct); simp -implicitDefEqProofs -dsimp only [go_sem, *]) | (refine ax.bu (fun _ => ?_) (fun _ => ?_) <;> simp -implicitDefEqProofs -dsimp only [go_sem, *]) | (refine ax.cq (fun _ => ?_) (fun _ => ?_) <;> simp -implicitDefEqProofs -dsimp only [go_sem, *]) | (refine ay.split (fun _ => ?_) (fun _ => ?_) <;> simp -implicitDefEqProofs -dsimp only [go_sem, *]))
theorem am0 (w : ab) (k n v : Int) (hp : w.Posts.length ≤ 16777216) (hs : w.Shocks.length ≤ 16777216) : Ctr Tryz.prog 144 [w.v, .agg [.int .i64 k, .int .i64 n, .int .i64 v]] [] (.bool (dv w k n v)) [] := by
 by_cases k1 : k = 1
 · subst k1
   refine Ctr.intro Tryz.mixed Tryz.func144 rfl Tryz.yc ?_
   refine ev2 @Tryz.ntmps144 @Tryz.results144 ?_
   refine ev1 @ab.v.eq_1 ?_
   repeat' (first | (refine ak.aq ?_ (by rfl); first | rfl | (simp [dv, *]; done)) | ((have ct := pw w n (by omega); (first | refine al.at ct ⟨leA, leA, trivial⟩ ?_ | refine ah.at ct ⟨leA, leA, trivial⟩ ?_); clear ct); simp -implicitDefEqProofs -dsimp only [go_sem, *]) | (refine ax.bu (fun _ => ?_) (fun _ => ?_) <;> simp -implicitDefEqProofs -dsimp only [go_sem, *]) | (refine ax.cq (fun _ => ?_) (fun _ => ?_) <;> simp -implicitDefEqProofs -dsimp only [go_sem, *]) | (refine ay.split (fun _ => ?_) (fun _ => ?_) <;> simp -implicitDefEqProofs -dsimp only [go_sem, *]))
 by_cases k2 : k = 2 ∨ k = 3
 · rcases k2 with k2 | k2
   · subst k2
     refine Ctr.intro Tryz.mixed Tryz.func144 rfl Tryz.yc ?_
     refine ev2 @Tryz.ntmps144 @Tryz.results144 ?_
     refine ev1 @ab.v.eq_1 ?_
     repeat' (first | (refine ak.aq ?_ (by rfl); first | rfl | (simp [dv, *]; done)) | ((have ct := pw w n (by omega); (first | refine al.at ct ⟨leA, leA, trivial⟩ ?_ | refine ah.at ct ⟨leA, leA, trivial⟩ ?_); clear ct); simp -implicitDefEqProofs -dsimp only [go_sem, *]) | (refine ax.bu (fun _ => ?_) (fun _ => ?_) <;> simp -implicitDefEqProofs -dsimp only [go_sem, *]) | (refine ax.cq (fun _ => ?_) (fun _ => ?_) <;> simp -implicitDefEqProofs -dsimp only [go_sem, *]) | (refine ay.split (fun _ => ?_) (fun _ => ?_) <;> simp -implicitDefEqProofs -dsimp only [go_sem, *]))
   · subst k2
     refine Ctr.intro Tryz.mixed Tryz.func144 rfl Tryz.yc ?_
     refine ev2 @Tryz.ntmps144 @Tryz.results144 ?_
     refine ev1 @ab.v.eq_1 ?_
     repeat' (first | (refine ak.aq ?_ (by rfl); first | rfl | (simp [dv, *]; done)) | ((have ct := pw w n (by omega); (first | refine al.at ct ⟨leA, leA, trivial⟩ ?_ | refine ah.at ct ⟨leA, leA, trivial⟩ ?_); clear ct); simp -implicitDefEqProofs -dsimp only [go_sem, *]) | (refine ax.bu (fun _ => ?_) (fun _ => ?_) <;> simp -implicitDefEqProofs -dsimp only [go_sem, *]) | (refine ax.cq (fun _ => ?_) (fun _ => ?_) <;> simp -implicitDefEqProofs -dsimp only [go_sem, *]) | (refine ay.split (fun _ => ?_) (fun _ => ?_) <;> simp -implicitDefEqProofs -dsimp only [go_sem, *]))
 by_cases k4 : k = 4
 · subst k4
   refine Ctr.intro Tryz.mixed Tryz.func144 rfl Tryz.yc ?_
   refine ev2 @Tryz.ntmps144 @Tryz.results144 ?_
   refine ev1 @ab.v.eq_1 ?_
   repeat' (first | (refine ak.aq ?_ (by rfl); first | rfl | (simp [dv, *]; done)) | ((have ct := pw w n (by omega); (first | refine al.at ct ⟨leA, leA, trivial⟩ ?_ | refine ah.at ct ⟨leA, leA, trivial⟩ ?_); clear ct); simp -implicitDefEqProofs -dsimp only [go_sem, *]) | (refine ax.bu (fun _ => ?_) (fun _ => ?_) <;> simp -implicitDefEqProofs -dsimp only [go_sem, *]) | (refine ax.cq (fun _ => ?_) (fun _ => ?_) <;> simp -implicitDefEqProofs -dsimp only [go_sem, *]) | (refine ay.split (fun _ => ?_) (fun _ => ?_) <;> simp -implicitDefEqProofs -dsimp only [go_sem, *]))
 by_cases k5 : k = 5
 · subst k5
   refine Ctr.intro Tryz.mixed Tryz.func144 rfl Tryz.yc ?_
   refine ev2 @Tryz.ntmps144 @Tryz.results144 ?_
   refine ev1 @ab.v.eq_1 ?_
   repeat' (first | (refine ak.aq ?_ (by rfl); first | rfl | (simp [dv, *]; done)) | ((have ct := j5 w n (by omega); (first | refine al.at ct ⟨leA, leA, trivial⟩ ?_ | refine ah.at ct ⟨leA, leA, trivial⟩ ?_); clear ct); simp -implicitDefEqProofs -dsimp only [go_sem, *]) | ((first | refine al.at (mr _) ⟨leA, trivial⟩ ?_ | refine ah.at (mr _) ⟨leA, trivial⟩ ?_); simp -implicitDefEqProofs -dsimp only [go_sem, *]) | (refine ax.bu (fun _ => ?_) (fun _ => ?_) <;> simp -implicitDefEqProofs -dsimp only [go_sem, *]) | (refine ax.cq (fun _ => ?_) (fun _ => ?_) <;> simp -implicitDefEqProofs -dsimp only [go_sem, *]) | (refine ay.split (fun _ => ?_) (fun _ => ?_) <;> simp -implicitDefEqProofs -dsimp only [go_sem, *]))
 by_cases k6 : k = 6
 · subst k6
   refine Ctr.intro Tryz.mixed Tryz.func144 rfl Tryz.yc ?_
   refine ev2 @Tryz.ntmps144 @Tryz.results144 ?_
   refine ev1 @ab.v.eq_1 ?_
   repeat' (first | (refine ak.aq ?_ (by rfl); first | rfl | (simp [dv, *]; done)) | ((have ct := j5 w n (by omega); (first | refine al.at ct ⟨leA, leA, trivial⟩ ?_ | refine ah.at ct ⟨leA, leA, trivial⟩ ?_); clear ct); simp -implicitDefEqProofs -dsimp only [go_sem, *]) | ((first | refine al.at (j1 _ _ _) ⟨leA, leA, leA, trivial⟩ ?_ | refine ah.at (j1 _ _ _) ⟨leA, leA, leA, trivial⟩ ?_); simp -implicitDefEqProofs -dsimp only [go_sem, *]) | (refine ax.bu (fun _ => ?_) (fun _ => ?_) <;> simp -implicitDefEqProofs -dsimp only [go_sem, *]) | (refine ax.cq (fun _ => ?_) (fun _ => ?_) <;> simp -implicitDefEqProofs -dsimp only [go_sem, *]) | (refine ay.split (fun _ => ?_) (fun _ => ?_) <;> simp -implicitDefEqProofs -dsimp only [go_sem, *]))
 have b1 : (k == 1) = false := by simp [k1]
 have b2 : (k == 2) = false := by simp at k2; simp [k2]
 have b3 : (k == 3) = false := by simp at k2; simp [k2]
 have b4 : (k == 4) = false := by simp [k4]
 have b5 : (k == 5) = false := by simp [k5]
 have b6 : (k == 6) = false := by simp [k6]
 have e : dv w k n v = (ez k 7 8 && decide (0 ≤ jn (du n) w.Shocks) && v == 0) := by
  rw [dv, if_neg k1, if_neg k2, if_neg k4, if_neg k5, if_neg k6]
  congr 2
  rw [Bool.eq_iff_iff]; simp [ez]; omega
 rw [e]
 clear e k1 k2 k4 k5 k6
 refine Ctr.intro Tryz.mixed Tryz.func144 rfl Tryz.yc ?_
 refine ev2 @Tryz.ntmps144 @Tryz.results144 ?_
 refine ev7 @b1 @b2 @b3 @b4 @b5 @b6 @ab.v.eq_1 ?_
 repeat' (first | (refine ak.aq ?_ (by rfl); first | rfl | (simp [*]; done)) | ((first | refine al.at (j1 _ _ _) ⟨leA, leA, leA, trivial⟩ ?_ | refine ah.at (j1 _ _ _) ⟨leA, leA, leA, trivial⟩ ?_); simp -implicitDefEqProofs -dsimp only [go_sem, *]) | ((have ct := j5 w n (by omega); (first | refine al.at ct ⟨leA, leA, trivial⟩ ?_ | refine ah.at ct ⟨leA, leA, trivial⟩ ?_); clear ct); simp -implicitDefEqProofs -dsimp only [go_sem, *]) | (refine ax.bu (fun _ => ?_) (fun _ => ?_) <;> simp -implicitDefEqProofs -dsimp only [go_sem, *]) | (refine ax.cq (fun _ => ?_) (fun _ => ?_) <;> simp -implicitDefEqProofs -dsimp only [go_sem, *]) | (refine ay.split (fun _ => ?_) (fun _ => ?_) <;> simp -implicitDefEqProofs -dsimp only [go_sem, *]))
theorem jq (w : ab) (hp : w.Posts.length ≤ 16777216) (hs : w.Shocks.length ≤ 16777216) : Ctr Tryz.prog 76 [w.v] [] (w.o 0 1) [some (rows bf.cs w.Posts), some (rows ai.cs w.Shocks)] := by
 refine Ctr.intro Tryz.mixed Tryz.func76 rfl Tryz.a26 ?_
 refine ev2 @Tryz.ntmps76 @Tryz.results76 ?_
 refine ev1 @ab.v.eq_1 ?_
 refine chT.intro [true, true, false, true, true, false, false, true, true, false, true, true, true, true, false, false] [true, true, true, true, true, true, true, true, true, true, true, true, true, true, false, false] [none, none, some ⟨none, 5, 24, []⟩, none, none, some ⟨some 2, 8, 24, [7]⟩, some ⟨none, 9, 25, []⟩, none, none, some ⟨some 6, 12, 25, [11]⟩, none, none, none, none, none, none] [⟨5, 8, 24, [7]⟩, ⟨9, 12, 25, [11]⟩] (by kernel_rfl) (by rfl) ?_
 refine ev0 ?_
 repeat (with_reducible refine df ?_)
 refine ⟨⟨by omega, by omega, ly _ _⟩, bh _, ⟨by omega, by omega, ly _ _⟩, ?_⟩
 refine ak.pick [2, 3] (by decide) (fun j hj => by omega) (.inl ?_) ?_
 · first | rfl | (simp [ren, bc, posOf, ab.o]; done)
 · simp only [az, List.map_cons, List.map_nil, bg, List.getElem?_cons_zero, List.getElem?_cons_succ, ae]
theorem ahf (n t : Int) (x : ai) (k m v : Int) (hx : kq n t x = true) (hk : k = 5 ∨ k = 6 ∨ k = 7) (hv : -100 ≤ v ∧ v ≤ 100) : Ctr Tryz.prog 166 [x.v, .agg [.int .i64 k, .int .i64 m, .int .i64 v]] [] (.tup [(vr x k v).v, .bool (aay x k)]) [] := by
 have hb := gb.1 hx
 have hw : IntKind.i64.wrap (x.Size + v) = x.Size + v := wrap_i64 (by omega) (by omega)
 rcases hk with hk | hk | hk
 · subst hk
   refine Ctr.intro Tryz.mixed Tryz.func166 rfl Tryz.aj3 ?_
   refine ev2 @Tryz.ntmps166 @Tryz.results166 ?_
   refine rn2 @ai.v.eq_1 @hw ?_
   refine o8.path [true, true, true, true, true, true, true, true, true, false, false] [false, false, false, false, false, true, true, true, true, false, false] 1 [2] (by kernel_rfl) ?_
   refine rn2 @ai.v.eq_1 @hw ?_
   repeat' (first | (refine ak.aq ?_ (by rfl); first | rfl | (simp [vr, aay, ai.v, *]; done)) | (refine ax.bu (fun _ => ?_) (fun _ => ?_) <;> (repeat ((repeat1' (first | simp -implicitDefEqProofs -dsimp only [go_sem, *] | simp -dsimp (disch := omega) only [wrap_i64])); repeat (with_reducible refine df ?_)))) | (refine ax.cq (fun _ => ?_) (fun _ => ?_) <;> (repeat ((repeat1' (first | simp -implicitDefEqProofs -dsimp only [go_sem, *] | simp -dsimp (disch := omega) only [wrap_i64])); repeat (with_reducible refine df ?_)))))
 · subst hk
   refine Ctr.intro Tryz.mixed Tryz.func166 rfl Tryz.aj3 ?_
   refine ev2 @Tryz.ntmps166 @Tryz.results166 ?_
   refine rn2 @ai.v.eq_1 @hw ?_
   refine o8.path [true, true, true, true, false, false] [false, true, true, true, false, false] 1 [2] (by kernel_rfl) ?_
   refine rn2 @ai.v.eq_1 @hw ?_
   repeat' (first | (refine ak.aq ?_ (by rfl); first | rfl | (simp [vr, aay, ai.v, *]; done)) | (refine ax.bu (fun _ => ?_) (fun _ => ?_) <;> (repeat ((repeat1' (first | simp -implicitDefEqProofs -dsimp only [go_sem, *] | simp -dsimp (disch := omega) only [wrap_i64])); repeat (with_reducible refine df ?_)))) | (refine ax.cq (fun _ => ?_) (fun _ => ?_) <;> (repeat ((repeat1' (first | simp -implicitDefEqProofs -dsimp only [go_sem, *] | simp -dsimp (disch := omega) only [wrap_i64])); repeat (with_reducible refine df ?_)))))
 · subst hk
   refine Ctr.intro Tryz.mixed Tryz.func166 rfl Tryz.aj3 ?_
   refine ev2 @Tryz.ntmps166 @Tryz.results166 ?_
   refine rn2 @ai.v.eq_1 @hw ?_
   refine o8.path [true, true, true, true, true, true, true, true, true, true, true, true, true, true, false, false] [false, false, false, false, false, false, false, false, false, true, true, true, true, true, false, false] 1 [2] (by kernel_rfl) ?_
   refine rn2 @ai.v.eq_1 @hw ?_
   repeat' (first | (refine ak.aq ?_ (by rfl); first | rfl | (simp [vr, aay, ai.v, *]; done)) | (refine ax.bu (fun _ => ?_) (fun _ => ?_) <;> (repeat ((repeat1' (first | simp -implicitDefEqProofs -dsimp only [go_sem, *] | simp -dsimp (disch := omega) only [wrap_i64])); repeat (with_reducible refine df ?_)))) | (refine ax.cq (fun _ => ?_) (fun _ => ?_) <;> (repeat ((repeat1' (first | simp -implicitDefEqProofs -dsimp only [go_sem, *] | simp -dsimp (disch := omega) only [wrap_i64])); repeat (with_reducible refine df ?_)))))
theorem ap1 (w : ab) (hp : w.Posts.length ≤ 16777216) : Ctr Tryz.prog 164 [w.v] [] (.int .i64 (upN w w.Posts.length : Int)) [] := by
 have hlen : ∀ i, upN w i ≤ i := fun i => Nat.le_trans (List.length_filter_le _ _) (by simp; omega)
 refine Ctr.intro Tryz.mixed Tryz.func164 rfl Tryz.aw9 ?_
 refine ev2 @Tryz.ntmps164 @Tryz.results164 ?_
 refine ev1 @ab.v.eq_1 ?_
 refine dr.intro (fun i : Nat => i ≤ w.Posts.length) (fun i => ⟨(.undef :: .ptr 0 0 :: .undef :: .int .i64 (upN w i : Int) :: .int .i64 i :: (un 16 [])), [some w.cs], 0⟩) (fun i => w.Posts.length - i) 0 (Nat.zero_le _) ?_ (fun i hi => ?_)
 · refine au.cut (1) (by simp) (by simp) ?_ ?_
   · simp [LeC, LeV, ren, bq, upN]
   · simp [bz, cw, ren, ae, ab.cs]
 refine ev1 @ab.cs.eq_1 ?_
 refine ay.split (fun h1 => ?_) (fun h1 => ?_)
 · refine ev2 @h1 @ab.cs.eq_1 ?_
   have hi' : i < w.Posts.length := by simpa using h1
   have hr := bw bf.csl hi'
   have hll := hlen i
   have hs : upN w (i + 1) = upN w i + (if w.Posts[i].Up then 1 else 0) := by
    rw [upN, upN, List.take_succ_eq_append_getElem hi', List.filter_append, List.length_append]
    congr 1
    cases h : w.Posts[i].Up <;> simp [h]
   refine rn3 @hr @bf.cs.eq_1 @ab.cs.eq_1 ?_
   refine ay.split (fun h2 => ?_) (fun h2 => ?_) <;> refine rn1 @h2 ?_
   · refine ⟨i + 1, hi', ?_, by omega⟩
     rw [hs, h2]
     refine au.cut (1) (by simp) (by simp) ?_ ?_
     · simp [LeC, LeV, ren, bq]
     · simp [bz, cw, ren, ae, ab.cs]
   · refine ⟨i + 1, hi', ?_, by omega⟩
     rw [hs, h2]
     refine au.cut (1) (by simp) (by simp) ?_ ?_
     · simp [LeC, LeV, ren, bq]
     · simp [bz, cw, ren, ae, ab.cs]
 · refine ev1 @h1 ?_
   have hi' : i = w.Posts.length := by simp at h1; omega
   subst hi'
   exact ak.aq rfl (by rfl)
end Go.Proofs
end
section
set_option maxRecDepth 100000
set_option maxHeartbeats 1000000
namespace Go.Proofs
open Go.Lv
def jj (w : ab) (i : Nat) : ab := ⟨w.Now, w.Posts, w.Shocks.take i ++ w.Shocks.drop (i + 1), w.Next, w.Archived + 1⟩
theorem ael (w : ab) (i : Nat) (hw : wB w = true) (hi : i < w.Shocks.length) : Ctr Tryz.prog 165 [w.v, .int .i64 i] [] (.tup [(jj w i).o 0 1, .bool (ad0 w (akp w i))]) [some (rows bf.cs w.Posts), some (rows ai.cs (w.Shocks.take i ++ w.Shocks.drop (i + 1)))] := by
 have W := ey hw
 have hr := bw ai.csl hi
 have pl := W.plen
 have sl := W.slen
 refine Ctr.intro Tryz.mixed Tryz.func165 rfl Tryz.axb ?_
 refine ev2 @Tryz.ntmps165 @Tryz.results165 ?_
 refine ev1 @ab.v.eq_1 ?_
 refine o8.path [true, true, true, true, true, true, true, true, true, false, false] [false, false, true, true, true, true, true, false, false, false, false] 1 [4] (by kernel_rfl) ?_
 refine ev0 ?_
 (have ct := jq w (by omega) (by omega); (first | refine al.at ct ⟨leA, trivial⟩ ?_ | refine ah.at ct ⟨leA, trivial⟩ ?_); clear ct)
 refine rn3 @ab.o.eq_1 @hr @ai.cs.eq_1 ?_
 refine chT.intro [false, true, true, true, true, false, true, true, true, true, true, false, true, false] [true, true, true, true, true, true, true, true, true, true, true, true, true, false] [some ⟨none, 15, 25, []⟩, none, none, none, none, some ⟨some 0, 20, 25, [19]⟩, none, none, none, none, none, some ⟨some 5, 26, 25, [19, 25]⟩, none, none] [⟨11, 26, 25, [19, 25]⟩] (by kernel_rfl) (by rfl) ?_
 have hwi : IntKind.i64.wrap ((i : Int) + 1) = ((i + 1 : Nat) : Int) := by rw [wrap_i64 (by omega) (by omega)]; omega
 have ht := afp ai.csl w.Shocks i
 have hd := w4 ai.csl w.Shocks (i + 1)
 have hap : rows ai.cs (w.Shocks.take i) ++ rows ai.cs (w.Shocks.drop (i + 1)) = rows ai.cs (w.Shocks.take i ++ w.Shocks.drop (i + 1)) := (jb _ _).symm
 have hln : i + (w.Shocks.length - (i + 1)) = (w.Shocks.take i ++ w.Shocks.drop (i + 1)).length := by simp; omega
 refine rn6 @hwi @Nat.sub_zero @ht @hd @hap @hln ?_
 refine ⟨⟨by omega, by omega, ly _ _⟩, ?_⟩
 have hwa : IntKind.i64.wrap (w.Archived + 1) = w.Archived + 1 := by have := W.arch; exact wrap_i64 (by omega) (by omega)
 refine o8.path [true, true, true, true, true, true, true, true, true, true, true, true, true, true, true, true, true, false, false] [false, false, false, false, false, false, false, false, false, true, true, true, true, true, true, true, true, false, false] 1 [1] (by kernel_rfl) ?_
 refine rn1 @hwa ?_
 have hx := W.shocks _ (List.getElem_mem hi)
 have hxb := gb.1 hx
 have hwn : IntKind.i64.wrap (w.Now - w.Shocks[i].Tick) = w.Now - w.Shocks[i].Tick := by have := W.now; exact wrap_i64 (by omega) (by omega)
 repeat' (first | (refine ax.bu (fun _ => ?_) (fun _ => ?_) <;> (repeat ((repeat1' (first | simp -implicitDefEqProofs -dsimp only [go_sem, *] | simp -dsimp (disch := omega) only [wrap_i64])); repeat (with_reducible refine df ?_)))) | (refine ax.cq (fun _ => ?_) (fun _ => ?_) <;> (repeat ((repeat1' (first | simp -implicitDefEqProofs -dsimp only [go_sem, *] | simp -dsimp (disch := omega) only [wrap_i64])); repeat (with_reducible refine df ?_)))))
 all_goals
  refine ak.pick [2, 6] (by decide) (fun j hj => by omega) (.inl ?_) ?_
  · simp [ren, bc, posOf, jj, ad0, zw hi, *]
  · simp only [az, List.map_cons, List.map_nil, bg, List.getElem?_cons_zero, List.getElem?_cons_succ, ae]
end Go.Proofs
end
section
set_option maxRecDepth 100000
set_option maxHeartbeats 1000000
namespace Go.Proofs
open Go.Lv
theorem bd {x y : V} (h : LeV x y := by first | exact leA | exact ab.le rfl rfl) : LeV x y := h
def eh (w : ab) (k n v : Int) : Bool := o6 w k n v && wB (fo w k n v)
theorem ajz (w : ab) (n v : Int) (hw : wB w = true) (hv : 1 ≤ v) (hv2 : v ≤ 9223372036854775807) : Ctr Tryz.prog 134 [w.v, .agg [.int .i64 1, .int .i64 n, .int .i64 v]] [] (.tup [(fx w 1 n v).o 0 1, .bool (eh w 1 n v)]) [some (rows bf.cs w.Posts), some (rows ai.cs w.Shocks)] := by
 have W := ey hw
 have pl := W.plen
 have sl := W.slen
 have wn := W.now
 have hw1 : IntKind.i64.wrap (1000000 - w.Now) = 1000000 - w.Now := wrap_i64 (by omega) (by omega)
 refine Ctr.intro Tryz.mixed Tryz.func134 rfl Tryz.vh ?_
 refine ev2 @Tryz.ntmps134 @Tryz.results134 ?_
 refine ev1 @ab.v.eq_1 ?_
 (have ct := jq w (by omega) (by omega); (first | refine al.at ct ⟨bd, trivial⟩ ?_ | refine ah.at ct ⟨bd, trivial⟩ ?_); clear ct)
 refine rn2 @ab.o.eq_1 @hw1 ?_
 refine ay.split (fun h1 => ?_) (fun h1 => ?_)
 · refine rn1 @h1 ?_
   have hm : ¬ v ≤ 1000000 - w.Now := by simp at h1; omega
   have e1 : fx w 1 n v = w := by simp [fx, hm]
   have e2 : eh w 1 n v = false := by simp [eh, o6, hm]
   rw [e1, e2]
   refine ak.pick [3, 4] (by decide) (fun j hj => by omega) (.inl ?_) ?_
   · first | rfl | (simp [ren, bc, posOf, ab.o]; done)
   · simp only [az, List.map_cons, List.map_nil, bg, List.getElem?_cons_zero, List.getElem?_cons_succ, ae]
 · have hm : v ≤ 1000000 - w.Now := by simp at h1; omega
   have hw2 : IntKind.i64.wrap (w.Now + v) = w.Now + v := wrap_i64 (by omega) (by omega)
   have e1 : fx w 1 n v = fo w 1 n v := by simp [fx, hm]
   have e3 : fo w 1 n v = ⟨w.Now + v, w.Posts, w.Shocks, w.Next, w.Archived⟩ := by simp [fo]
   have e2 : eh w 1 n v = wB ⟨w.Now + v, w.Posts, w.Shocks, w.Next, w.Archived⟩ := by simp [eh, o6, hm, e3]
   rw [e1, e2, e3]
   refine rn2 @h1 @hw2 ?_
   (have ct := eg ⟨w.Now + v, w.Posts, w.Shocks, w.Next, w.Archived⟩ (by simp; omega) (by simp; omega); (first | refine al.at ct ⟨bd, trivial⟩ ?_ | refine ah.at ct ⟨bd, trivial⟩ ?_); clear ct)
   refine rn0 ?_
   refine ak.pick [3, 4] (by decide) (fun j hj => by omega) (.inl ?_) ?_
   · first | rfl | (simp [ren, bc, posOf, ab.o]; done)
   · simp only [az, List.map_cons, List.map_nil, bg, List.getElem?_cons_zero, List.getElem?_cons_succ, ae]
theorem aim (w : ab) (k n v : Int) (hk : k = 2 ∨ k = 3) (hw : wB w = true) (hs : dv w k n v = true) : Ctr Tryz.prog 134 [w.v, .agg [.int .i64 k, .int .i64 n, .int .i64 v]] [] (.tup [(fx w k n v).o 0 1, .bool (eh w k n v)]) [some (rows bf.cs (fx w k n v).Posts), some (rows ai.cs w.Shocks)] := by
 have W := ey hw
 have pl := W.plen
 have sl := W.slen
 obtain ⟨i, hi, hix, hin⟩ : ∃ i, ∃ h : i < w.Posts.length, jn (ks n) w.Posts = (i : Int) ∧ ks n w.Posts[i] = true := by
  have : decide (0 ≤ jn (ks n) w.Posts) = true := by
   rcases hk with rfl | rfl <;> simp [dv] at hs <;> simp [hs.1]
  exact s4 this
 have hp : pAt w n = i := by simp [pAt, hix]
 have e1 : fx w k n v = ⟨w.Now, w.Posts.set i ⟨n, decide (k = 3), w.Now⟩, w.Shocks, w.Next, w.Archived⟩ := by
  rcases hk with rfl | rfl <;> simp [fx, fo, hp]
 have e2 : eh w k n v = (w.Posts[i].Up != decide (k = 3) && wB ⟨w.Now, w.Posts.set i ⟨n, decide (k = 3), w.Now⟩, w.Shocks, w.Next, w.Archived⟩) := by
  rcases hk with rfl | rfl <;> simp [eh, o6, fo, hp, ah2 hi]
 have hr := bw bf.csl hi
 have hsp : ∀ b, dp (rows bf.cs w.Posts) (i * 3) [.int .i64 n, .bool b, .int .i64 w.Now] = rows bf.cs (w.Posts.set i ⟨n, b, w.Now⟩) := fun b => n7 (cs := bf.cs) bf.csl hi ⟨n, b, w.Now⟩
 have hgood := eg ⟨w.Now, w.Posts.set i ⟨n, decide (k = 3), w.Now⟩, w.Shocks, w.Next, w.Archived⟩ (by simp; omega) (by simp; omega)
 rw [e1, e2]
 have hlen : ∀ p, (w.Posts.set i p).length = w.Posts.length := fun p => by simp
 rcases hk with rfl | rfl
 · have hd : decide ((2 : Int) = 3) = false := rfl
   rw [hd] at hgood ⊢
   simp only [ab.v, hlen] at hgood
   simp only [ab.o, hlen]
   refine Ctr.intro Tryz.mixed Tryz.func134 rfl Tryz.vh ?_
   refine ev2 @Tryz.ntmps134 @Tryz.results134 ?_
   refine ev1 @ab.v.eq_1 ?_
   (have ct := jq w (by omega) (by omega); (first | refine al.at ct ⟨bd, trivial⟩ ?_ | refine ah.at ct ⟨bd, trivial⟩ ?_); clear ct)
   refine rn1 @ab.o.eq_1 ?_
   (have ct := n8 w n (by omega); (first | refine al.at ct ⟨bd, bd, trivial⟩ ?_ | refine ah.at ct ⟨bd, bd, trivial⟩ ?_); clear ct)
   rw [hix]
   refine rn2 @hr @bf.cs.eq_1 ?_
   refine ax.bu (fun g => ?_) (fun g => ?_) <;> refine rn3 @g @hsp @Int.toNat_natCast ?_
   · skip
     (first | refine al.at (hgood) ⟨bd, trivial⟩ ?_ | refine ah.at (hgood) ⟨bd, trivial⟩ ?_)
     refine rn1 @g ?_
     simp at g
     refine ak.pick [3, 4] (by decide) (fun j hj => by omega) (.inl ?_) ?_
     · first | rfl | (simp [ren, bc, posOf, ab.o, g]; done)
     · simp only [az, List.map_cons, List.map_nil, bg, List.getElem?_cons_zero, List.getElem?_cons_succ, ae]
   · skip
     simp at g
     refine ak.pick [3, 4] (by decide) (fun j hj => by omega) (.inl ?_) ?_
     · first | rfl | (simp [ren, bc, posOf, ab.o, g]; done)
     · simp only [az, List.map_cons, List.map_nil, bg, List.getElem?_cons_zero, List.getElem?_cons_succ, ae]
 · have hd : decide ((3 : Int) = 3) = true := rfl
   rw [hd] at hgood ⊢
   simp only [ab.v, hlen] at hgood
   simp only [ab.o, hlen]
   refine Ctr.intro Tryz.mixed Tryz.func134 rfl Tryz.vh ?_
   refine ev2 @Tryz.ntmps134 @Tryz.results134 ?_
   refine ev1 @ab.v.eq_1 ?_
   (have ct := jq w (by omega) (by omega); (first | refine al.at ct ⟨bd, trivial⟩ ?_ | refine ah.at ct ⟨bd, trivial⟩ ?_); clear ct)
   refine rn1 @ab.o.eq_1 ?_
   (have ct := n8 w n (by omega); (first | refine al.at ct ⟨bd, bd, trivial⟩ ?_ | refine ah.at ct ⟨bd, bd, trivial⟩ ?_); clear ct)
   rw [hix]
   refine rn2 @hr @bf.cs.eq_1 ?_
   refine ax.bu (fun g => ?_) (fun g => ?_) <;> refine rn3 @g @hsp @Int.toNat_natCast ?_
   · skip
     (first | refine al.at (hgood) ⟨bd, trivial⟩ ?_ | refine ah.at (hgood) ⟨bd, trivial⟩ ?_)
     refine rn1 @g ?_
     simp at g
     refine ak.pick [3, 4] (by decide) (fun j hj => by omega) (.inl ?_) ?_
     · first | rfl | (simp [ren, bc, posOf, ab.o, g]; done)
     · simp only [az, List.map_cons, List.map_nil, bg, List.getElem?_cons_zero, List.getElem?_cons_succ, ae]
   · skip
     simp at g
     refine ak.pick [3, 4] (by decide) (fun j hj => by omega) (.inl ?_) ?_
     · first | rfl | (simp [ren, bc, posOf, ab.o, g]; done)
     · simp only [az, List.map_cons, List.map_nil, bg, List.getElem?_cons_zero, List.getElem?_cons_succ, ae]
theorem ais (w : ab) (n v : Int) (hw : wB w = true) : Ctr Tryz.prog 134 [w.v, .agg [.int .i64 4, .int .i64 n, .int .i64 v]] [] (.tup [(fx w 4 n v).o 0 1, .bool (eh w 4 n v)]) [some (rows bf.cs w.Posts), some (rows ai.cs (fx w 4 n v).Shocks)] := by
 have W := ey hw
 have pl := W.plen
 have sl := W.slen
 have wn := W.next
 have hwn : IntKind.i64.wrap (w.Next + 1) = w.Next + 1 := wrap_i64 (by omega) (by omega)
 obtain ⟨x, hx⟩ : ∃ x : ai, x = ⟨w.Next, 0, (upN w w.Posts.length : Int), 0, w.Now⟩ := ⟨_, rfl⟩
 have e1 : fx w 4 n v = ⟨w.Now, w.Posts, w.Shocks ++ [x], w.Next + 1, w.Archived⟩ := by simp [fx, fo, hx]
 have e2 : eh w 4 n v = wB ⟨w.Now, w.Posts, w.Shocks ++ [x], w.Next + 1, w.Archived⟩ := by simp [eh, o6, fo, hx]
 have hsn : rows ai.cs w.Shocks ++ [.int .i64 w.Next, .int .i64 0, .int .i64 (upN w w.Posts.length : Int), .int .i64 0, .int .i64 w.Now] = rows ai.cs (w.Shocks ++ [x]) := by
  rw [hx]
  exact dw (cs := ai.cs) w.Shocks ⟨w.Next, 0, (upN w w.Posts.length : Int), 0, w.Now⟩
 have hln : w.Shocks.length + 1 = (w.Shocks ++ [x]).length := by simp
 have hgood := eg ⟨w.Now, w.Posts, w.Shocks ++ [x], w.Next + 1, w.Archived⟩ (by simp; omega) (by simp; omega)
 rw [e1, e2]
 refine Ctr.intro Tryz.mixed Tryz.func134 rfl Tryz.vh ?_
 refine ev2 @Tryz.ntmps134 @Tryz.results134 ?_
 refine ev1 @ab.v.eq_1 ?_
 (have ct := jq w (by omega) (by omega); (first | refine al.at ct ⟨bd, trivial⟩ ?_ | refine ah.at ct ⟨bd, trivial⟩ ?_); clear ct)
 refine rn1 @ab.o.eq_1 ?_
 (have ct := ap1 w (by omega); (first | refine al.at ct ⟨bd, trivial⟩ ?_ | refine ah.at ct ⟨bd, trivial⟩ ?_); clear ct)
 refine rn3 @hwn @hsn @hln ?_
 (first | refine al.at (hgood) ⟨bd, trivial⟩ ?_ | refine ah.at (hgood) ⟨bd, trivial⟩ ?_)
 refine rn1 @hsn ?_
 refine ak.pick [3, 4] (by decide) (fun j hj => by omega) (.inl ?_) ?_
 · first | rfl | (simp [ren, bc, posOf, ab.o]; done)
 · simp only [az, List.map_cons, List.map_nil, bg, List.getElem?_cons_zero, List.getElem?_cons_succ, ae]
theorem ahy (w : ab) (n v : Int) (hw : wB w = true) (hs : dv w 8 n v = true) : Ctr Tryz.prog 134 [w.v, .agg [.int .i64 8, .int .i64 n, .int .i64 v]] [] (.tup [(fx w 8 n v).o 0 1, .bool (eh w 8 n v)]) [some (rows bf.cs w.Posts), some (rows ai.cs (fx w 8 n v).Shocks)] := by
 have W := ey hw
 have pl := W.plen
 have sl := W.slen
 obtain ⟨i, hi, hix, hin⟩ : ∃ i, ∃ h : i < w.Shocks.length, jn (du n) w.Shocks = (i : Int) ∧ du n w.Shocks[i] = true := by
  have : decide (0 ≤ jn (du n) w.Shocks) = true := by
   simp [dv] at hs
   simp [hs.1]
  exact s4 this
 have hp : sAt w n = i := by simp [sAt, hix]
 have e1 : fx w 8 n v = jj w i := by simp [fx, fo, jj, hp]
 have e2 : eh w 8 n v = (ad0 w (akp w i) && wB (jj w i)) := by simp [eh, o6, fo, jj, hp]
 have hgood := eg (jj w i) (by simp [jj]; omega) (by simp [jj]; omega)
 have harch := ael w i hw hi
 have e3 : (jj w i).Shocks = w.Shocks.take i ++ w.Shocks.drop (i + 1) := rfl
 rw [e1, e2, e3]
 refine Ctr.intro Tryz.mixed Tryz.func134 rfl Tryz.vh ?_
 refine ev2 @Tryz.ntmps134 @Tryz.results134 ?_
 refine ev1 @ab.v.eq_1 ?_
 (have ct := jq w (by omega) (by omega); (first | refine al.at ct ⟨bd, trivial⟩ ?_ | refine ah.at ct ⟨bd, trivial⟩ ?_); clear ct)
 refine rn1 @ab.o.eq_1 ?_
 (have ct := j8 w n (by omega); (first | refine al.at ct ⟨bd, bd, trivial⟩ ?_ | refine ah.at ct ⟨bd, bd, trivial⟩ ?_); clear ct)
 rw [hix]
 refine rn0 ?_
 (first | refine al.at (harch) ⟨bd, bd, trivial⟩ ?_ | refine ah.at (harch) ⟨bd, bd, trivial⟩ ?_)
 refine rn1 @ab.o.eq_1 ?_
 refine ax.bu (fun g => ?_) (fun g => ?_) <;> refine rn1 @g ?_
 · skip
   (first | refine al.at (hgood) ⟨bd, trivial⟩ ?_ | refine ah.at (hgood) ⟨bd, trivial⟩ ?_)
   refine rn1 @g ?_
   refine ak.pick [6, 7] (by decide) (fun j hj => by omega) (.inl ?_) ?_
   · first | rfl | (simp [ren, bc, posOf, ab.o, g, jj]; done)
   · simp only [az, List.map_cons, List.map_nil, bg, List.getElem?_cons_zero, List.getElem?_cons_succ, ae]
 · skip
   refine ak.pick [6, 7] (by decide) (fun j hj => by omega) (.inl ?_) ?_
   · first | rfl | (simp [ren, bc, posOf, ab.o, g, jj]; done)
   · simp only [az, List.map_cons, List.map_nil, bg, List.getElem?_cons_zero, List.getElem?_cons_succ, ae]
theorem ahx (w : ab) (k n v : Int) (hk : k = 5 ∨ k = 6 ∨ k = 7) (hw : wB w = true) (hs : dv w k n v = true) (hv : -100 ≤ v ∧ v ≤ 100) : Ctr Tryz.prog 134 [w.v, .agg [.int .i64 k, .int .i64 n, .int .i64 v]] [] (.tup [(fx w k n v).o 0 1, .bool (eh w k n v)]) [some (rows bf.cs w.Posts), some (rows ai.cs (fx w k n v).Shocks)] := by
 have W := ey hw
 have pl := W.plen
 have sl := W.slen
 obtain ⟨i, hi, hix, hin⟩ : ∃ i, ∃ h : i < w.Shocks.length, jn (du n) w.Shocks = (i : Int) ∧ du n w.Shocks[i] = true := by
  have : decide (0 ≤ jn (du n) w.Shocks) = true := by
   rcases hk with rfl | rfl | rfl <;> simp [dv] at hs <;> simp [hs]
  exact s4 this
 have hp : sAt w n = i := by simp [sAt, hix]
 have hsh := zw hi
 have e1 : fx w k n v = ⟨w.Now, w.Posts, w.Shocks.set i (vr w.Shocks[i] k v), w.Next, w.Archived⟩ := by
  rcases hk with rfl | rfl | rfl <;> simp [fx, fo, hp, hsh]
 have e2 : eh w k n v = (aay w.Shocks[i] k && wB ⟨w.Now, w.Posts, w.Shocks.set i (vr w.Shocks[i] k v), w.Next, w.Archived⟩) := by
  rcases hk with rfl | rfl | rfl <;> simp [eh, o6, fo, hp, hsh]
 have hr := bw ai.csl hi
 have hchg := ahf w.Next w.Now w.Shocks[i] k n v (W.shocks _ (List.getElem_mem hi)) hk hv
 have hlen : ∀ p, (w.Shocks.set i p).length = w.Shocks.length := fun p => by simp
 have hgood := eg ⟨w.Now, w.Posts, w.Shocks.set i (vr w.Shocks[i] k v), w.Next, w.Archived⟩ (by simp; omega) (by simp; omega)
 generalize vr w.Shocks[i] k v = y at e1 e2 hchg hgood
 have hsp : dp (rows ai.cs w.Shocks) (i * 5) [.int .i64 y.Number, .int .i64 y.State, .int .i64 y.Seen, .int .i64 y.Size, .int .i64 y.Tick] = rows ai.cs (w.Shocks.set i y) := n7 (cs := ai.cs) ai.csl hi y
 rw [e1, e2]
 clear e1 e2
 simp only [ab.v, hlen] at hgood
 simp only [ab.o, hlen]
 generalize aay w.Shocks[i] k = b at *
 rcases hk with rfl | rfl | rfl
 · skip
   refine Ctr.intro Tryz.mixed Tryz.func134 rfl Tryz.vh ?_
   refine ev2 @Tryz.ntmps134 @Tryz.results134 ?_
   refine ev1 @ab.v.eq_1 ?_
   (have ct := jq w (by omega) (by omega); (first | refine al.at ct ⟨bd, trivial⟩ ?_ | refine ah.at ct ⟨bd, trivial⟩ ?_); clear ct)
   refine rn1 @ab.o.eq_1 ?_
   (have ct := j8 w n (by omega); (first | refine al.at ct ⟨bd, bd, trivial⟩ ?_ | refine ah.at ct ⟨bd, bd, trivial⟩ ?_); clear ct)
   rw [hix]
   refine rn2 @hr @ai.cs.eq_1 ?_
   (first | refine al.at (hchg) ⟨bd, bd, trivial⟩ ?_ | refine ah.at (hchg) ⟨bd, bd, trivial⟩ ?_)
   refine rn3 @ai.v.eq_1 @hsp @Int.toNat_natCast ?_
   refine ax.bu (fun g => ?_) (fun g => ?_) <;> refine rn3 @g @hsp @Int.toNat_natCast ?_
   · skip
     (first | refine al.at (hgood) ⟨bd, trivial⟩ ?_ | refine ah.at (hgood) ⟨bd, trivial⟩ ?_)
     refine rn1 @g ?_
     refine ak.pick [3, 4] (by decide) (fun j hj => by omega) (.inl ?_) ?_
     · first | rfl | (simp [ren, bc, posOf, ab.o, g]; done)
     · simp only [az, List.map_cons, List.map_nil, bg, List.getElem?_cons_zero, List.getElem?_cons_succ, ae]
   · skip
     refine ak.pick [3, 4] (by decide) (fun j hj => by omega) (.inl ?_) ?_
     · first | rfl | (simp [ren, bc, posOf, ab.o, g]; done)
     · simp only [az, List.map_cons, List.map_nil, bg, List.getElem?_cons_zero, List.getElem?_cons_succ, ae]
 · skip
   refine Ctr.intro Tryz.mixed Tryz.func134 rfl Tryz.vh ?_
   refine ev2 @Tryz.ntmps134 @Tryz.results134 ?_
   refine ev1 @ab.v.eq_1 ?_
   (have ct := jq w (by omega) (by omega); (first | refine al.at ct ⟨bd, trivial⟩ ?_ | refine ah.at ct ⟨bd, trivial⟩ ?_); clear ct)
   refine rn1 @ab.o.eq_1 ?_
   (have ct := j8 w n (by omega); (first | refine al.at ct ⟨bd, bd, trivial⟩ ?_ | refine ah.at ct ⟨bd, bd, trivial⟩ ?_); clear ct)
   rw [hix]
   refine rn2 @hr @ai.cs.eq_1 ?_
   (first | refine al.at (hchg) ⟨bd, bd, trivial⟩ ?_ | refine ah.at (hchg) ⟨bd, bd, trivial⟩ ?_)
   refine rn3 @ai.v.eq_1 @hsp @Int.toNat_natCast ?_
   refine ax.bu (fun g => ?_) (fun g => ?_) <;> refine rn3 @g @hsp @Int.toNat_natCast ?_
   · skip
     (first | refine al.at (hgood) ⟨bd, trivial⟩ ?_ | refine ah.at (hgood) ⟨bd, trivial⟩ ?_)
     refine rn1 @g ?_
     refine ak.pick [3, 4] (by decide) (fun j hj => by omega) (.inl ?_) ?_
     · first | rfl | (simp [ren, bc, posOf, ab.o, g]; done)
     · simp only [az, List.map_cons, List.map_nil, bg, List.getElem?_cons_zero, List.getElem?_cons_succ, ae]
   · skip
     refine ak.pick [3, 4] (by decide) (fun j hj => by omega) (.inl ?_) ?_
     · first | rfl | (simp [ren, bc, posOf, ab.o, g]; done)
     · simp only [az, List.map_cons, List.map_nil, bg, List.getElem?_cons_zero, List.getElem?_cons_succ, ae]
 · skip
   refine Ctr.intro Tryz.mixed Tryz.func134 rfl Tryz.vh ?_
   refine ev2 @Tryz.ntmps134 @Tryz.results134 ?_
   refine ev1 @ab.v.eq_1 ?_
   (have ct := jq w (by omega) (by omega); (first | refine al.at ct ⟨bd, trivial⟩ ?_ | refine ah.at ct ⟨bd, trivial⟩ ?_); clear ct)
   refine rn1 @ab.o.eq_1 ?_
   (have ct := j8 w n (by omega); (first | refine al.at ct ⟨bd, bd, trivial⟩ ?_ | refine ah.at ct ⟨bd, bd, trivial⟩ ?_); clear ct)
   rw [hix]
   refine rn2 @hr @ai.cs.eq_1 ?_
   (first | refine al.at (hchg) ⟨bd, bd, trivial⟩ ?_ | refine ah.at (hchg) ⟨bd, bd, trivial⟩ ?_)
   refine rn3 @ai.v.eq_1 @hsp @Int.toNat_natCast ?_
   refine ax.bu (fun g => ?_) (fun g => ?_) <;> refine rn3 @g @hsp @Int.toNat_natCast ?_
   · skip
     (first | refine al.at (hgood) ⟨bd, trivial⟩ ?_ | refine ah.at (hgood) ⟨bd, trivial⟩ ?_)
     refine rn1 @g ?_
     refine ak.pick [3, 4] (by decide) (fun j hj => by omega) (.inl ?_) ?_
     · first | rfl | (simp [ren, bc, posOf, ab.o, g]; done)
     · simp only [az, List.map_cons, List.map_nil, bg, List.getElem?_cons_zero, List.getElem?_cons_succ, ae]
   · skip
     refine ak.pick [3, 4] (by decide) (fun j hj => by omega) (.inl ?_) ?_
     · first | rfl | (simp [ren, bc, posOf, ab.o, g]; done)
     · simp only [az, List.map_cons, List.map_nil, bg, List.getElem?_cons_zero, List.getElem?_cons_succ, ae]
theorem pa {w : ab} {k n v : Int} (h : dv w k n v = true) : (k = 1 ∧ 1 ≤ v) ∨ (k = 2 ∨ k = 3) ∨ k = 4 ∨ k = 8 ∨ ((k = 5 ∨ k = 6 ∨ k = 7) ∧ -100 ≤ v ∧ v ≤ 100) := by
 unfold dv at h
 split at h
 · rename_i hk; simp at h; exact .inl ⟨hk, h.2⟩
 split at h
 · rename_i hk; exact .inr (.inl hk)
 split at h
 · rename_i hk; exact .inr (.inr (.inl hk))
 split at h
 · rename_i hk; simp [ez] at h; exact .inr (.inr (.inr (.inr ⟨.inl hk, by omega, by omega⟩)))
 split at h
 · rename_i hk; simp [ez] at h; exact .inr (.inr (.inr (.inr ⟨.inr (.inl hk), by omega, by omega⟩)))
 · simp at h
   rcases h.1.1 with hk | hk
   · exact .inr (.inr (.inr (.inr ⟨.inr (.inr hk), by omega, by omega⟩)))
   · exact .inr (.inr (.inr (.inl hk)))
theorem ak2 (w : ab) (k n v : Int) (hw : wB w = true) (hs : dv w k n v = true) (hv : v ≤ 9223372036854775807) : Ctr Tryz.prog 134 [w.v, .agg [.int .i64 k, .int .i64 n, .int .i64 v]] [] (.tup [(fx w k n v).o 0 1, .bool (eh w k n v)]) [some (rows bf.cs (fx w k n v).Posts), some (rows ai.cs (fx w k n v).Shocks)] := by
 rcases pa hs with ⟨rfl, h1⟩ | hk | rfl | rfl | ⟨hk, h1⟩
 · have e : (fx w 1 n v).Posts = w.Posts ∧ (fx w 1 n v).Shocks = w.Shocks := by unfold fx fo; split <;> simp
   rw [e.1, e.2]
   exact ajz w n v hw h1 hv
 · have e : (fx w k n v).Shocks = w.Shocks := by rcases hk with rfl | rfl <;> simp [fx, fo]
   rw [e]
   exact aim w k n v hk hw hs
 · have e : (fx w 4 n v).Posts = w.Posts := by simp [fx, fo]
   rw [e]
   exact ais w n v hw
 · have e : (fx w 8 n v).Posts = w.Posts := by simp [fx, fo]
   rw [e]
   exact ahy w n v hw hs
 · have e : (fx w k n v).Posts = w.Posts := by rcases hk with rfl | rfl | rfl <;> simp [fx, fo]
   rw [e]
   exact ahx w k n v hk hw hs h1
def fb (w : ab) (k n v : Int) : Option ab := if wB w && dv w k n v && eh w k n v then some (fo w k n v) else none
def ajl : V := .agg [.int .i64 0, .nilsl, .nilsl, .int .i64 0, .int .i64 0]
def adg : Option ab → V
 | none => .tup [ajl, .bool false]
 | some b => .tup [b.o 0 1, .bool true]
def ad1 : Option ab → Hp
 | none => []
 | some b => [some (rows bf.cs b.Posts), some (rows ai.cs b.Shocks)]
theorem x5 {w b : ab} {k n v : Int} (h : fb w k n v = some b) : wB w = true ∧ dv w k n v = true ∧ o6 w k n v = true ∧ b = fo w k n v ∧ wB b = true := by
 unfold fb at h
 split at h
 · rename_i h2
   simp only [Bool.and_eq_true, eh] at h2
   simp only [Option.some.injEq] at h
   subst h
   exact ⟨h2.1.1, h2.1.2, h2.2.1, rfl, h2.2.2⟩
 · cases h
theorem akq {w : ab} {k n v : Int} (h : eh w k n v = true) : fx w k n v = fo w k n v := by
 unfold fx
 split
 · rename_i h1
   obtain ⟨rfl, h2⟩ := h1
   simp [eh, o6, h2] at h
 · rfl
theorem se (w : ab) (k n v : Int) (hp : w.Posts.length ≤ 16777216) (hs : w.Shocks.length ≤ 16777216) (hv : v ≤ 9223372036854775807) : Ctr Tryz.prog 101 [w.v, .agg [.int .i64 k, .int .i64 n, .int .i64 v]] [] (adg (fb w k n v)) (ad1 (fb w k n v)) := by
 refine Ctr.intro Tryz.mixed Tryz.func101 rfl Tryz.avv ?_
 refine ev2 @Tryz.ntmps101 @Tryz.results101 ?_
 refine ev1 @ab.v.eq_1 ?_
 (have ct := eg w (by omega) (by omega); (first | refine al.at ct ⟨bd, trivial⟩ ?_ | refine ah.at ct ⟨bd, trivial⟩ ?_); clear ct)
 have no : fb w k n v = none → ∀ h : Hp, ak 0 (.tup [.agg [.int .i64 0, .nilsl, .nilsl, .int .i64 0, .int .i64 0], .bool false]) h (adg (fb w k n v)) (ad1 (fb w k n v)) := by
  intro e h
  rw [e]
  exact ak.aq rfl (by rfl)
 cases hw : wB w with
 | false =>
  refine rn0 ?_
  exact no (by simp [fb, hw]) _
 | true =>
  refine rn0 ?_
  (have ct := akb w k n v hp hs; (first | refine al.at ct ⟨bd, bd, trivial⟩ ?_ | refine ah.at ct ⟨bd, bd, trivial⟩ ?_); clear ct)
  cases hst : dv w k n v with
  | false =>
   refine rn0 ?_
   exact no (by simp [fb, hst]) _
  | true =>
   refine rn0 ?_
   have hm := ak2 w k n v hw hst hv
   cases hd : eh w k n v with
   | false =>
    rw [hd] at hm
    (first | refine al.at (hm) ⟨bd, bd, trivial⟩ ?_ | refine ah.at (hm) ⟨bd, bd, trivial⟩ ?_)
    refine rn1 @ab.o.eq_1 ?_
    exact no (by simp [fb, hd]) _
   | true =>
    rw [hd] at hm
    (first | refine al.at (hm) ⟨bd, bd, trivial⟩ ?_ | refine ah.at (hm) ⟨bd, bd, trivial⟩ ?_)
    refine rn1 @ab.o.eq_1 ?_
    have e : fb w k n v = some (fo w k n v) := by simp [fb, hw, hst, hd]
    have e2 := akq hd
    rw [e, ← e2, adg, ad1]

    refine ak.pick [3, 4] (by decide) (fun j hj => by omega) (.inl ?_) ?_
    · first | rfl | (simp [ren, bc, posOf, ab.o]; done)
    · simp only [az, List.map_cons, List.map_nil, bg, List.getElem?_cons_zero, List.getElem?_cons_succ, ae]
end Go.Proofs
end
section
set_option maxRecDepth 100000
namespace Go.Proofs
open Go.Lv
structure dz where
 Id : Int
 Tick : Int
 X : Int
 Y : Int
 Deep : Int
 Size : Int
 Grade : Int
def dz.cs (r : dz) : List V := [.int .i64 r.Id, .int .i64 r.Tick, .int .i64 r.X, .int .i64 r.Y, .int .i64 r.Deep, .int .i64 r.Size, .int .i64 r.Grade]
def dz.v (r : dz) : V := .agg [.int .i64 r.Id, .int .i64 r.Tick, .int .i64 r.X, .int .i64 r.Y, .int .i64 r.Deep, .int .i64 r.Size, .int .i64 r.Grade]
theorem dz.csl (a : dz) : a.cs.length = 7 := rfl
instance : qp dz.cs 7 := ⟨fun _ => rfl, fun _ d => by cases d <;> rfl, fun _ => rfl, fun _ => rfl⟩
def dz.ok (r : dz) : Prop := bt r.Id ∧ bt r.Tick ∧ bt r.X ∧ bt r.Y ∧ bt r.Deep ∧ bt r.Size ∧ bt r.Grade
abbrev dz.rows (L : List dz) : List V := Go.Lv.rows dz.cs L
abbrev dz.sl (L : List dz) : V := .sl L.length 7 (Go.Lv.rows dz.cs L)
abbrev dz.zs : List V := [.int .i64 0, .int .i64 0, .int .i64 0, .int .i64 0, .int .i64 0, .int .i64 0, .int .i64 0]
def dz.mk1 (k : Int) : dz := ⟨k, k + 1, k + 1 + 1, k + 1 + 1 + 1, k + 1 + 1 + 1 + 1, k + 1 + 1 + 1 + 1 + 1, k + 1 + 1 + 1 + 1 + 1 + 1⟩
def dz.marks (k : Int) (n : Nat) : List dz := (List.range n).map fun i : Nat => dz.mk1 (k + 7 * (i : Int))
@[simp] theorem dz.tg (k : Int) (n : Nat) : (dz.marks k n).length = n := by simp [dz.marks]
end Go.Proofs
end
section
set_option maxRecDepth 100000
namespace Go.Proofs
open Go.Lv
def bump (C : List Int) (k : Nat) : List Int := C.set k (C.getD k 0 + 1)
theorem ari (C : List Int) (k : Nat) : (bump C k).length = C.length := by simp [bump]
end Go.Proofs
end
section
set_option maxRecDepth 100000
set_option maxHeartbeats 1000000
namespace Go.Proofs
open Go.Lv
def r7 (L : List bf) (i : Nat) : List Int := ((L.take i).filter bf.Up).map bf.Station
theorem ma {L : List bf} {i : Nat} (hi : i < L.length) : r7 L (i + 1) = r7 L i ++ if L[i].Up then [L[i].Station] else [] := by
 rw [r7, List.take_succ_eq_append_getElem hi, List.filter_append, List.map_append]
 congr 1
 cases h : L[i].Up <;> simp [h]
theorem yu (L : List bf) (i : Nat) : (r7 L i).length ≤ i := by
 rw [r7, List.length_map]
 exact Nat.le_trans (List.length_filter_le _ _) (by simp; omega)
def upR (w : ab) : Option (List Int) := if wB w = true then some (r7 w.Posts w.Posts.length) else none
theorem ud (w : ab) (hp : w.Posts.length ≤ 16777216) : Ctr Tryz.prog 111 [w.v] [] (.osl 0 0 (r7 w.Posts w.Posts.length).length 1) [some (rows IntS.cs (r7 w.Posts w.Posts.length))] := by
 refine Ctr.intro Tryz.mixed Tryz.func111 rfl Tryz.aw1 ?_
 refine ev2 @Tryz.ntmps111 @Tryz.results111 ?_
 refine ev1 @ab.v.eq_1 ?_
 refine dr.intro (fun i : Nat => i ≤ w.Posts.length) (fun i => ⟨(un 3 (.osl 1 0 (r7 w.Posts i).length 1 :: (un 4 (bf.sl w.Posts :: .int .i64 w.Posts.length :: .int .i64 i :: (un 12 []))))), [some w.cs, some (rows IntS.cs (r7 w.Posts i))], 0⟩) (fun i => w.Posts.length - i) 0 (Nat.zero_le _) ?_ (fun i hi => ?_)
 · refine au.cut (2) (by simp) (by simp) ?_ ?_
   · simp [LeC, LeV, ren, bq, r7]
   · simp [bz, cw, ren, rows, r7, ab.cs]
 refine ev0 ?_
 refine ay.split (fun h1 => ?_) (fun h1 => ?_)
 · refine ev1 @h1 ?_
   have hi' : i < w.Posts.length := by simpa using h1
   have h5 := bf.csl w.Posts[i]
   have hr := bw bf.csl hi'
   have hul := yu w.Posts i
   refine rn2 @hr @bf.cs.eq_1 ?_
   refine ay.split (fun h6 => ?_) (fun h6 => ?_) <;> refine ev1 @h6 ?_
   · refine rn6 @hr @bf.cs.eq_1 @ab.cs.eq_1 @bb @Nat.mul_one @bh ?_
     refine ⟨i + 1, hi', ?_, by omega⟩
     refine au.cut (2) (by simp) (by simp) ?_ ?_
     · rw [ma hi', h6]
       simp [LeC, LeV, ren, bq]
     · rw [ma hi', h6, if_pos rfl, ← dw]
       simp [bz, cw, ae, dk, ren, IntS.cs, ab.cs]
   · try refine ew0 ?_
     refine ⟨i + 1, hi', ?_, by omega⟩
     refine au.cut (2) (by simp) (by simp) ?_ ?_
     · rw [ma hi', h6]
       simp [LeC, LeV, ren, bq]
     · rw [ma hi', h6]
       simp [bz, cw, ae, ren, ab.cs]
 · refine ev1 @h1 ?_
   have hi' : i = w.Posts.length := by simp at h1; omega
   subst hi'
   refine ak.pick [1] (by decide) (fun j hj => by omega) (.inl ?_) ?_
   · first | rfl | (simp [ren, bc, posOf]; done)
   · simp only [az, List.map_cons, List.map_nil, bg, List.getElem?_cons_zero, List.getElem?_cons_succ, ae]
theorem aiw (w : ab) (hp : w.Posts.length ≤ 16777216) (hs : w.Shocks.length ≤ 16777216) : Ctr Tryz.prog 114 [w.v] [] (sq 1 (upR w)) (me IntS.cs (upR w)) := by
 refine Ctr.intro Tryz.mixed Tryz.func114 rfl Tryz.ax5 ?_
 refine ev2 @Tryz.ntmps114 @Tryz.results114 ?_
 refine ev1 @ab.v.eq_1 ?_
 cases h : wB w with
 | false =>
  have e : upR w = none := if_neg (by simp [h])
  rw [e]
  repeat' (first | exact ak.refl _ _ _ | (refine ak.aq ?_ (by rfl); first | rfl | (simp [h, sq, me, *]; done)) | ((have ct := ec w (by omega) (by omega); (first | refine al.at ct ⟨leA, trivial⟩ ?_ | refine ah.at ct ⟨leA, trivial⟩ ?_); clear ct); simp -implicitDefEqProofs -dsimp only [go_sem, h, sq, me, *]) | (refine ax.bu (fun _ => ?_) (fun _ => ?_) <;> simp -implicitDefEqProofs -dsimp only [go_sem, h, sq, me, *]) | (refine ax.cq (fun _ => ?_) (fun _ => ?_) <;> simp -implicitDefEqProofs -dsimp only [go_sem, h, sq, me, *]) | (refine ay.split (fun _ => ?_) (fun _ => ?_) <;> simp -implicitDefEqProofs -dsimp only [go_sem, h, sq, me, *]) | (exfalso; simp_all; done))
 | true =>
  have e : upR w = some (r7 w.Posts w.Posts.length) := if_pos h
  rw [e]
  repeat (first | ((have ct := ec w (by omega) (by omega); (first | refine al.at ct ⟨leA, trivial⟩ ?_ | refine ah.at ct ⟨leA, trivial⟩ ?_); clear ct); refine ev1 @h ?_) | ((first | refine al.at (ud w hp) ⟨leA, trivial⟩ ?_ | refine ah.at (ud w hp) ⟨leA, trivial⟩ ?_); refine ev1 @h ?_) | (with_reducible refine And.intro (by first | omega | (show cd _ = true; kernel_rfl)) ?_; try refine ew1 @h ?_))
  simp only [sq, me]
  refine ak.pick [1] (by decide) (fun j hj => by omega) (.inl ?_) ?_
  · first | rfl | (simp [ren, bc, posOf]; done)
  · simp only [az, List.map_cons, List.map_nil, bg, List.getElem?_cons_zero, List.getElem?_cons_succ, ae]
theorem ah6 (w : ab) (hp : w.Posts.length ≤ 16777216) (hs : w.Shocks.length ≤ 16777216) : Ctr Tryz.prog 155 [w.v] [] (adh 1 (upR w)) (u6 IntS.cs (upR w)) := by
 refine Ctr.intro Tryz.mixed Tryz.func155 rfl Tryz.av7 ?_
 refine ev2 @Tryz.ntmps155 @Tryz.results155 ?_
 refine ev1 @ab.v.eq_1 ?_
 cases h : wB w with
 | false =>
  have e : upR w = none := if_neg (by simp [h])
  rw [e]
  repeat (first | ((have ct := eg w (by omega) (by omega); (first | refine al.at ct ⟨leA, trivial⟩ ?_ | refine ah.at ct ⟨leA, trivial⟩ ?_); clear ct); refine ev1 @h ?_) | (with_reducible refine And.intro (by first | omega | (show cd _ = true; kernel_rfl)) ?_; try refine ew1 @h ?_))
  simp only [adh, u6]
  refine ak.pick [1] (by decide) (fun j hj => by omega) (.inl ?_) ?_
  · first | rfl | (simp [ren, bc, posOf]; done)
  · simp only [az, List.map_cons, List.map_nil, bg, List.getElem?_cons_zero, List.getElem?_cons_succ, ae]
 | true =>
  have e : upR w = some (r7 w.Posts w.Posts.length) := if_pos h
  rw [e]
  repeat (first | ((have ct := eg w (by omega) (by omega); (first | refine al.at ct ⟨leA, trivial⟩ ?_ | refine ah.at ct ⟨leA, trivial⟩ ?_); clear ct); refine ev1 @h ?_) | (with_reducible refine And.intro (by first | omega | (show cd _ = true; kernel_rfl)) ?_; try refine ew1 @h ?_))
  refine dr.intro (fun i : Nat => i ≤ w.Posts.length) (fun i => ⟨(.undef :: .ptr 0 0 :: .undef :: .undef :: .osl 1 0 (r7 w.Posts i).length 1 :: .int .i64 i :: (un 28 [])), [some w.cs, some (rows IntS.cs (r7 w.Posts i))], 0⟩) (fun i => w.Posts.length - i) 0 (Nat.zero_le _) ?_ (fun i hi => ?_)
  · refine au.cut (2) (by simp) (by simp) ?_ ?_
    · simp [LeC, LeV, ren, bq, r7]
    · simp [bz, cw, ren, rows, r7, ab.cs]
  refine ev1 @ab.cs.eq_1 ?_
  refine ay.split (fun h1 => ?_) (fun h1 => ?_)
  · refine ev1 @h1 ?_
    have hi' : i < w.Posts.length := by simpa using h1
    have h5 := bf.csl w.Posts[i]
    have hr := bw bf.csl hi'
    have hul := yu w.Posts i
    refine rn3 @hr @bf.cs.eq_1 @ab.cs.eq_1 ?_
    refine ay.split (fun h6 => ?_) (fun h6 => ?_) <;> refine ev1 @h6 ?_
    · refine rn6 @hr @bf.cs.eq_1 @ab.cs.eq_1 @bb @Nat.mul_one @bh ?_
      refine ⟨i + 1, hi', ?_, by omega⟩
      refine au.cut (2) (by simp) (by simp) ?_ ?_
      · rw [ma hi', h6]
        simp [LeC, LeV, ren, bq]
      · rw [ma hi', h6, if_pos rfl, ← dw]
        simp [bz, cw, ae, dk, ren, IntS.cs, ab.cs]
    · try refine ew0 ?_
      refine ⟨i + 1, hi', ?_, by omega⟩
      refine au.cut (2) (by simp) (by simp) ?_ ?_
      · rw [ma hi', h6]
        simp [LeC, LeV, ren, bq]
      · rw [ma hi', h6]
        simp [bz, cw, ae, ren, ab.cs]
  · refine ev1 @h1 ?_
    have hi' : i = w.Posts.length := by simp at h1; omega
    subst hi'
    simp only [adh, u6]
    refine ak.pick [1] (by decide) (fun j hj => by omega) (.inl ?_) ?_
    · first | rfl | (simp [ren, bc, posOf]; done)
    · simp only [az, List.map_cons, List.map_nil, bg, List.getElem?_cons_zero, List.getElem?_cons_succ, ae]
def cx (L : List ai) : List Int := L.foldl (fun C x => bump C x.State.toNat) [0, 0, 0, 0]
theorem ob {L : List ai} {i : Nat} (hi : i < L.length) : cx (L.take (i + 1)) = bump (cx (L.take i)) L[i].State.toNat := by
 rw [List.take_succ_eq_append_getElem hi, cx, List.foldl_append]; rfl
theorem ja {L : List ai} : ∀ i, i ≤ L.length → (cx (L.take i)).length = 4
 | 0, _ => by simp [cx]
 | i + 1, hi => by rw [ob (by omega : i < L.length), ari, ja i (by omega)]
theorem rl {L : List ai} : ∀ i, i ≤ L.length → ∀ x ∈ cx (L.take i), 0 ≤ x ∧ x ≤ i
 | 0, _ => by intro x hx; simp [cx] at hx; omega
 | i + 1, hi => by
  intro x hx
  rw [ob (by omega : i < L.length), bump] at hx
  have ih := rl (L := L) i (by omega)
  rcases List.mem_or_eq_of_mem_set hx with h | h
  · have := ih x h; omega
  · subst h
    rw [List.getD_eq_getElem?_getD]
    cases h : (cx (L.take i))[(L[i]'(by omega)).State.toNat]? with
    | none => simp; omega
    | some y => have := ih y (List.mem_of_getElem? h); simp; omega
def pf (w : ab) : Option (List Int) := if wB w = true then some (cx w.Shocks) else none
theorem abn (w : ab) (hp : w.Posts.length ≤ 16777216) (hs : w.Shocks.length ≤ 16777216) : Ctr Tryz.prog 116 [w.v] [] (sq 1 (pf w)) (me IntS.cs (pf w)) := by
 refine Ctr.intro Tryz.mixed Tryz.func116 rfl Tryz.awu ?_
 refine ev2 @Tryz.ntmps116 @Tryz.results116 ?_
 refine ev1 @ab.v.eq_1 ?_
 cases h : wB w with
 | false =>
  have e : pf w = none := if_neg (by simp [h])
  rw [e]
  repeat' (first | exact ak.refl _ _ _ | (refine ak.aq ?_ (by rfl); first | rfl | (simp [h, sq, me, *]; done)) | ((have ct := ec w (by omega) (by omega); (first | refine al.at ct ⟨leA, trivial⟩ ?_ | refine ah.at ct ⟨leA, trivial⟩ ?_); clear ct); simp -implicitDefEqProofs -dsimp only [go_sem, h, sq, me, *]) | (refine ax.bu (fun _ => ?_) (fun _ => ?_) <;> simp -implicitDefEqProofs -dsimp only [go_sem, h, sq, me, *]) | (refine ax.cq (fun _ => ?_) (fun _ => ?_) <;> simp -implicitDefEqProofs -dsimp only [go_sem, h, sq, me, *]) | (refine ay.split (fun _ => ?_) (fun _ => ?_) <;> simp -implicitDefEqProofs -dsimp only [go_sem, h, sq, me, *]) | (exfalso; simp_all; done))
 | true =>
  have e : pf w = some (cx w.Shocks) := if_pos h
  rw [e]
  repeat (first | ((have ct := ec w (by omega) (by omega); (first | refine al.at ct ⟨leA, trivial⟩ ?_ | refine ah.at ct ⟨leA, trivial⟩ ?_); clear ct); refine ev1 @h ?_) | (with_reducible refine And.intro (by first | omega | (show cd _ = true; kernel_rfl)) ?_; try refine ew1 @h ?_))
  have hz : wi 4 [V.int .i64 0] = rows IntS.cs [0, 0, 0, 0] := rfl
  refine rn1 @hz ?_
  refine dr.intro (fun i : Nat => i ≤ w.Shocks.length) (fun i => ⟨(un 4 (.osl 1 0 4 1 :: (un 7 (ai.sl w.Shocks :: .int .i64 w.Shocks.length :: .int .i64 i :: (un 12 []))))), [some w.cs, some (rows IntS.cs (cx (w.Shocks.take i)))], 0⟩) (fun i => w.Shocks.length - i) 0 (Nat.zero_le _) ?_ (fun i hi => ?_)
  · refine au.cut (2) (by simp) (by simp) ?_ ?_
    · simp [LeC, LeV, ren, bq]
    · simp [bz, cw, ren, ae, cx, ab.cs]
  refine ev0 ?_
  refine ay.split (fun h1 => ?_) (fun h1 => ?_)
  · refine ev1 @h1 ?_
    have hi' : i < w.Shocks.length := by simpa using h1
    have h5 := ai.csl w.Shocks[i]
    have hr := bw ai.csl hi'
    have hvi := gb.1 ((ey h).shocks _ (List.getElem_mem hi'))
    obtain ⟨k, hk⟩ : ∃ k : Nat, w.Shocks[i].State = (k : Int) := ⟨w.Shocks[i].State.toNat, by omega⟩
    have hkc : k < (cx (w.Shocks.take i)).length := by rw [ja i hi]; omega
    have hrc := bw IntS.csl hkc
    have hbd := rl i hi _ (List.getElem_mem hkc)
    have hsp := n7 IntS.csl hkc ((cx (w.Shocks.take i))[k] + 1)
    have hlc : (rows IntS.cs (cx (w.Shocks.take i))).length = 4 := by rw [bb, ja i hi]
    refine rn7 @hr @hk @hrc @IntS.cs.eq_1 @ai.cs.eq_1 @hlc @ab.cs.eq_1 ?_
    have e2 : cx (w.Shocks.take (i + 1)) = (cx (w.Shocks.take i)).set k ((cx (w.Shocks.take i))[k] + 1) := by
     rw [ob hi', hk, Int.toNat_natCast, bump, List.getD_eq_getElem?_getD, List.getElem?_eq_getElem hkc]; rfl
    simp only [IntS.cs] at hsp
    refine ⟨i + 1, hi', ?_, by omega⟩
    refine au.cut (2) (by simp) (by simp) ?_ ?_
    · simp [LeC, LeV, ren, bq]
    · rw [hsp, e2]
      simp [bz, cw, ae, ren, ab.cs]
  · refine ev1 @h1 ?_
    have hi' : i = w.Shocks.length := by simp at h1; omega
    subst hi'
    rw [List.take_length]
    have hc := ja (L := w.Shocks) w.Shocks.length (Nat.le_refl _)
    rw [List.take_length] at hc
    simp only [sq, me, hc]
    refine ak.pick [1] (by decide) (fun j hj => by omega) (.inl ?_) ?_
    · first | rfl | (simp [ren, bc, posOf]; done)
    · simp only [az, List.map_cons, List.map_nil, bg, List.getElem?_cons_zero, List.getElem?_cons_succ, ae]
theorem abq (w : ab) (hp : w.Posts.length ≤ 16777216) (hs : w.Shocks.length ≤ 16777216) : Ctr Tryz.prog 126 [w.v] [] (adh 1 (pf w)) (u6 IntS.cs (pf w)) := by
 refine Ctr.intro Tryz.mixed Tryz.func126 rfl Tryz.ayf ?_
 refine ev2 @Tryz.ntmps126 @Tryz.results126 ?_
 refine ev1 @ab.v.eq_1 ?_
 cases h : wB w with
 | false =>
  have e : pf w = none := if_neg (by simp [h])
  rw [e]
  repeat (first | ((have ct := eg w (by omega) (by omega); (first | refine al.at ct ⟨leA, trivial⟩ ?_ | refine ah.at ct ⟨leA, trivial⟩ ?_); clear ct); refine ev1 @h ?_) | (with_reducible refine And.intro (by first | omega | (show cd _ = true; kernel_rfl)) ?_; try refine ew1 @h ?_))
  simp only [adh, u6]
  refine ak.pick [1] (by decide) (fun j hj => by omega) (.inl ?_) ?_
  · first | rfl | (simp [ren, bc, posOf]; done)
  · simp only [az, List.map_cons, List.map_nil, bg, List.getElem?_cons_zero, List.getElem?_cons_succ, ae]
 | true =>
  have e : pf w = some (cx w.Shocks) := if_pos h
  rw [e]
  repeat (first | ((have ct := eg w (by omega) (by omega); (first | refine al.at ct ⟨leA, trivial⟩ ?_ | refine ah.at ct ⟨leA, trivial⟩ ?_); clear ct); refine ev1 @h ?_) | (with_reducible refine And.intro (by first | omega | (show cd _ = true; kernel_rfl)) ?_; try refine ew1 @h ?_))
  have hz : wi 4 [V.int .i64 0] = rows IntS.cs [0, 0, 0, 0] := rfl
  refine rn1 @hz ?_
  refine dr.intro (fun i : Nat => i ≤ w.Shocks.length) (fun i => ⟨(.undef :: .ptr 0 0 :: .undef :: .undef :: .osl 1 0 4 1 :: .int .i64 i :: (un 28 [])), [some w.cs, some (rows IntS.cs (cx (w.Shocks.take i)))], 0⟩) (fun i => w.Shocks.length - i) 0 (Nat.zero_le _) ?_ (fun i hi => ?_)
  · refine au.cut (2) (by simp) (by simp) ?_ ?_
    · simp [LeC, LeV, ren, bq]
    · simp [bz, cw, ren, ae, cx, ab.cs]
  refine ev1 @ab.cs.eq_1 ?_
  refine ay.split (fun h1 => ?_) (fun h1 => ?_)
  · refine ev1 @h1 ?_
    have hi' : i < w.Shocks.length := by simpa using h1
    have h5 := ai.csl w.Shocks[i]
    have hr := bw ai.csl hi'
    have hvi := gb.1 ((ey h).shocks _ (List.getElem_mem hi'))
    obtain ⟨k, hk⟩ : ∃ k : Nat, w.Shocks[i].State = (k : Int) := ⟨w.Shocks[i].State.toNat, by omega⟩
    have hkc : k < (cx (w.Shocks.take i)).length := by rw [ja i hi]; omega
    have hrc := bw IntS.csl hkc
    have hbd := rl i hi _ (List.getElem_mem hkc)
    have hsp := n7 IntS.csl hkc ((cx (w.Shocks.take i))[k] + 1)
    have hlc : (rows IntS.cs (cx (w.Shocks.take i))).length = 4 := by rw [bb, ja i hi]
    refine rn7 @hr @hk @hrc @IntS.cs.eq_1 @ai.cs.eq_1 @hlc @ab.cs.eq_1 ?_
    have e2 : cx (w.Shocks.take (i + 1)) = (cx (w.Shocks.take i)).set k ((cx (w.Shocks.take i))[k] + 1) := by
     rw [ob hi', hk, Int.toNat_natCast, bump, List.getD_eq_getElem?_getD, List.getElem?_eq_getElem hkc]; rfl
    simp only [IntS.cs] at hsp
    refine ⟨i + 1, hi', ?_, by omega⟩
    refine au.cut (2) (by simp) (by simp) ?_ ?_
    · simp [LeC, LeV, ren, bq]
    · rw [hsp, e2]
      simp [bz, cw, ae, ren, ab.cs]
  · refine ev1 @h1 ?_
    have hi' : i = w.Shocks.length := by simp at h1; omega
    subst hi'
    rw [List.take_length]
    have hc := ja (L := w.Shocks) w.Shocks.length (Nat.le_refl _)
    rw [List.take_length] at hc
    simp only [adh, u6, hc]
    refine ak.pick [1] (by decide) (fun j hj => by omega) (.inl ?_) ?_
    · first | rfl | (simp [ren, bc, posOf]; done)
    · simp only [az, List.map_cons, List.map_nil, bg, List.getElem?_cons_zero, List.getElem?_cons_succ, ae]
end Go.Proofs
end
section
set_option maxRecDepth 100000
set_option maxHeartbeats 1000000
namespace Go.Proofs
open Go.Lv
def ab.oc (r : ab) (i0 i1 : Nat) : List V := [.int .i64 r.Now, .osl i0 0 r.Posts.length 3, .osl i1 0 r.Shocks.length 5, .int .i64 r.Next, .int .i64 r.Archived]
theorem aeu (L : List bf) (hl : L.length ≤ 16777216) : Ctr Tryz.prog 65 [bf.sl L] [] (.osl 0 0 L.length 3) [some (rows bf.cs L)] := by
 refine Ctr.intro Tryz.mixed Tryz.func65 rfl Tryz.a1x ?_
 refine ev2 @Tryz.ntmps65 @Tryz.results65 ?_
 repeat (with_reducible refine df ?_)
 exact ak.refl _ _ _
theorem ade (L : List ai) (hl : L.length ≤ 16777216) : Ctr Tryz.prog 66 [ai.sl L] [] (.osl 0 0 L.length 5) [some (rows ai.cs L)] := by
 refine Ctr.intro Tryz.mixed Tryz.func66 rfl Tryz.a3u ?_
 refine ev2 @Tryz.ntmps66 @Tryz.results66 ?_
 repeat (with_reducible refine df ?_)
 exact ak.refl _ _ _
theorem dn (w : ab) (hp : w.Posts.length ≤ 16777216) (hs : w.Shocks.length ≤ 16777216) : Ctr Tryz.prog 33 [w.v] [] (w.o 0 1) [some (rows bf.cs w.Posts), some (rows ai.cs w.Shocks)] := by
 refine Ctr.intro Tryz.mixed Tryz.func33 rfl Tryz.a5s ?_
 refine ev2 @Tryz.ntmps33 @Tryz.results33 ?_
 refine ev1 @ab.v.eq_1 ?_
 repeat (with_reducible refine df ?_)
 (have ct := aeu w.Posts hp; (first | refine al.at ct ⟨leA, trivial⟩ ?_ | refine ah.at ct ⟨leA, trivial⟩ ?_); clear ct)
 refine ev0 ?_
 repeat (with_reducible refine df ?_)
 (have ct := ade w.Shocks hs; (first | refine al.at ct ⟨leA, trivial⟩ ?_ | refine ah.at ct ⟨leA, trivial⟩ ?_); clear ct)
 refine ev0 ?_
 repeat (with_reducible refine df ?_)
 refine ak.pick [2, 3] (by decide) (fun j hj => by omega) (.inl ?_) ?_
 · first | rfl | (simp [ren, bc, posOf, ab.o]; done)
 · simp only [az, List.map_cons, List.map_nil, bg, List.getElem?_cons_zero, List.getElem?_cons_succ, ae]
theorem aqi {L : List ai} {i : Nat} (hi : i < L.length) (s : Int) : dp (rows ai.cs L) (i * 5 + 1) [.int .i64 s] = rows ai.cs (L.set i ⟨L[i].Number, s, L[i].Seen, L[i].Size, L[i].Tick⟩) := ru ai.csl hi (by omega) rfl
theorem atp {L : List ai} {i : Nat} (hi : i < L.length) (x : ai) (z : Int) : dp (rows ai.cs (L.set i x)) (i * 5 + 3) [.int .i64 z] = rows ai.cs (L.set i ⟨x.Number, x.State, x.Seen, z, x.Tick⟩) := by
 have h := ru (cs := ai.cs) ai.csl (L := L.set i x) (j := i) (f := 3) (v := .int .i64 z) (x := ⟨x.Number, x.State, x.Seen, z, x.Tick⟩) (by simpa using hi) (by omega) (by simp; rfl)
 rwa [List.set_set] at h
theorem gr (L : List ai) : (rows ai.cs L).length = L.length * 5 := lj ai.csl L
theorem anu (w : ab) (i : Nat) (k n v : Int) (hk : k = 5 ∨ k = 6 ∨ k = 7) (hw : wB w = true) (hi : i < w.Shocks.length) (hv : -100 ≤ v ∧ v ≤ 100) : Ctr Tryz.prog 179 [.ptr 0 0, .int .i64 i, .agg [.int .i64 k, .int .i64 n, .int .i64 v]] [some (w.oc 1 2), some (rows bf.cs w.Posts), some (rows ai.cs w.Shocks)] (.bool (aay w.Shocks[i] k)) [some (w.oc 1 2), some (rows bf.cs w.Posts), some (rows ai.cs (w.Shocks.set i (vr w.Shocks[i] k v)))] := by
 have W := ey hw
 have hx := W.shocks _ (List.getElem_mem hi)
 have hb := gb.1 hx
 have hr := bw ai.csl hi
 have hwv : IntKind.i64.wrap (w.Shocks[i].Size + v) = w.Shocks[i].Size + v := wrap_i64 (by omega) (by omega)
 have s1 := aqi hi
 have s2 := atp hi
 have hl : ∀ x, (w.Shocks.set i x).length = w.Shocks.length := fun x => by simp
 have hroom : i * 5 + 5 ≤ w.Shocks.length * 5 := by omega
 rcases hk with rfl | rfl | rfl
 · skip
   refine Ctr.intro Tryz.mixed Tryz.func179 rfl Tryz.agl ?_
   refine ev2 @Tryz.ntmps179 @Tryz.results179 ?_
   refine rn4 @ab.oc.eq_1 @hr @ai.cs.eq_1 @hwv ?_
   refine o8.path [true, true, true, true, true, true, false, false, false, false] [false, true, true, true, false, false, false, false, false, false] 1 [2] (by kernel_rfl) ?_
   refine rn7 @hr @ai.cs.eq_1 @hwv @s1 @s2 @gr @hl ?_
   repeat' (first | (refine ax.bu (fun _ => ?_) (fun _ => ?_) <;> (repeat ((repeat1' (first | simp -implicitDefEqProofs -dsimp only [go_sem, *] | simp -dsimp (disch := omega) only [wrap_i64])); repeat (with_reducible refine df ?_)))) | (refine ax.cq (fun _ => ?_) (fun _ => ?_) <;> (repeat ((repeat1' (first | simp -implicitDefEqProofs -dsimp only [go_sem, *] | simp -dsimp (disch := omega) only [wrap_i64])); repeat (with_reducible refine df ?_)))))
   all_goals
    refine ak.pick [0, 1, 2] (by decide) (fun j hj => by have hj' : j = 0 ∨ j = 1 ∨ j = 2 := (by omega); rcases hj' with rfl | rfl | rfl <;> rfl) (.inl (by first | rfl | (simp [ren, aay, *]; done))) ?_
    simp [az, bg, ren, bc, posOf, ae, ab.oc, vr, *]
 · skip
   refine Ctr.intro Tryz.mixed Tryz.func179 rfl Tryz.agl ?_
   refine ev2 @Tryz.ntmps179 @Tryz.results179 ?_
   refine rn4 @ab.oc.eq_1 @hr @ai.cs.eq_1 @hwv ?_
   refine o8.path [true, true, true, true, true, true, true, true, true, false, false, false, false] [false, true, true, true, true, true, true, false, false, false, false, false, false] 1 [2] (by kernel_rfl) ?_
   refine rn7 @hr @ai.cs.eq_1 @hwv @s1 @s2 @gr @hl ?_
   repeat' (first | (refine ax.bu (fun _ => ?_) (fun _ => ?_) <;> (repeat ((repeat1' (first | simp -implicitDefEqProofs -dsimp only [go_sem, *] | simp -dsimp (disch := omega) only [wrap_i64])); repeat (with_reducible refine df ?_)))) | (refine ax.cq (fun _ => ?_) (fun _ => ?_) <;> (repeat ((repeat1' (first | simp -implicitDefEqProofs -dsimp only [go_sem, *] | simp -dsimp (disch := omega) only [wrap_i64])); repeat (with_reducible refine df ?_)))))
   all_goals
    refine ak.pick [0, 1, 2] (by decide) (fun j hj => by have hj' : j = 0 ∨ j = 1 ∨ j = 2 := (by omega); rcases hj' with rfl | rfl | rfl <;> rfl) (.inl (by first | rfl | (simp [ren, aay, *]; done))) ?_
    simp [az, bg, ren, bc, posOf, ae, ab.oc, vr, *]
 · skip
   refine Ctr.intro Tryz.mixed Tryz.func179 rfl Tryz.agl ?_
   refine ev2 @Tryz.ntmps179 @Tryz.results179 ?_
   refine rn7 @ab.oc.eq_1 @hr @ai.cs.eq_1 @hwv @s1 @gr @hl ?_
   repeat' (first | (refine ax.bu (fun _ => ?_) (fun _ => ?_) <;> (repeat ((repeat1' (first | simp -implicitDefEqProofs -dsimp only [go_sem, *] | simp -dsimp (disch := omega) only [wrap_i64])); repeat (with_reducible refine df ?_)))) | (refine ax.cq (fun _ => ?_) (fun _ => ?_) <;> (repeat ((repeat1' (first | simp -implicitDefEqProofs -dsimp only [go_sem, *] | simp -dsimp (disch := omega) only [wrap_i64])); repeat (with_reducible refine df ?_)))))
   all_goals
    refine ak.pick [0, 1, 2] (by decide) (fun j hj => by have hj' : j = 0 ∨ j = 1 ∨ j = 2 := (by omega); rcases hj' with rfl | rfl | rfl <;> rfl) (.inl (by first | rfl | (simp [ren, aay, *]; done))) ?_
    simp [az, bg, ren, bc, posOf, ae, ab.oc, vr, *]
end Go.Proofs
end
section
set_option maxRecDepth 100000
namespace Go.Proofs
open Go.Lv
theorem Ctr.raw {P : Program} {f : FuncId} {args : List V} {hin : Hp} {r : V} {hout : Hp} (hok : okF P f = true)
 (h : ∀ (w : World) (vs : Array Value) (m : Nat → Nat) (av : Nat → Prop), Inv w m hin av ⟨args, hin, hin.length⟩ { tmps := vs, defers := [] } w m → vs.size = args.length →
  Calls P f vs w fun e w' => ∃ v m' s a, e = .returned v ∧ s.h = hout ∧ Inv w m hin av s a w' m' ∧ RV w' m' hout (avm av m' hout) true v r) : Ctr P f args hin r hout := by
 refine ⟨hok, fun w vs m av hH hav hgl hs ha => ?_⟩
 have hav' : ∀ b, avm av m hin b → av b := fun b hb => by
  rcases hb with hb | ⟨id, cs, h1, rfl⟩
  · exact hb
  · exact hH.avd id cs h1
 have hstep : ∀ {o : Bool} {v : Value} {x : V}, RV w m hin av o v x → RV w m hin (avm av m hin) o v x :=
  fun {o v x} hx => RV.step (w := w) (w' := w) (m := m) (m' := m) (h := hin) (h' := hin) (av := av) (av' := avm av m hin) (fun b off v hb hc => ⟨fun h => hb (hav' b h), hc⟩) (fun id c hid => ⟨c, hid, Nat.le_refl _, rfl, Nat.le_refl _, rfl⟩) hx
 have I : Inv w m hin av ⟨args, hin, hin.length⟩ { tmps := vs, defers := [] } w m := by
  refine ⟨⟨hH.inj, fun id cs h => .inr ⟨id, cs, h, rfl⟩, fun id cs h => ?_⟩, hs, fun i hi => hstep (ha i hi), rfl, Ext.refl _ _, fun id cs h => .inl ⟨eo h, cs, h, Nat.le_refl _, .inl rfl⟩, hav, fun b ⟨id, cs, h1, h2⟩ => h2 ▸ hH.avd id cs h1, hgl, rfl, Nat.le_refl _⟩
  exact (hH.blk id cs h).step rfl (fun v x => hstep)
 refine (h w vs m av I hs).mono ?_
 rintro e w' ⟨v, m', s, a, rfl, rfl, I', hv⟩
 exact ⟨v, m', rfl, I'.ext, I'.rh, hv, I'.ids⟩
end Go.Proofs
end
