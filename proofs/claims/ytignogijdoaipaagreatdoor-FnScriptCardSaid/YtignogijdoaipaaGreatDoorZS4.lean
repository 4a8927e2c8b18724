/-
  A part of the proof: texts put together by a program of the prover. Conditions: none.
-/
import Derived.Test.YtignogijdoaipaaGreatDoorZS2
import Derived.Test.YtignogijdoaipaaGreatDoorZS3
import Derived.KernelRfl
import Derived.Test.YtignogijdoaipaaGreatDoorProg
set_option linter.unusedSimpArgs false
set_option linter.unusedVariables false
section
namespace Go.Lv

def rows {α : Type} (cs : α → List V) (L : List α) : List V := L.flatMap cs

section
variable {α : Type} {cs : α → List V} {w : Nat}

theorem lk (h : ∀ a, (cs a).length = w) (L : List α) : (rows cs L).length = L.length * w := by
 induction L with
 | nil => simp [rows]
 | cons a L ih => simp [rows, h] at ih ⊢; rw [ih, Nat.succ_mul, Nat.add_comm]

theorem je (L K : List α) : rows cs (L ++ K) = rows cs L ++ rows cs K := by simp [rows]
theorem yn : rows cs ([] : List α) = [] := rfl
theorem e8 (a : α) (L : List α) : rows cs (a :: L) = cs a ++ rows cs L := by simp [rows]
theorem ao5 (a : α) : rows cs [a] = cs a := by simp [rows]

theorem xb (h : ∀ a, (cs a).length = w) (L : List α) (i : Nat) : (rows cs L).drop (i * w) = rows cs (L.drop i) := by
 induction i generalizing L with
 | zero => simp
 | succ i ih =>
  cases L with
  | nil => simp [rows]
  | cons a L =>
   rw [e8, Nat.succ_mul, Nat.add_comm, ← List.drop_drop, List.drop_append, h a, Nat.sub_self, List.drop_zero]
   rw [show (cs a).drop w = [] by simp [h]]
   simpa using ih L

theorem af4 (h : ∀ a, (cs a).length = w) (L : List α) (i : Nat) : (rows cs L).take (i * w) = rows cs (L.take i) := by
 induction i generalizing L with
 | zero => simp [rows]
 | succ i ih =>
  cases L with
  | nil => simp [rows]
  | cons a L =>
   rw [e8, List.take_succ_cons, e8, Nat.succ_mul, Nat.add_comm, List.take_append, h a, Nat.add_sub_cancel_left, ih]
   rw [List.take_of_length_le (by simp [h])]

theorem bw (h : ∀ a, (cs a).length = w) {L : List α} {i : Nat} (hi : i < L.length) : ((rows cs L).drop (i * w)).take w = cs L[i] := by
 rw [xb h, List.drop_eq_getElem_cons hi, e8, List.take_append, h, Nat.sub_self, List.take_zero, List.append_nil, List.take_of_length_le (by simp [h])]

theorem zp {p : V → Bool} (h : ∀ a, (cs a).all p = true) (L : List α) : (rows cs L).all p = true := by
 induction L with
 | nil => rfl
 | cons a L ih => rw [e8, List.all_append, h a, ih]; rfl

theorem r3 (f : Nat → R) {d : Nat} {l : List V} (h : l.all (da d) = true) : l.map (ren f d) = l := by
 rw [List.map_congr_left (g := id) (fun x hx => ae8 f d x (List.all_eq_true.1 h x hx)), List.map_id]

theorem wrap_i64 {n : Int} (h0 : -9223372036854775808 ≤ n) (h1 : n ≤ 9223372036854775807) : IntKind.i64.wrap n = n := by
 rw [IntKind.wrap_i64]; omega

def bt (z : Int) : Prop := -9223372036854775808 ≤ z ∧ z ≤ 9223372036854775807
def apy (s : ByteArray) : Prop := s.size ≤ 9223372036854775807
def aes (ok : α → Prop) (L : List α) : Prop := L.length ≤ 9223372036854775807 ∧ ∀ x ∈ L, ok x

class ri (cs : α → List V) (w : outParam Nat) : Prop where
 len : ∀ a, (cs a).length = w
 plain : ∀ a d, (cs a).all (da d) = true
 cell : ∀ a, (cs a).all cn = true
 noro : ∀ a, (cs a).all (u3 0) = true
class nf (cs : α → List V) (w : outParam Nat) : Prop where
 len : ∀ a, (cs a).length = w
 plain : ∀ a d, (cs a).all (da d) = true
 cell : ∀ a, (cs a).all cn = true
instance {cs : α → List V} {w : Nat} [h : ri cs w] : nf cs w := ⟨h.len, h.plain, h.cell⟩

theorem bb [nf cs w] (L : List α) : (rows cs L).length = L.length * w := lk nf.len L
theorem ae [nf cs w] (f : Nat → R) (d : Nat) (L : List α) : (rows cs L).map (ren f d) = rows cs L := r3 f (zp (fun a => nf.plain a d) L)
theorem bh [nf cs w] (L : List α) : (rows cs L).all cn = true := zp nf.cell L
theorem aap [ri cs w] (L : List α) : (rows cs L).all (u3 0) = true := zp ri.noro L
theorem lx [nf cs w] (L : List α) (d : Nat) : (rows cs L).all (da d) = true := zp (fun a => nf.plain a d) L
theorem ae7 [nf cs w] (p : Nat → Bool) (L : List α) (d : Nat) : (rows cs L).all (sr p d) = true := List.all_eq_true.2 fun x hx => yg p d x (List.all_eq_true.1 (lx (cs := cs) L d) x hx)
theorem ac5 [ri cs w] (L : List α) : mi [some (rows cs L)] := mi.of (by simp only [ah0, List.all_cons, List.all_nil, aap, Bool.and_self])
theorem cr [nf cs w] (L : List α) : (rows cs L).take (L.length * w) = rows cs L := List.take_of_length_le (by rw [bb]; exact Nat.le_refl _)

theorem ama [nf cs w] {h : Hp} {id : Nat} {L : List α} (hid : h[id]? = some (some (rows cs L))) : LeV (ren (fg h 3) 3 (.osl id 0 L.length w)) (.sl L.length w (rows cs L)) := by
 refine .inl ?_
 simp only [ren, fg, hid, ae, List.drop_zero, cr]
theorem apo [nf cs w] {h : Hp} {id n : Nat} {L : List α} (hid : h[id]? = some (some (rows cs L))) (hn : n = L.length) : LeV (ren (fg h 3) 3 (.osl id 0 n w)) (.sl L.length w (rows cs L)) := by
 subst hn; exact ama hid
theorem le_nil {h : Hp} {w : Nat} : LeV (ren (fg h 3) 3 .nilsl) (.sl 0 w []) := .inr (.inr (.inl ⟨rfl, w, rfl⟩))
theorem LeV.aro {f : Nat → R} {d : Nat} {cs cs' : List V} (h : LeA (cs.map (ren f d)) cs') : LeV (ren f (d + 1) (.agg cs)) (.agg cs') := LeV.agg h
theorem yo [nf cs w] {h : Hp} {id n n' : Nat} {L : List α} (hid : h[id]? = some (some (rows cs L))) (hn : n = L.length) (hn' : n' = L.length) : LeE (ren (fg h 3) 2 (.osl id 0 n w)) (.sl n' w (rows cs L)) := by
 subst hn hn'
 refine .inl ?_
 simp only [ren, fg, hid, ae, List.drop_zero, cr]
theorem aq5 [nf cs w] {h : Hp} {id : Nat} {fz : Bool} {L : List α} (hid : h[id]? = some (some (rows cs L))) : az [id] h fz = [some (rows cs L)] := by
 simp only [az, List.map_cons, List.map_nil, bg, hid, ae]
theorem qu {l : List V} (h : l.all cn = true) : iq l = false := by
 match l, h with
 | [], _ => rfl
 | _ :: _ :: _, _ => rfl
 | [x], h => cases x <;> first | rfl | (simp [cn] at h)
theorem mg [nf cs w] (L : List α) : iq (rows cs L) = false := qu (bh L)
theorem aau [nf cs w] {L L' : List α} (h : L.length = L'.length) : grown [some (rows cs L)] [some (rows cs L')] := by
 simp [grown, bb, h, mg]

def xc (w : Nat) (R : Option (List α)) : V := match R with
 | some M => .tup [.osl 0 0 M.length w, .bool true]
 | none => .tup [.osl 0 0 0 w, .bool false]
def pb (cs : α → List V) (R : Option (List α)) : Hp := match R with
 | some M => [some (rows cs M)]
 | none => [some []]
def sw (w : Nat) (R : Option (List α)) : V := match R with
 | some M => .tup [.osl 0 0 M.length w, .bool true]
 | none => .tup [.nilsl, .bool false]
def k9 (cs : α → List V) (R : Option (List α)) : Hp := match R with
 | some M => [some (rows cs M)]
 | none => []
theorem di (L : List α) (a : α) : rows cs L ++ cs a = rows cs (L ++ [a]) := by rw [je, ao5]

theorem lh {f : V → V} : ∀ {l : List V}, l.map f = l → LeL (l.map f) l
 | [], _ => trivial
 | a :: l, h => by
  simp only [List.map_cons, List.cons.injEq] at h
  exact ⟨.inl h.1.symm, lh h.2⟩

theorem ad7 {A M ns : List V} {n j : Nat} (h : A.length = n) : dj (A ++ M) (n + j) ns = A ++ dj M j ns := by
 subst h
 unfold dj
 rw [List.take_append, List.drop_append, List.take_of_length_le (by omega), List.drop_of_length_le (by omega)]
 simp only [Nat.add_sub_cancel_left, List.nil_append, List.append_assoc]
 congr 3
 congr 1
 omega
theorem ah5 {A M ns : List V} {n : Nat} (h : A.length = n) : dj (A ++ M) n ns = A ++ dj M 0 ns := by
 have := ad7 (M := M) (ns := ns) (j := 0) h
 rwa [Nat.add_zero] at this

theorem xp (h : ∀ a, (cs a).length = w) {L : List α} {i : Nat} (hi : i < L.length) : (rows cs L).drop (i * w) = cs L[i] ++ rows cs (L.drop (i + 1)) := by
 rw [xb h, List.drop_eq_getElem_cons hi, e8]

theorem apart {L : List α} {i : Nat} (hi : i < L.length) : ∃ A B, L = A ++ L[i] :: B ∧ A.length = i ∧ A = L.take i ∧ B = L.drop (i + 1) := by
 refine ⟨L.take i, L.drop (i + 1), ?_, by simp; omega, rfl, rfl⟩
 rw [← List.drop_eq_getElem_cons hi, List.take_append_drop]

def gx (p : α → Bool) (k : α → Int) (L : List α) (i : Nat) : Bool :=
 match L[i]? with
 | none => true
 | some x => p x && match i with
  | 0 => true
  | j + 1 => match L[j]? with
   | none => true
   | some y => decide (k y < k x)

def jh (p : α → Bool) (k : α → Int) (m : Nat) (L : List α) : Bool := (List.range L.length).all (gx p k L) && decide (L.length ≤ m)

theorem ab1 {q : Nat → Bool} {n i : Nat} (hi : i < n) (h : q i = false) : (List.range n).all q = false := by
 rw [List.all_eq_false]
 exact ⟨i, by simpa using hi, by simp [h]⟩
theorem gw {q : Nat → Bool} {i : Nat} (h : (List.range i).all q = true) (h1 : q i = true) : (List.range (i + 1)).all q = true := by
 rw [List.range_succ, List.all_append, h]
 simp [h1]
theorem ju {p : α → Bool} {k : α → Int} {m : Nat} {L : List α} {i : Nat} (hi : i < L.length) (h : gx p k L i = false) : jh p k m L = false := by
 rw [jh, ab1 hi h]
 rfl
theorem kq {p : α → Bool} {k : α → Int} {L : List α} (h0 : 0 < L.length) : gx p k L 0 = p L[0] := by simp [gx, h0]
theorem ij {p : α → Bool} {k : α → Int} {L : List α} {j : Nat} (h : j + 1 < L.length) : gx p k L (j + 1) = (p L[j + 1] && decide (k (L[j]'(by omega)) < k L[j + 1])) := by
 have : j < L.length := by omega
 simp [gx, h, this]
end

theorem leA {x y : V} (h : LeV x y := by first | exact ama rfl | exact .inl rfl | exact le_nil | exact apo rfl (by simp) | exact LeV.aro (by first | ((repeat' (first | exact True.intro | exact yo rfl (by simp) (by simp) | exact LeE.nil | exact LeE.refl _ | refine And.intro ?_ ?_)); done) | fail)) : LeV x y := h
theorem al.at {P : Program} {h : Hp} {g : FuncId} {a c args : List V} {K : V → Hp → Prop} {x : Tag K} {as' : List V} {r : V} {hout : Hp} (hs : Ctr P g as' [] r hout) (hle : LeL ((a ++ args ++ c).map (ren (fg h 3) 3)) as') (hk : K r hout)
 (hro : (a ++ args ++ c).all (da 3) = true ∨ u9 r ∧ mi hout := by first | exact .inl rfl | exact .inr ⟨ahk 3 rfl, by first | exact mi.nil | exact ac5 _ | exact mi.of (by simp only [ah0, List.all_cons, List.all_nil, aap, Bool.and_self])⟩)
 (hrf : o7 h 4 (.fn (.func g) a c) = true ∧ args.all (o7 h 3) = true := by first | exact ⟨rfl, rfl⟩ | exact ⟨rfl, by simp [o7, sr, ak5, da, lx, ae7]⟩ | simp [o7, sr, ak5, da, lx, ae7]) : al P h (.fn (.func g) a c) args K x :=
 al.intro hs hle hro hrf hk
theorem ai.at {P : Program} {t : List V} {h : Hp} {k : Nat} {dst : Option Tmp} {g : FuncId} {a c args : List V} {K : St → Prop} {x : Tag K} {as' : List V} {r : V} {hout : Hp} (hs : Ctr P g as' [] r hout)
 (hle : LeL ((a ++ args ++ c).map (ren (fg h 3) 3)) as') (hk : K (qg ⟨t, h, k⟩ dst r hout))
 (hro : (a ++ args ++ c).all (da 3) = true ∨ u9 r ∧ mi hout := by first | exact .inl rfl | exact .inr ⟨ahk 3 rfl, by first | exact mi.nil | exact ac5 _ | exact mi.of (by simp only [ah0, List.all_cons, List.all_nil, aap, Bool.and_self])⟩) : ai P ⟨t, h, k⟩ dst (.fn (.func g) a c) args K x :=
 ai.intro hs hle hro hk
theorem al6 {sel : List Nat} {h hin : Hp} {fz : Bool} (hh : az sel h fz = hin := by first | exact aq5 rfl | rfl | (simp only [az, List.map_cons, List.map_nil, bg, List.getElem?_cons_zero, List.getElem?_cons_succ, ae]; done)) : az sel h fz = hin := hh
theorem leO {x y : V} (h : LeV x y := by first | exact .inl rfl | exact LeV.aro (by first | ((repeat' (first | exact True.intro | exact LeE.nil | exact LeE.refl _ | refine And.intro ?_ ?_)); done) | fail)) : LeV x y := h
theorem de {a b : Prop} (hb : b) (ha : a := by first | omega | with_reducible rfl | (show cc _ = true; kernel_rfl) | (simp only [bb, bh, List.length_append, List.length_cons, List.length_nil, List.all_append, List.all_cons, List.all_nil, cn, Nat.mul_one, Nat.one_mul, Bool.and_self]; first | done | omega)) : a ∧ b := ⟨ha, hb⟩
attribute [go_sem] Nat.le_refl Int.toNat_natCast beq_self_eq_true bne_self_eq_false decide_true decide_false eq_self ne_eq Option.some.injEq not_false_eq_true Option.map_some ae
theorem aq.pk {t t2 : List V} {h h2 : Hp} {k : Nat} (sel : List Nat) (ht : LeG (ren (bc sel h true) 3) t t2) (hh : az sel h true = h2) (hn : sel.Nodup := by decide) (hk : ∀ j, j < k → sel[j]? = some j := by (intro j hj; cases j <;> simp_all)) : aq ⟨t, h, k⟩ ⟨t2, h2, k⟩ := aq.pick sel hn hk ht hh
attribute [go_sem] Nat.reduceSub Nat.reduceAdd Nat.reduceMul Nat.reduceLT Nat.reduceLeDiff Nat.reduceEqDiff Nat.reduceDiv Nat.reduceMod Int.reduceToNat Int.reduceLE Int.reduceLT Int.reduceBEq Int.reduceBNe Int.reduceNeg Int.reduceAdd Int.reduceSub Int.reduceMul reduceCtorEq
def un (n : Nat) (l : List V) : List V := List.replicate n .undef ++ l
@[go_sem, simp] theorem a7z (n : Nat) (l : List V) : un (n + 1) l = .undef :: un n l := rfl
@[go_sem, simp] theorem a67 (l : List V) : un 0 l = l := rfl
structure Wr (q : Prop) : Prop where
 o : q
theorem rn0 {p q : Prop} (h : q) (hq : Wr q → p := by intro h; (repeat ((repeat1' (first | simp -implicitDefEqProofs -dsimp only [go_sem] | simp -dsimp (disch := omega) only [wrap_i64])); repeat (with_reducible refine de ?_))); exact h.o) : p := hq ⟨h⟩
theorem rn1 {a1 p q : Prop} (h1 : a1) (h : q) (hq : a1 → Wr q → p := by intro h1 h; (repeat ((repeat1' (first | simp -implicitDefEqProofs -dsimp only [go_sem, h1] | simp -dsimp (disch := omega) only [wrap_i64])); repeat (with_reducible refine de ?_))); exact h.o) : p := hq h1 ⟨h⟩
theorem rn2 {a1 a2 p q : Prop} (h1 : a1) (h2 : a2) (h : q) (hq : a1 → a2 → Wr q → p := by intro h1 h2 h; (repeat ((repeat1' (first | simp -implicitDefEqProofs -dsimp only [go_sem, h1, h2] | simp -dsimp (disch := omega) only [wrap_i64])); repeat (with_reducible refine de ?_))); exact h.o) : p := hq h1 h2 ⟨h⟩
theorem rn3 {a1 a2 a3 p q : Prop} (h1 : a1) (h2 : a2) (h3 : a3) (h : q) (hq : a1 → a2 → a3 → Wr q → p := by intro h1 h2 h3 h; (repeat ((repeat1' (first | simp -implicitDefEqProofs -dsimp only [go_sem, h1, h2, h3] | simp -dsimp (disch := omega) only [wrap_i64])); repeat (with_reducible refine de ?_))); exact h.o) : p := hq h1 h2 h3 ⟨h⟩
theorem rn4 {a1 a2 a3 a4 p q : Prop} (h1 : a1) (h2 : a2) (h3 : a3) (h4 : a4) (h : q) (hq : a1 → a2 → a3 → a4 → Wr q → p := by intro h1 h2 h3 h4 h; (repeat ((repeat1' (first | simp -implicitDefEqProofs -dsimp only [go_sem, h1, h2, h3, h4] | simp -dsimp (disch := omega) only [wrap_i64])); repeat (with_reducible refine de ?_))); exact h.o) : p := hq h1 h2 h3 h4 ⟨h⟩
theorem rn5 {a1 a2 a3 a4 a5 p q : Prop} (h1 : a1) (h2 : a2) (h3 : a3) (h4 : a4) (h5 : a5) (h : q) (hq : a1 → a2 → a3 → a4 → a5 → Wr q → p := by intro h1 h2 h3 h4 h5 h; (repeat ((repeat1' (first | simp -implicitDefEqProofs -dsimp only [go_sem, h1, h2, h3, h4, h5] | simp -dsimp (disch := omega) only [wrap_i64])); repeat (with_reducible refine de ?_))); exact h.o) : p := hq h1 h2 h3 h4 h5 ⟨h⟩
theorem rn6 {a1 a2 a3 a4 a5 a6 p q : Prop} (h1 : a1) (h2 : a2) (h3 : a3) (h4 : a4) (h5 : a5) (h6 : a6) (h : q) (hq : a1 → a2 → a3 → a4 → a5 → a6 → Wr q → p := by intro h1 h2 h3 h4 h5 h6 h; (repeat ((repeat1' (first | simp -implicitDefEqProofs -dsimp only [go_sem, h1, h2, h3, h4, h5, h6] | simp -dsimp (disch := omega) only [wrap_i64])); repeat (with_reducible refine de ?_))); exact h.o) : p := hq h1 h2 h3 h4 h5 h6 ⟨h⟩
theorem rn7 {a1 a2 a3 a4 a5 a6 a7 p q : Prop} (h1 : a1) (h2 : a2) (h3 : a3) (h4 : a4) (h5 : a5) (h6 : a6) (h7 : a7) (h : q) (hq : a1 → a2 → a3 → a4 → a5 → a6 → a7 → Wr q → p := by intro h1 h2 h3 h4 h5 h6 h7 h; (repeat ((repeat1' (first | simp -implicitDefEqProofs -dsimp only [go_sem, h1, h2, h3, h4, h5, h6, h7] | simp -dsimp (disch := omega) only [wrap_i64])); repeat (with_reducible refine de ?_))); exact h.o) : p := hq h1 h2 h3 h4 h5 h6 h7 ⟨h⟩
theorem rn8 {a1 a2 a3 a4 a5 a6 a7 a8 p q : Prop} (h1 : a1) (h2 : a2) (h3 : a3) (h4 : a4) (h5 : a5) (h6 : a6) (h7 : a7) (h8 : a8) (h : q) (hq : a1 → a2 → a3 → a4 → a5 → a6 → a7 → a8 → Wr q → p := by intro h1 h2 h3 h4 h5 h6 h7 h8 h; (repeat ((repeat1' (first | simp -implicitDefEqProofs -dsimp only [go_sem, h1, h2, h3, h4, h5, h6, h7, h8] | simp -dsimp (disch := omega) only [wrap_i64])); repeat (with_reducible refine de ?_))); exact h.o) : p := hq h1 h2 h3 h4 h5 h6 h7 h8 ⟨h⟩
theorem rn11 {a1 a2 a3 a4 a5 a6 a7 a8 a9 a10 a11 p q : Prop} (h1 : a1) (h2 : a2) (h3 : a3) (h4 : a4) (h5 : a5) (h6 : a6) (h7 : a7) (h8 : a8) (h9 : a9) (h10 : a10) (h11 : a11) (h : q) (hq : a1 → a2 → a3 → a4 → a5 → a6 → a7 → a8 → a9 → a10 → a11 → Wr q → p := by intro h1 h2 h3 h4 h5 h6 h7 h8 h9 h10 h11 h; (repeat ((repeat1' (first | simp -implicitDefEqProofs -dsimp only [go_sem, h1, h2, h3, h4, h5, h6, h7, h8, h9, h10, h11] | simp -dsimp (disch := omega) only [wrap_i64])); repeat (with_reducible refine de ?_))); exact h.o) : p := hq h1 h2 h3 h4 h5 h6 h7 h8 h9 h10 h11 ⟨h⟩
theorem apz {a1 a2 a3 a4 a5 a6 a7 a8 a9 a10 a11 a12 a13 p q : Prop} (h1 : a1) (h2 : a2) (h3 : a3) (h4 : a4) (h5 : a5) (h6 : a6) (h7 : a7) (h8 : a8) (h9 : a9) (h10 : a10) (h11 : a11) (h12 : a12) (h13 : a13) (h : q) (hq : a1 → a2 → a3 → a4 → a5 → a6 → a7 → a8 → a9 → a10 → a11 → a12 → a13 → Wr q → p := by intro h1 h2 h3 h4 h5 h6 h7 h8 h9 h10 h11 h12 h13 h; (repeat ((repeat1' (first | simp -implicitDefEqProofs -dsimp only [go_sem, h1, h2, h3, h4, h5, h6, h7, h8, h9, h10, h11, h12, h13] | simp -dsimp (disch := omega) only [wrap_i64])); repeat (with_reducible refine de ?_))); exact h.o) : p := hq h1 h2 h3 h4 h5 h6 h7 h8 h9 h10 h11 h12 h13 ⟨h⟩
theorem rn15 {a1 a2 a3 a4 a5 a6 a7 a8 a9 a10 a11 a12 a13 a14 a15 p q : Prop} (h1 : a1) (h2 : a2) (h3 : a3) (h4 : a4) (h5 : a5) (h6 : a6) (h7 : a7) (h8 : a8) (h9 : a9) (h10 : a10) (h11 : a11) (h12 : a12) (h13 : a13) (h14 : a14) (h15 : a15) (h : q) (hq : a1 → a2 → a3 → a4 → a5 → a6 → a7 → a8 → a9 → a10 → a11 → a12 → a13 → a14 → a15 → Wr q → p := by intro h1 h2 h3 h4 h5 h6 h7 h8 h9 h10 h11 h12 h13 h14 h15 h; (repeat ((repeat1' (first | simp -implicitDefEqProofs -dsimp only [go_sem, h1, h2, h3, h4, h5, h6, h7, h8, h9, h10, h11, h12, h13, h14, h15] | simp -dsimp (disch := omega) only [wrap_i64])); repeat (with_reducible refine de ?_))); exact h.o) : p := hq h1 h2 h3 h4 h5 h6 h7 h8 h9 h10 h11 h12 h13 h14 h15 ⟨h⟩
theorem rn16 {a1 a2 a3 a4 a5 a6 a7 a8 a9 a10 a11 a12 a13 a14 a15 a16 p q : Prop} (h1 : a1) (h2 : a2) (h3 : a3) (h4 : a4) (h5 : a5) (h6 : a6) (h7 : a7) (h8 : a8) (h9 : a9) (h10 : a10) (h11 : a11) (h12 : a12) (h13 : a13) (h14 : a14) (h15 : a15) (h16 : a16) (h : q) (hq : a1 → a2 → a3 → a4 → a5 → a6 → a7 → a8 → a9 → a10 → a11 → a12 → a13 → a14 → a15 → a16 → Wr q → p := by intro h1 h2 h3 h4 h5 h6 h7 h8 h9 h10 h11 h12 h13 h14 h15 h16 h; (repeat ((repeat1' (first | simp -implicitDefEqProofs -dsimp only [go_sem, h1, h2, h3, h4, h5, h6, h7, h8, h9, h10, h11, h12, h13, h14, h15, h16] | simp -dsimp (disch := omega) only [wrap_i64])); repeat (with_reducible refine de ?_))); exact h.o) : p := hq h1 h2 h3 h4 h5 h6 h7 h8 h9 h10 h11 h12 h13 h14 h15 h16 ⟨h⟩
theorem rn17 {a1 a2 a3 a4 a5 a6 a7 a8 a9 a10 a11 a12 a13 a14 a15 a16 a17 p q : Prop} (h1 : a1) (h2 : a2) (h3 : a3) (h4 : a4) (h5 : a5) (h6 : a6) (h7 : a7) (h8 : a8) (h9 : a9) (h10 : a10) (h11 : a11) (h12 : a12) (h13 : a13) (h14 : a14) (h15 : a15) (h16 : a16) (h17 : a17) (h : q) (hq : a1 → a2 → a3 → a4 → a5 → a6 → a7 → a8 → a9 → a10 → a11 → a12 → a13 → a14 → a15 → a16 → a17 → Wr q → p := by intro h1 h2 h3 h4 h5 h6 h7 h8 h9 h10 h11 h12 h13 h14 h15 h16 h17 h; (repeat ((repeat1' (first | simp -implicitDefEqProofs -dsimp only [go_sem, h1, h2, h3, h4, h5, h6, h7, h8, h9, h10, h11, h12, h13, h14, h15, h16, h17] | simp -dsimp (disch := omega) only [wrap_i64])); repeat (with_reducible refine de ?_))); exact h.o) : p := hq h1 h2 h3 h4 h5 h6 h7 h8 h9 h10 h11 h12 h13 h14 h15 h16 h17 ⟨h⟩
theorem ev0 {p q : Prop} (h : q) (hq : Wr q → p := by intro h; simp -implicitDefEqProofs -dsimp only [go_sem]; exact h.o) : p := hq ⟨h⟩
theorem ev1 {a1 p q : Prop} (h1 : a1) (h : q) (hq : a1 → Wr q → p := by intro h1 h; simp -implicitDefEqProofs -dsimp only [go_sem, h1]; exact h.o) : p := hq h1 ⟨h⟩
theorem ev2 {a1 a2 p q : Prop} (h1 : a1) (h2 : a2) (h : q) (hq : a1 → a2 → Wr q → p := by intro h1 h2 h; simp -implicitDefEqProofs -dsimp only [go_sem, h1, h2]; exact h.o) : p := hq h1 h2 ⟨h⟩
theorem ev3 {a1 a2 a3 p q : Prop} (h1 : a1) (h2 : a2) (h3 : a3) (h : q) (hq : a1 → a2 → a3 → Wr q → p := by intro h1 h2 h3 h; simp -implicitDefEqProofs -dsimp only [go_sem, h1, h2, h3]; exact h.o) : p := hq h1 h2 h3 ⟨h⟩
theorem ev4 {a1 a2 a3 a4 p q : Prop} (h1 : a1) (h2 : a2) (h3 : a3) (h4 : a4) (h : q) (hq : a1 → a2 → a3 → a4 → Wr q → p := by intro h1 h2 h3 h4 h; simp -implicitDefEqProofs -dsimp only [go_sem, h1, h2, h3, h4]; exact h.o) : p := hq h1 h2 h3 h4 ⟨h⟩
theorem ev7 {a1 a2 a3 a4 a5 a6 a7 p q : Prop} (h1 : a1) (h2 : a2) (h3 : a3) (h4 : a4) (h5 : a5) (h6 : a6) (h7 : a7) (h : q) (hq : a1 → a2 → a3 → a4 → a5 → a6 → a7 → Wr q → p := by intro h1 h2 h3 h4 h5 h6 h7 h; simp -implicitDefEqProofs -dsimp only [go_sem, h1, h2, h3, h4, h5, h6, h7]; exact h.o) : p := hq h1 h2 h3 h4 h5 h6 h7 ⟨h⟩
theorem ew0 {p q : Prop} (h : q) (hq : Wr q → p := by intro h; (repeat1' (first | simp -implicitDefEqProofs -dsimp only [go_sem] | simp -dsimp (disch := omega) only [wrap_i64])); exact h.o) : p := hq ⟨h⟩
theorem ew1 {a1 p q : Prop} (h1 : a1) (h : q) (hq : a1 → Wr q → p := by intro h1 h; (repeat1' (first | simp -implicitDefEqProofs -dsimp only [go_sem, h1] | simp -dsimp (disch := omega) only [wrap_i64])); exact h.o) : p := hq h1 ⟨h⟩
theorem ew2 {a1 a2 p q : Prop} (h1 : a1) (h2 : a2) (h : q) (hq : a1 → a2 → Wr q → p := by intro h1 h2 h; (repeat1' (first | simp -implicitDefEqProofs -dsimp only [go_sem, h1, h2] | simp -dsimp (disch := omega) only [wrap_i64])); exact h.o) : p := hq h1 h2 ⟨h⟩
theorem ew3 {a1 a2 a3 p q : Prop} (h1 : a1) (h2 : a2) (h3 : a3) (h : q) (hq : a1 → a2 → a3 → Wr q → p := by intro h1 h2 h3 h; (repeat1' (first | simp -implicitDefEqProofs -dsimp only [go_sem, h1, h2, h3] | simp -dsimp (disch := omega) only [wrap_i64])); exact h.o) : p := hq h1 h2 h3 ⟨h⟩
theorem ew5 {a1 a2 a3 a4 a5 p q : Prop} (h1 : a1) (h2 : a2) (h3 : a3) (h4 : a4) (h5 : a5) (h : q) (hq : a1 → a2 → a3 → a4 → a5 → Wr q → p := by intro h1 h2 h3 h4 h5 h; (repeat1' (first | simp -implicitDefEqProofs -dsimp only [go_sem, h1, h2, h3, h4, h5] | simp -dsimp (disch := omega) only [wrap_i64])); exact h.o) : p := hq h1 h2 h3 h4 h5 ⟨h⟩
theorem ew6 {a1 a2 a3 a4 a5 a6 p q : Prop} (h1 : a1) (h2 : a2) (h3 : a3) (h4 : a4) (h5 : a5) (h6 : a6) (h : q) (hq : a1 → a2 → a3 → a4 → a5 → a6 → Wr q → p := by intro h1 h2 h3 h4 h5 h6 h; (repeat1' (first | simp -implicitDefEqProofs -dsimp only [go_sem, h1, h2, h3, h4, h5, h6] | simp -dsimp (disch := omega) only [wrap_i64])); exact h.o) : p := hq h1 h2 h3 h4 h5 h6 ⟨h⟩
end Go.Lv
end
section
namespace Go.Lv
theorem n5 {α : Type} {cs : α → List V} {w : Nat} (hw : ∀ a, (cs a).length = w) {L : List α} {i : Nat} (hi : i < L.length) (x : α) : dj (rows cs L) (i * w) (cs x) = rows cs (L.set i x) := by
 have e : L = L.take i ++ L[i] :: L.drop (i + 1) := by rw [← List.drop_eq_getElem_cons hi, List.take_append_drop]
 have e2 : L.set i x = L.take i ++ x :: L.drop (i + 1) := by rw [List.set_eq_take_append_cons_drop, if_pos hi]
 have hA : (rows cs (L.take i)).length = i * w := by rw [lk hw, List.length_take, Nat.min_eq_left (by omega)]
 rw [e2, je, e8]
 conv => lhs; rw [e, je, e8]
 rw [ah5 hA, aby]
 congr 2
 rw [List.drop_append_of_le_length (by rw [hw, hw]; exact Nat.le_refl _), List.drop_of_length_le (by rw [hw, hw]; exact Nat.le_refl _)]
 rfl
end Go.Lv
end
section
namespace Go.Lv
theorem aiv {A B ns : List V} {f : Nat} (h : f + ns.length ≤ A.length) : dj (A ++ B) f ns = dj A f ns ++ B := by
 unfold dj
 rw [List.take_append_of_le_length (by omega), List.drop_append_of_le_length (by omega)]
 simp [List.append_assoc]
theorem r9 {α : Type} {cs : α → List V} {w : Nat} (hw : ∀ a, (cs a).length = w) {L : List α} {j f : Nat} {v : V} {x : α} (hj : j < L.length) (hf : f < w) (hx : cs x = dj (cs L[j]) f [v]) : dj (rows cs L) (j * w + f) [v] = rows cs (L.set j x) := by
 have e : L = L.take j ++ L[j] :: L.drop (j + 1) := by rw [← List.drop_eq_getElem_cons hj, List.take_append_drop]
 have e2 : L.set j x = L.take j ++ x :: L.drop (j + 1) := by rw [List.set_eq_take_append_cons_drop, if_pos hj]
 have hA : (rows cs (L.take j)).length = j * w := by rw [lk hw, List.length_take, Nat.min_eq_left (by omega)]
 rw [e2, je, e8]
 conv => lhs; rw [e, je, e8]
 rw [ad7 hA, aiv (by rw [hw]; simp; omega), hx]

def fits (id n : Nat) : Nat → V → Bool
 | _, .osl i off m w => i != id || decide (off + m * w ≤ n)
 | d + 1, .agg cs => cs.all (fits id n d)
 | d + 1, .tup cs => cs.all (fits id n d)
 | d + 1, .fn _ a c => a.all (fits id n d) && c.all (fits id n d)
 | 0, .agg _ => false
 | 0, .tup _ => false
 | 0, .fn _ _ _ => false
 | _, _ => true

theorem RV.trim {w : World} {m : Nat → Nat} {h : Hp} {av av' : Nat → Prop} {id n : Nat} {cs : List V} (hid : h[id]? = some (some cs)) (hmb : iq cs = false) (hmb' : iq (cs.take n) = false) (hn : n ≤ cs.length) (hav : ∀ b, av' b → av b) {o : Bool} {v : Value} {x : V}
 (hx : RV w m h av o v x) : ∀ d, fits id n d x = true → RV w m (h.set id (some (cs.take n))) av' o v x := by
 have hro : ∀ {v : Value} {x : V}, RV w m h av false v x → RV w m (h.set id (some (cs.take n))) av' false v x := fun hx =>
  hx.w9 (fun b off v hb hc => ⟨fun h => hb (hav b h), hc⟩) rfl
 have hset : ∀ {i : Nat} {c : List V}, h[i]? = some (some c) → i ≠ id → (h.set id (some (cs.take n)))[i]? = some (some c) := fun h e => by
  rw [List.getElem?_set_ne (Ne.symm e)]; exact h
 have hself : (h.set id (some (cs.take n)))[id]? = some (some (cs.take n)) := List.getElem?_set_self (ey hid)
 induction hx with
 | undef v => exact fun _ _ => .undef v
 | skip => exact fun _ _ => .skip
 | bool b => exact fun _ _ => .bool b
 | int k n => exact fun _ _ => .int k n
 | str s => exact fun _ _ => .str s
 | nilsl => exact fun _ _ => .nilsl
 | slz a c wd => exact fun _ _ => .slz a c wd
 | sl b off n' cap wd cs' vals hl ha hc hv hr _ => exact fun _ _ => .sl b off n' cap wd cs' vals hl (fun hne h => ha hne (hav b h)) hc hv (fun i hi => hro (hr i hi))
 | pt b off cs' vals ha hv hr _ => exact fun _ _ => .pt b off cs' vals (fun hne h => ha hne (hav b h)) hv (fun i hi => hro (hr i hi))
 | osl id' off n' cap wd cs' hid' hl hc hs =>
  intro d hf
  by_cases e : id' = id
  · subst e
    have he : cs = cs' := by have := hid'.1; rw [hid] at this; simpa using this
    subst he
    have hf' : off + n' * wd ≤ n := by cases d <;> simpa [fits] using hf
    exact .osl id' off n' cap wd (cs.take n) ⟨hself, hmb'⟩ (by simp; omega) hc hs
  · exact .osl id' off n' cap wd cs' ⟨hset hid'.1 e, hid'.2⟩ hl hc hs
 | ptr id' off cs' hid' =>
  intro d _
  by_cases e : id' = id
  · subst e
    exact .ptr id' off (cs.take n) ⟨hself, hmb'⟩
  · exact .ptr id' off cs' ⟨hset hid'.1 e, hid'.2⟩
 | fn g a c a' c' ha hc hra hrc iha ihc =>
  intro d hf
  cases d with
  | zero => simp [fits] at hf
  | succ d =>
   simp only [fits, Bool.and_eq_true, List.all_eq_true] at hf
   exact .fn g a c a' c' ha hc (fun i hi => iha i hi d (hf.1 _ (List.getElem_mem hi))) (fun i hi => ihc i hi d (hf.2 _ (List.getElem_mem hi)))
 | agg a a' ha hra iha =>
  intro d hf
  cases d with
  | zero => simp [fits] at hf
  | succ d =>
   simp only [fits, List.all_eq_true] at hf
   exact .agg a a' ha (fun i hi => iha i hi d (hf _ (List.getElem_mem hi)))
 | tup a a' ha hra iha =>
  intro d hf
  cases d with
  | zero => simp [fits] at hf
  | succ d =>
   simp only [fits, List.all_eq_true] at hf
   exact .tup a a' ha (fun i hi => iha i hi d (hf _ (List.getElem_mem hi)))
 | lit v => exact fun _ _ => .lit v
 | mp id' cs' hid' hm =>
  intro d _
  by_cases e : id' = id
  · subst e
    rw [hid] at hid'
    have he : cs = cs' := by simpa using hid'
    subst he
    rw [hmb] at hm; cases hm
  · exact .mp id' cs' (hset hid' e) hm

theorem ak.trim {k : Nat} {v r : V} {h hout : Hp} (id n : Nat) {cs : List V} (hid : h[id]? = some (some cs)) (hk : k ≤ id) (hn : n ≤ cs.length) (hmb : iq cs = false) (hmb' : iq (cs.take n) = false) (hv : fits id n 3 v = true)
 (hh : (h.all fun b => match b with | some cs => cs.all (fits id n 2) | none => true) = true) (hr : ak k v (h.set id (some (cs.take n))) r hout) : ak k v h r hout := by
 intro w0 m0 h0 av0 w m val e1 e2 hlt hle H hx hI
 have hfit : ∀ (j : Nat) (c : List V), h[j]? = some (some c) → ∀ x ∈ c, fits id n 2 x = true := by
  intro j c hj x hxc
  have := List.all_eq_true.1 hh _ (List.mem_of_getElem? hj)
  exact List.all_eq_true.1 this x hxc
 have hown : ∀ b, own m (h.set id (some (cs.take n))) b → own m h b := by
  rintro b ⟨j, c, h1, rfl⟩
  rcases n6 hid h1 with ⟨rfl, _⟩ | ⟨_, h2⟩
  · exact ⟨j, cs, hid, rfl⟩
  · exact ⟨j, c, h2, rfl⟩
 have hav : ∀ b, avm av0 m (h.set id (some (cs.take n))) b → avm av0 m h b := fun b hb => hb.imp (fun x => x) (hown b)
 have hcase : ∀ (j : Nat) (c : List V), (h.set id (some (cs.take n)))[j]? = some (some c) → ∃ c0, h[j]? = some (some c0) ∧ (∃ q, c = c0.take q) := by
  intro j c h1
  rcases n6 hid h1 with ⟨rfl, rfl⟩ | ⟨_, h2⟩
  · exact ⟨cs, hid, n, rfl⟩
  · exact ⟨c, h2, c.length, by simp⟩
 refine hr w0 m0 h0 av0 w m val e1 (by simpa using e2) hlt hle ⟨fun i j ci cj h1 h2 he => ?_, fun j c h1 => .inr ⟨j, c, h1, rfl⟩, fun j c h1 => ?_⟩ (hx.trim hid hmb hmb' hn hav 3 hv) (fun j c h1 => ?_)
 · obtain ⟨c1, g1, _⟩ := hcase i ci h1
   obtain ⟨c2, g2, _⟩ := hcase j cj h2
   exact H.inj i j c1 c2 g1 g2 he
 · rcases n6 hid h1 with ⟨rfl, rfl⟩ | ⟨_, h2⟩
   · obtain ⟨C, T, fr, g1, hfr, g2, g3⟩ := (H.blk j cs hid).cells hmb
     refine .inl ⟨C, T, fr, g1, hfr, by simp; omega, fun i hi => ?_⟩
     have hi' : i < cs.length := by simp at hi; omega
     rw [List.getElem_take]
     exact (g3 i hi').trim hid hmb hmb' hn hav 2 (hfit j cs hid _ (List.getElem_mem _))
   · rcases H.blk j c h2 with ⟨C, T, fr, g1, hfr, g2, g3⟩ | h3
     · exact .inl ⟨C, T, fr, g1, hfr, g2, fun i hi => (g3 i hi).trim hid hmb hmb' hn hav 2 (hfit j c h2 _ (List.getElem_mem _))⟩
     · exact .inr h3
 · rcases n6 hid h1 with ⟨rfl, rfl⟩ | ⟨_, h2⟩
   · rcases hI j cs hid with ⟨q1, _⟩ | q1
     · omega
     · exact .inr q1
   · exact hI j c h2

theorem ad3 (id n : Nat) : ∀ (d : Nat) (x : V), da d x = true → fits id n d x = true
 | 0, x, hx => by cases x <;> simp_all [da, fits]
 | d + 1, x, hx => by
  have hall : ∀ l : List V, l.all (da d) = true → l.all (fits id n d) = true := fun l h =>
   List.all_eq_true.2 fun y hy => ad3 id n d y (List.all_eq_true.1 h y hy)
  cases x <;> first | (simp only [da, fits, Bool.and_eq_true] at hx ⊢; exact ⟨hall _ hx.1, hall _ hx.2⟩) | (simp only [da, fits] at hx ⊢; exact hall _ hx) | rfl | cases hx
theorem af7 {α : Type} {cs : α → List V} {w : Nat} [nf cs w] (id n d : Nat) (L : List α) : (rows cs L).all (fits id n d) = true :=
 List.all_eq_true.2 fun x hx => ad3 id n d x (List.all_eq_true.1 (lx (cs := cs) L d) x hx)
end Go.Lv
end
section
set_option maxRecDepth 100000
namespace Go.Proofs
open Go.Lv
def u8R (x : Int) : Prop := 0 ≤ x ∧ x ≤ 255
def ByteS.cs (x : Int) : List V := [.int .u8 x]
instance instFlatPByteS : ri ByteS.cs 1 := ⟨fun _ => rfl, fun _ d => by cases d <;> rfl, fun _ => rfl, fun _ => rfl⟩
theorem ByteS.csl (a : Int) : (ByteS.cs a).length = 1 := rfl
abbrev ByteS.ok (x : Int) : Prop := u8R x
abbrev ByteS.sl (L : List Int) : V := .sl L.length 1 (Go.Lv.rows ByteS.cs L)

end Go.Proofs
end
section
namespace Go.Proofs
open Go.Lv

theorem Tryz.mixed : Tryz.prog.follows .mixedOrders = true := by kernel_rfl
@[go_sem] theorem Tryz.tsz3 : jg Tryz.prog 3 = some (1, false) := by kernel_rfl
@[go_sem] theorem Tryz.udef3 : (Tryz.prog.underlying 3).isSome = true := by kernel_rfl
@[go_sem] theorem Tryz.zero3 : zeroOf Tryz.prog 3 = some [.int .i64 0] := by kernel_rfl
@[go_sem] theorem Tryz.isInt3 : wa Tryz.prog 3 = some .i64 := by kernel_rfl
@[go_sem] theorem Tryz.tsz4 : jg Tryz.prog 4 = some (1, false) := by kernel_rfl
@[go_sem] theorem Tryz.a74 : yy Tryz.prog 4 = true := by kernel_rfl
@[go_sem] theorem Tryz.tsz5 : jg Tryz.prog 5 = some (1, false) := by kernel_rfl
theorem Tryz.cz5 : Tryz.prog.cellsOf 5 = 1 := by kernel_rfl
@[go_sem] theorem Tryz.udef5 : (Tryz.prog.underlying 5).isSome = true := by kernel_rfl
@[go_sem] theorem Tryz.zero5 : zeroOf Tryz.prog 5 = some [.int .u8 0] := by kernel_rfl
@[go_sem] theorem Tryz.tsz9 : jg Tryz.prog 9 = some (1, false) := by kernel_rfl
@[go_sem] theorem Tryz.zero9 : zeroOf Tryz.prog 9 = some [.str ByteArray.empty] := by kernel_rfl
@[go_sem] theorem Tryz.isStr9 : isStr Tryz.prog 9 = true := by kernel_rfl
@[go_sem] theorem Tryz.tsz22 : jg Tryz.prog 22 = some (1, false) := by kernel_rfl
@[go_sem] theorem Tryz.el22 : jj Tryz.prog 22 = some (5, 1, 1) := by kernel_rfl
@[go_sem] theorem Tryz.isSl22 : xe Tryz.prog 22 = true := by kernel_rfl
@[go_sem] theorem Tryz.a7l : td Tryz.prog 22 = true := by kernel_rfl
@[go_sem] theorem Tryz.tsz24 : jg Tryz.prog 24 = some (1, false) := by kernel_rfl
@[go_sem] theorem Tryz.el24 : jj Tryz.prog 24 = some (100, 3, 24) := by kernel_rfl
@[go_sem] theorem Tryz.isSl24 : xe Tryz.prog 24 = true := by kernel_rfl
@[go_sem] theorem Tryz.tsz25 : jg Tryz.prog 25 = some (1, false) := by kernel_rfl
@[go_sem] theorem Tryz.el25 : jj Tryz.prog 25 = some (80, 5, 40) := by kernel_rfl
@[go_sem] theorem Tryz.isSl25 : xe Tryz.prog 25 = true := by kernel_rfl
@[go_sem] theorem Tryz.tsz27 : jg Tryz.prog 27 = some (5, true) := by kernel_rfl
@[go_sem] theorem Tryz.zero27 : zeroOf Tryz.prog 27 = some [.int .i64 0, .nilsl, .nilsl, .int .i64 0, .int .i64 0] := by kernel_rfl
@[go_sem] theorem Tryz.pl27 : ab2 Tryz.prog 27 = some [(0, 1), (1, 1), (2, 1), (3, 1), (4, 1)] := by kernel_rfl
@[go_sem] theorem Tryz.fd27_0 : ko Tryz.prog 27 0 = some (0, 1, false) := by kernel_rfl
@[go_sem] theorem Tryz.fd27_1 : ko Tryz.prog 27 1 = some (1, 1, false) := by kernel_rfl
@[go_sem] theorem Tryz.fd27_2 : ko Tryz.prog 27 2 = some (2, 1, false) := by kernel_rfl
@[go_sem] theorem Tryz.fd27_3 : ko Tryz.prog 27 3 = some (3, 1, false) := by kernel_rfl
@[go_sem] theorem Tryz.fd27_4 : ko Tryz.prog 27 4 = some (4, 1, false) := by kernel_rfl
@[go_sem] theorem Tryz.tsz29 : jg Tryz.prog 29 = some (3, true) := by kernel_rfl
@[go_sem] theorem Tryz.zero29 : zeroOf Tryz.prog 29 = some [.str ByteArray.empty, .str ByteArray.empty, .int .i64 0] := by kernel_rfl
@[go_sem] theorem Tryz.pl29 : ab2 Tryz.prog 29 = some [(0, 1), (1, 1), (2, 1)] := by kernel_rfl
@[go_sem] theorem Tryz.fd29_0 : ko Tryz.prog 29 0 = some (0, 1, false) := by kernel_rfl
@[go_sem] theorem Tryz.fd29_1 : ko Tryz.prog 29 1 = some (1, 1, false) := by kernel_rfl
@[go_sem] theorem Tryz.fd29_2 : ko Tryz.prog 29 2 = some (2, 1, false) := by kernel_rfl
@[go_sem] theorem Tryz.tsz31 : jg Tryz.prog 31 = some (8, true) := by kernel_rfl
@[go_sem] theorem Tryz.zero31 : zeroOf Tryz.prog 31 = some [.int .i64 0, .nilsl, .nilsl, .int .i64 0, .int .i64 0, .str ByteArray.empty, .str ByteArray.empty, .int .i64 0] := by kernel_rfl
@[go_sem] theorem Tryz.pl31 : ab2 Tryz.prog 31 = some [(0, 5), (5, 3)] := by kernel_rfl
@[go_sem] theorem Tryz.fd31_0 : ko Tryz.prog 31 0 = some (0, 5, true) := by kernel_rfl
@[go_sem] theorem Tryz.fd31_1 : ko Tryz.prog 31 1 = some (5, 3, true) := by kernel_rfl
@[go_sem] theorem Tryz.el37 : jj Tryz.prog 37 = some (41, 2, 32) := by kernel_rfl
@[go_sem] theorem Tryz.isSl37 : xe Tryz.prog 37 = true := by kernel_rfl
@[go_sem] theorem Tryz.tsz41 : jg Tryz.prog 41 = some (2, true) := by kernel_rfl
@[go_sem] theorem Tryz.zero41 : zeroOf Tryz.prog 41 = some [.str ByteArray.empty, .str ByteArray.empty] := by kernel_rfl
@[go_sem] theorem Tryz.pl41 : ab2 Tryz.prog 41 = some [(0, 1), (1, 1)] := by kernel_rfl
@[go_sem] theorem Tryz.fd41_0 : ko Tryz.prog 41 0 = some (0, 1, false) := by kernel_rfl
@[go_sem] theorem Tryz.fd41_1 : ko Tryz.prog 41 1 = some (1, 1, false) := by kernel_rfl
@[go_sem] theorem Tryz.el42 : jj Tryz.prog 42 = some (9, 1, 16) := by kernel_rfl
@[go_sem] theorem Tryz.isSl42 : xe Tryz.prog 42 = true := by kernel_rfl
@[go_sem] theorem Tryz.el48 : jj Tryz.prog 48 = some (3, 1, 8) := by kernel_rfl
@[go_sem] theorem Tryz.isSl48 : xe Tryz.prog 48 = true := by kernel_rfl
@[go_sem] theorem Tryz.tsz59 : jg Tryz.prog 59 = some (1, false) := by kernel_rfl
@[go_sem] theorem Tryz.udef59 : (Tryz.prog.underlying 59).isSome = true := by kernel_rfl
@[go_sem] theorem Tryz.a71 : wa Tryz.prog 59 = some .u64 := by kernel_rfl
@[go_sem] theorem Tryz.zero61 : zeroOf Tryz.prog 61 = some [.nilsl, .int .i64 0, .int .u64 0] := by kernel_rfl
@[go_sem] theorem Tryz.pl61 : ab2 Tryz.prog 61 = some [(0, 1), (1, 1), (2, 1)] := by kernel_rfl
@[go_sem] theorem Tryz.fd61_0 : ko Tryz.prog 61 0 = some (0, 1, false) := by kernel_rfl
@[go_sem] theorem Tryz.fd61_1 : ko Tryz.prog 61 1 = some (1, 1, false) := by kernel_rfl
@[go_sem] theorem Tryz.fd61_2 : ko Tryz.prog 61 2 = some (2, 1, false) := by kernel_rfl
@[go_sem] theorem Tryz.tsz80 : jg Tryz.prog 80 = some (5, true) := by kernel_rfl
@[go_sem] theorem Tryz.zero80 : zeroOf Tryz.prog 80 = some [.int .i64 0, .int .i64 0, .int .i64 0, .int .i64 0, .int .i64 0] := by kernel_rfl
@[go_sem] theorem Tryz.pl80 : ab2 Tryz.prog 80 = some [(0, 1), (1, 1), (2, 1), (3, 1), (4, 1)] := by kernel_rfl
@[go_sem] theorem Tryz.fd80_0 : ko Tryz.prog 80 0 = some (0, 1, false) := by kernel_rfl
@[go_sem] theorem Tryz.fd80_1 : ko Tryz.prog 80 1 = some (1, 1, false) := by kernel_rfl
@[go_sem] theorem Tryz.fd80_2 : ko Tryz.prog 80 2 = some (2, 1, false) := by kernel_rfl
@[go_sem] theorem Tryz.fd80_3 : ko Tryz.prog 80 3 = some (3, 1, false) := by kernel_rfl
@[go_sem] theorem Tryz.fd80_4 : ko Tryz.prog 80 4 = some (4, 1, false) := by kernel_rfl
@[go_sem] theorem Tryz.tsz95 : jg Tryz.prog 95 = some (3, true) := by kernel_rfl
@[go_sem] theorem Tryz.zero95 : zeroOf Tryz.prog 95 = some [.int .i64 0, .int .i64 0, .int .i64 0] := by kernel_rfl
@[go_sem] theorem Tryz.pl95 : ab2 Tryz.prog 95 = some [(0, 1), (1, 1), (2, 1)] := by kernel_rfl
@[go_sem] theorem Tryz.fd95_0 : ko Tryz.prog 95 0 = some (0, 1, false) := by kernel_rfl
@[go_sem] theorem Tryz.fd95_1 : ko Tryz.prog 95 1 = some (1, 1, false) := by kernel_rfl
@[go_sem] theorem Tryz.fd95_2 : ko Tryz.prog 95 2 = some (2, 1, false) := by kernel_rfl
@[go_sem] theorem Tryz.tsz100 : jg Tryz.prog 100 = some (3, true) := by kernel_rfl
@[go_sem] theorem Tryz.a8b : zeroOf Tryz.prog 100 = some [.int .i64 0, .bool false, .int .i64 0] := by kernel_rfl
@[go_sem] theorem Tryz.pl100 : ab2 Tryz.prog 100 = some [(0, 1), (1, 1), (2, 1)] := by kernel_rfl
@[go_sem] theorem Tryz.a7p : ko Tryz.prog 100 0 = some (0, 1, false) := by kernel_rfl
@[go_sem] theorem Tryz.a8c : ko Tryz.prog 100 1 = some (1, 1, false) := by kernel_rfl
@[go_sem] theorem Tryz.a6s : ko Tryz.prog 100 2 = some (2, 1, false) := by kernel_rfl
@[go_sem] theorem Tryz.a4a : mapOf Tryz.prog 141 = some (.string, .int .i64 0) := by kernel_rfl
@[go_sem] theorem Tryz.isPt3 : abg Tryz.prog 3 = false := by kernel_rfl
@[go_sem] theorem Tryz.isPt9 : abg Tryz.prog 9 = false := by kernel_rfl
@[go_sem] theorem Tryz.isPt24 : abg Tryz.prog 24 = false := by kernel_rfl
@[go_sem] theorem Tryz.isPt25 : abg Tryz.prog 25 = false := by kernel_rfl
@[go_sem] theorem Tryz.isPt27 : abg Tryz.prog 27 = false := by kernel_rfl
@[go_sem] theorem Tryz.isPt29 : abg Tryz.prog 29 = false := by kernel_rfl
@[go_sem] theorem Tryz.isPt31 : abg Tryz.prog 31 = false := by kernel_rfl
@[go_sem] theorem Tryz.isPt41 : abg Tryz.prog 41 = false := by kernel_rfl
@[go_sem] theorem Tryz.isPt58 : abg Tryz.prog 58 = true := by kernel_rfl
@[go_sem] theorem Tryz.isPt80 : abg Tryz.prog 80 = false := by kernel_rfl
@[go_sem] theorem Tryz.a7w : abg Tryz.prog 100 = false := by kernel_rfl
theorem Tryz.okF4 : okF Tryz.prog 4 = true := by kernel_rfl
theorem Tryz.okF6 : okF Tryz.prog 6 = true := by kernel_rfl
theorem Tryz.aqm : okF Tryz.prog 8 = true := by kernel_rfl
theorem Tryz.atw : okF Tryz.prog 9 = true := by kernel_rfl
theorem Tryz.a4y : okF Tryz.prog 11 = true := by kernel_rfl
theorem Tryz.a2z : okF Tryz.prog 14 = true := by kernel_rfl
theorem Tryz.am0 : okF Tryz.prog 15 = true := by kernel_rfl
theorem Tryz.al4 : okF Tryz.prog 16 = true := by kernel_rfl
theorem Tryz.a5w : okF Tryz.prog 17 = true := by kernel_rfl
theorem Tryz.a54 : okF Tryz.prog 18 = true := by kernel_rfl
theorem Tryz.a3a : okF Tryz.prog 19 = true := by kernel_rfl
theorem Tryz.a3g : okF Tryz.prog 27 = true := by kernel_rfl
theorem Tryz.a30 : okF Tryz.prog 28 = true := by kernel_rfl
theorem Tryz.ap4 : okF Tryz.prog 29 = true := by kernel_rfl
theorem Tryz.a5a : okF Tryz.prog 30 = true := by kernel_rfl
theorem Tryz.a3b : okF Tryz.prog 31 = true := by kernel_rfl
theorem Tryz.a4f : okF Tryz.prog 32 = true := by kernel_rfl
theorem Tryz.a5j : okF Tryz.prog 33 = true := by kernel_rfl
theorem Tryz.a33 : okF Tryz.prog 34 = true := by kernel_rfl
theorem Tryz.aul : okF Tryz.prog 35 = true := by kernel_rfl
theorem Tryz.a6h : okF Tryz.prog 36 = true := by kernel_rfl
theorem Tryz.a3z : okF Tryz.prog 37 = true := by kernel_rfl
theorem Tryz.a5c : okF Tryz.prog 38 = true := by kernel_rfl
theorem Tryz.a2o : okF Tryz.prog 39 = true := by kernel_rfl
theorem Tryz.a5s : okF Tryz.prog 40 = true := by kernel_rfl
theorem Tryz.a2c : okF Tryz.prog 42 = true := by kernel_rfl
theorem Tryz.a5n : okF Tryz.prog 43 = true := by kernel_rfl
theorem Tryz.a4x : okF Tryz.prog 44 = true := by kernel_rfl
theorem Tryz.a2d : okF Tryz.prog 45 = true := by kernel_rfl
theorem Tryz.a3o : okF Tryz.prog 46 = true := by kernel_rfl
theorem Tryz.a4l : okF Tryz.prog 47 = true := by kernel_rfl
theorem Tryz.a4k : okF Tryz.prog 48 = true := by kernel_rfl
theorem Tryz.avx : okF Tryz.prog 49 = true := by kernel_rfl
theorem Tryz.a5q : okF Tryz.prog 50 = true := by kernel_rfl
theorem Tryz.a2v : okF Tryz.prog 51 = true := by kernel_rfl
theorem Tryz.a5f : okF Tryz.prog 52 = true := by kernel_rfl
theorem Tryz.a5b : okF Tryz.prog 53 = true := by kernel_rfl
theorem Tryz.a2r : okF Tryz.prog 56 = true := by kernel_rfl
theorem Tryz.a2u : okF Tryz.prog 57 = true := by kernel_rfl
theorem Tryz.a6f : okF Tryz.prog 58 = true := by kernel_rfl
theorem Tryz.a5i : okF Tryz.prog 59 = true := by kernel_rfl
theorem Tryz.a2l : okF Tryz.prog 60 = true := by kernel_rfl
theorem Tryz.auw : okF Tryz.prog 61 = true := by kernel_rfl
theorem Tryz.a48 : okF Tryz.prog 62 = true := by kernel_rfl
theorem Tryz.avo : okF Tryz.prog 63 = true := by kernel_rfl
theorem Tryz.a6g : okF Tryz.prog 64 = true := by kernel_rfl
theorem Tryz.a5p : okF Tryz.prog 65 = true := by kernel_rfl
theorem Tryz.a1i : okF Tryz.prog 66 = true := by kernel_rfl
theorem Tryz.a4n : okF Tryz.prog 67 = true := by kernel_rfl
theorem Tryz.a3i : okF Tryz.prog 68 = true := by kernel_rfl
theorem Tryz.a58 : okF Tryz.prog 69 = true := by kernel_rfl
theorem Tryz.a1q : okF Tryz.prog 70 = true := by kernel_rfl
theorem Tryz.abn : okF Tryz.prog 71 = true := by kernel_rfl
theorem Tryz.yk : okF Tryz.prog 72 = true := by kernel_rfl
theorem Tryz.a2f : okF Tryz.prog 73 = true := by kernel_rfl
theorem Tryz.af1 : okF Tryz.prog 74 = true := by kernel_rfl
theorem Tryz.a2s : okF Tryz.prog 75 = true := by kernel_rfl
theorem Tryz.a18 : okF Tryz.prog 76 = true := by kernel_rfl
theorem Tryz.a50 : okF Tryz.prog 77 = true := by kernel_rfl
theorem Tryz.a3y : okF Tryz.prog 78 = true := by kernel_rfl
theorem Tryz.a3d : okF Tryz.prog 79 = true := by kernel_rfl
theorem Tryz.a3x : okF Tryz.prog 80 = true := by kernel_rfl
theorem Tryz.z6 : okF Tryz.prog 81 = true := by kernel_rfl
theorem Tryz.ad0 : okF Tryz.prog 82 = true := by kernel_rfl
theorem Tryz.adx : okF Tryz.prog 83 = true := by kernel_rfl
theorem Tryz.arl : okF Tryz.prog 84 = true := by kernel_rfl
theorem Tryz.a3n : okF Tryz.prog 87 = true := by kernel_rfl
theorem Tryz.a5v : okF Tryz.prog 88 = true := by kernel_rfl
theorem Tryz.a44 : okF Tryz.prog 89 = true := by kernel_rfl
theorem Tryz.a2x : okF Tryz.prog 90 = true := by kernel_rfl
theorem Tryz.a5d : okF Tryz.prog 91 = true := by kernel_rfl
theorem Tryz.a3t : okF Tryz.prog 92 = true := by kernel_rfl
theorem Tryz.a1y : okF Tryz.prog 93 = true := by kernel_rfl
theorem Tryz.a5m : okF Tryz.prog 94 = true := by kernel_rfl
theorem Tryz.a19 : okF Tryz.prog 95 = true := by kernel_rfl
theorem Tryz.a1n : okF Tryz.prog 97 = true := by kernel_rfl
theorem Tryz.a3v : okF Tryz.prog 98 = true := by kernel_rfl
theorem Tryz.a5e : okF Tryz.prog 99 = true := by kernel_rfl
theorem Tryz.aw6 : okF Tryz.prog 100 = true := by kernel_rfl
theorem Tryz.ax4 : okF Tryz.prog 101 = true := by kernel_rfl
theorem Tryz.axa : okF Tryz.prog 102 = true := by kernel_rfl
theorem Tryz.aym : okF Tryz.prog 103 = true := by kernel_rfl
theorem Tryz.ayh : okF Tryz.prog 104 = true := by kernel_rfl
theorem Tryz.aye : okF Tryz.prog 108 = true := by kernel_rfl
theorem Tryz.ay8 : okF Tryz.prog 109 = true := by kernel_rfl
theorem Tryz.aph : okF Tryz.prog 110 = true := by kernel_rfl
theorem Tryz.awm : okF Tryz.prog 111 = true := by kernel_rfl
theorem Tryz.ax5 : okF Tryz.prog 112 = true := by kernel_rfl
theorem Tryz.awx : okF Tryz.prog 113 = true := by kernel_rfl
theorem Tryz.aw5 : okF Tryz.prog 114 = true := by kernel_rfl
theorem Tryz.ayx : okF Tryz.prog 115 = true := by kernel_rfl
theorem Tryz.axw : okF Tryz.prog 116 = true := by kernel_rfl
theorem Tryz.ay6 : okF Tryz.prog 117 = true := by kernel_rfl
theorem Tryz.ax1 : okF Tryz.prog 118 = true := by kernel_rfl
theorem Tryz.ayc : okF Tryz.prog 119 = true := by kernel_rfl
theorem Tryz.aw8 : okF Tryz.prog 120 = true := by kernel_rfl
theorem Tryz.awr : okF Tryz.prog 121 = true := by kernel_rfl
theorem Tryz.ayb : okF Tryz.prog 122 = true := by kernel_rfl
theorem Tryz.ayf : okF Tryz.prog 123 = true := by kernel_rfl
theorem Tryz.aw7 : okF Tryz.prog 124 = true := by kernel_rfl
theorem Tryz.aka : okF Tryz.prog 125 = true := by kernel_rfl
theorem Tryz.awp : okF Tryz.prog 126 = true := by kernel_rfl
theorem Tryz.axl : okF Tryz.prog 127 = true := by kernel_rfl
theorem Tryz.axx : okF Tryz.prog 131 = true := by kernel_rfl
theorem Tryz.axp : okF Tryz.prog 132 = true := by kernel_rfl
theorem Tryz.xz : okF Tryz.prog 133 = true := by kernel_rfl
theorem Tryz.wz : okF Tryz.prog 134 = true := by kernel_rfl
theorem Tryz.aza : okF Tryz.prog 135 = true := by kernel_rfl
theorem Tryz.axh : okF Tryz.prog 136 = true := by kernel_rfl
theorem Tryz.axv : okF Tryz.prog 141 = true := by kernel_rfl
theorem Tryz.x5 : okF Tryz.prog 144 = true := by kernel_rfl
theorem Tryz.we : okF Tryz.prog 145 = true := by kernel_rfl
theorem Tryz.ax2 : okF Tryz.prog 146 = true := by kernel_rfl
theorem Tryz.ax7 : okF Tryz.prog 147 = true := by kernel_rfl
theorem Tryz.awq : okF Tryz.prog 148 = true := by kernel_rfl
theorem Tryz.axi : okF Tryz.prog 149 = true := by kernel_rfl
theorem Tryz.aw9 : okF Tryz.prog 150 = true := by kernel_rfl
theorem Tryz.ayt : okF Tryz.prog 151 = true := by kernel_rfl
theorem Tryz.ax9 : okF Tryz.prog 152 = true := by kernel_rfl
theorem Tryz.awj : okF Tryz.prog 153 = true := by kernel_rfl
theorem Tryz.ayw : okF Tryz.prog 154 = true := by kernel_rfl
theorem Tryz.axc : okF Tryz.prog 155 = true := by kernel_rfl
theorem Tryz.aya : okF Tryz.prog 156 = true := by kernel_rfl
theorem Tryz.azb : okF Tryz.prog 161 = true := by kernel_rfl
theorem Tryz.awc : okF Tryz.prog 162 = true := by kernel_rfl
theorem Tryz.ayq : okF Tryz.prog 163 = true := by kernel_rfl
theorem Tryz.awa : okF Tryz.prog 164 = true := by kernel_rfl
theorem Tryz.ax3 : okF Tryz.prog 165 = true := by kernel_rfl
theorem Tryz.ali : okF Tryz.prog 166 = true := by kernel_rfl
theorem Tryz.awt : okF Tryz.prog 178 = true := by kernel_rfl
theorem Tryz.ag2 : okF Tryz.prog 179 = true := by kernel_rfl
theorem Tryz.axm : okF Tryz.prog 183 = true := by kernel_rfl
theorem Tryz.ay1 : okF Tryz.prog 184 = true := by kernel_rfl
theorem Tryz.axn : okF Tryz.prog 195 = true := by kernel_rfl
theorem Tryz.ayz : okF Tryz.prog 196 = true := by kernel_rfl
theorem Tryz.aw3 : okF Tryz.prog 200 = true := by kernel_rfl
end Go.Proofs
end
section
set_option maxRecDepth 100000
namespace Go.Proofs
open Go.Lv
def IntS.cs (x : Int) : List V := [.int .i64 x]
instance : ri IntS.cs 1 := ⟨fun _ => rfl, fun _ d => by cases d <;> rfl, fun _ => rfl, fun _ => rfl⟩
theorem IntS.csl (a : Int) : (IntS.cs a).length = 1 := rfl
abbrev IntS.ok (x : Int) : Prop := bt x
abbrev IntS.sl (L : List Int) : V := .sl L.length 1 (Go.Lv.rows IntS.cs L)
abbrev IntS.zs : List V := [.int .i64 0]
def IntS.marks (k : Int) (n : Nat) : List Int := (List.range n).map fun i : Nat => k + (i : Int)
@[simp] theorem IntS.tj (k : Int) (n : Nat) : (IntS.marks k n).length = n := by simp [IntS.marks]
abbrev IntS.v (x : Int) : V := .int .i64 x
end Go.Proofs
end
section
set_option maxRecDepth 100000
set_option maxHeartbeats 1000000
namespace Go.Proofs
open Go.Lv
structure Cur where
 a : Int
 s : Int
def Cur.cs (B : List Int) (c : Cur) : List V := [ByteS.sl B, .int .i64 c.a, .int .u64 c.s]
def CB (B : List Int) : Prop := aes u8R B
def Cur.le (c : Cur) (k : Int) : Prop := 0 ≤ c.a ∧ c.a ≤ k
theorem Cur.ren (B : List Int) (c : Cur) (f : Nat → R) (d : Nat) : (c.cs B).map (Go.Lv.ren f d) = c.cs B := by cases d <;> simp [Cur.cs, Go.Lv.ren]
theorem dp {B : List Int} {c : Cur} {h : Hp} {id : Nat} (hid : h[id]? = some (some (c.cs B))) : az [id] h false = [some (c.cs B)] := by
 simp only [az, List.map_cons, List.map_nil, bg, hid, Cur.ren]
theorem bq {α : Type} {cs : α → List V} {w : Nat} [ri cs w] {L : List α} {B : List Int} {c : Cur} {h : Hp} {i j : Nat} (hi : h[i]? = some (some (c.cs B))) (hj : h[j]? = some (some (rows cs L))) : az [i, j] h false = [some (c.cs B), some (rows cs L)] := by
 simp only [az, List.map_cons, List.map_nil, bg, hi, hj, Cur.ren, ae]
theorem ig (B : List Int) (c c' : Cur) : grown [some (c.cs B)] [some (c'.cs B)] := ⟨⟨rfl, rfl⟩, trivial⟩
theorem bp {α : Type} {cs : α → List V} {L : List α} (B : List Int) (c c' : Cur) : grown [some (c.cs B), some (rows cs L)] [some (c'.cs B), some (rows cs L)] := ⟨⟨rfl, rfl⟩, ⟨rfl, rfl⟩, trivial⟩
theorem aix (x : Int) : 0 ≤ ahn .u64 x 255 ∧ ahn .u64 x 255 ≤ 255 := by
 have h : ∀ y : BitVec 64, (y &&& BitVec.ofInt 64 255).toNat ≤ 255 := fun y => by
  rw [BitVec.toNat_and]
  exact Nat.le_trans Nat.and_le_right (by decide)
 have hb : (BitVec.ofInt 64 x &&& BitVec.ofInt 64 255).toNat ≤ 255 := h _
 have hw : ahn .u64 x 255 = (((BitVec.ofInt 64 x &&& BitVec.ofInt 64 255).toNat : Nat) : Int) := by
  unfold ahn
  show IntKind.u64.wrap (((BitVec.ofInt 64 x &&& BitVec.ofInt 64 255).toNat : Nat) : Int) = _
  generalize (BitVec.ofInt 64 x &&& BitVec.ofInt 64 255).toNat = n at hb
  simp [IntKind.wrap, IntKind.bits, IntKind.signed]
  omega
 rw [hw]
 omega
def my (B : List Int) (c : Cur) : Int := if c.a < B.length then B.getD c.a.toNat 0 else 0
def ajp (B : List Int) (c : Cur) : Int := IntKind.u64.wrap (IntKind.u64.wrap (IntKind.u64.wrap (c.s * 6364136223846793005) + IntKind.u64.wrap (my B c)) + 101717)
def re (B : List Int) (c : Cur) : Cur := ⟨c.a + 1, ajp B c⟩
def ou (B : List Int) (c : Cur) : Int := if c.a < B.length then my B c else ahn .u64 (am7 .u64 (ajp B c) 40) 255
theorem arh {B : List Int} (hB : CB B) {c : Cur} (h : 0 ≤ c.a) : 0 ≤ my B c ∧ my B c ≤ 255 := by
 unfold my
 split
 · have hi : c.a.toNat < B.length := by omega
   have := hB.2 _ (List.getElem_mem hi)
   simpa [List.getD, hi, u8R] using this
 · omega
theorem zx {B : List Int} (hB : CB B) {c : Cur} (h : 0 ≤ c.a) : 0 ≤ ou B c ∧ ou B c ≤ 255 := by
 unfold ou
 split
 · exact arh hB h
 · exact aix _
theorem ams {B : List Int} (hB : CB B) {c : Cur} (hc : c.le 4611686018427387904) : Ctr Tryz.prog 61 [.ptr 0 0] [some (c.cs B)] (.int .i64 (ou B c)) [some ((re B c).cs B)] := by
 obtain ⟨a, s⟩ := c
 obtain ⟨ha, hak⟩ := hc
 dsimp only at ha hak
 have hw : IntKind.i64.wrap (a + 1) = a + 1 := wrap_i64 (by omega) (by omega)
 have hbl := hB.1
 by_cases h1 : a < B.length
 · obtain ⟨i, rfl⟩ : ∃ i : Nat, a = i := ⟨a.toNat, by omega⟩
   have hi : i < B.length := by omega
   have hr := bw ByteS.csl hi
   obtain ⟨b0, b1⟩ : 0 ≤ B[i] ∧ B[i] ≤ 255 := by have := hB.2 _ (List.getElem_mem hi); simpa [u8R] using this
   have hwb : IntKind.i64.wrap B[i] = B[i] := wrap_i64 (by omega) (by omega)
   have hd : decide ((i : Int) < (B.length : Int)) = true := by simp; omega
   have hd2 : decide ((i : Int) + 1 ≤ (B.length : Int)) = true := by simp; omega
   have e1 : my B ⟨i, s⟩ = B[i] := by simp [my, h1, List.getD, hi]
   have e2 : ou B ⟨i, s⟩ = B[i] := by simp [ou, h1, e1]
   rw [re, ajp, e1, e2]
   refine Ctr.intro Tryz.mixed Tryz.func61 rfl Tryz.auw ?_
   refine ev2 @Tryz.ntmps61 @Tryz.results61 ?_
   refine rn7 @Cur.cs.eq_1 @hw @hd @hd2 @hr @ByteS.cs.eq_1 @hwb ?_
   exact ak.refl _ _ _
 · have hd : decide (a < (B.length : Int)) = false := by simp; omega
   have hd2 : decide (a + 1 ≤ (B.length : Int)) = false := by simp; omega
   have e3 : ou B ⟨a, s⟩ = ahn .u64 (am7 .u64 (ajp B ⟨a, s⟩) 40) 255 := by simp [ou, h1]
   have e4 : my B ⟨a, s⟩ = 0 := by simp [my, h1]
   rw [re, e3]
   rw [ajp, e4]
   obtain ⟨e1, e2⟩ := aix (am7 .u64 (IntKind.u64.wrap (IntKind.u64.wrap (IntKind.u64.wrap (s * 6364136223846793005) + IntKind.u64.wrap 0) + 101717)) 40)
   generalize hq : ahn .u64 (am7 .u64 (IntKind.u64.wrap (IntKind.u64.wrap (IntKind.u64.wrap (s * 6364136223846793005) + IntKind.u64.wrap 0) + 101717)) 40) 255 = q at e1 e2 ⊢
   have hwq : IntKind.i64.wrap q = q := wrap_i64 (by omega) (by omega)
   refine Ctr.intro Tryz.mixed Tryz.func61 rfl Tryz.auw ?_
   refine ev2 @Tryz.ntmps61 @Tryz.results61 ?_
   refine rn5 @Cur.cs.eq_1 @hw @hd @hd2 @hq ?_
   exact ak.refl _ _ _
def iu (B : List Int) (n : Int) (c : Cur) : Int := if n ≤ 1 then 0 else if 200 < n then (ou B c * 256 + ou B (re B c)).tmod n else (ou B c).tmod n
def ff (B : List Int) (n : Int) (c : Cur) : Cur := if n ≤ 1 then c else if 200 < n then re B (re B c) else re B c
theorem dk {B : List Int} {n k : Int} {c : Cur} (h : c.le k) : (ff B n c).le (k + 2) := by
 unfold ff re Cur.le at *
 split
 · omega
 · split <;> (simp only []; omega)
theorem e9 {B : List Int} (hB : CB B) {n : Int} {c : Cur} (h : 0 ≤ c.a) : 0 ≤ iu B n c ∧ (1 ≤ n → iu B n c < n) := by
 have h1 := zx hB h
 have h2 := zx hB (c := re B c) (by simp [re]; omega)
 unfold iu
 split
 · omega
 · split
   · exact ⟨Int.tmod_nonneg _ (by omega), fun _ => Int.tmod_lt_of_pos _ (by omega)⟩
   · exact ⟨Int.tmod_nonneg _ (by omega), fun _ => Int.tmod_lt_of_pos _ (by omega)⟩
theorem jz {B : List Int} (hB : CB B) {c : Cur} (hc : c.le 4611686018427387903) (n : Int) (hn : n ≤ 1000000000) : Ctr Tryz.prog 29 [.ptr 0 0, .int .i64 n] [some (c.cs B)] (.int .i64 (iu B n c)) [some ((ff B n c).cs B)] := by
 obtain ⟨r1, r2⟩ := zx hB hc.1
 have hc1 : (re B c).le 4611686018427387904 := by obtain ⟨h, h'⟩ := hc; exact ⟨by simp [re]; omega, by simp [re]; omega⟩
 obtain ⟨q1, q2⟩ := zx hB hc1.1
 have p4 := ams hB (c := c) ⟨hc.1, by have := hc.2; omega⟩
 have q4 := ams hB hc1
 by_cases h1 : n ≤ 1
 · have hd : decide (n ≤ 1) = true := by simp [h1]
   rw [iu, ff, if_pos h1, if_pos h1]
   refine Ctr.intro Tryz.mixed Tryz.func29 rfl Tryz.ap4 ?_
   refine ev2 @Tryz.ntmps29 @Tryz.results29 ?_
   refine rn1 @hd ?_
   exact ak.refl _ _ _
 have hd : decide (n ≤ 1) = false := by simp; omega
 by_cases h2 : 200 < n
 · have hd2 : decide (200 < n) = true := by simp [h2]
   have hw : IntKind.i64.wrap (ou B c * 256) = ou B c * 256 := wrap_i64 (by omega) (by omega)
   have hw2 : IntKind.i64.wrap (ou B c * 256 + ou B (re B c)) = ou B c * 256 + ou B (re B c) := wrap_i64 (by omega) (by omega)
   rw [iu, ff, if_neg h1, if_neg h1, if_pos h2, if_pos h2]
   refine Ctr.intro Tryz.mixed Tryz.func29 rfl Tryz.ap4 ?_
   refine ev2 @Tryz.ntmps29 @Tryz.results29 ?_
   refine rn1 @hd ?_
   refine ai.df [0] false p4 (by decide) ⟨leO, trivial⟩ (dp rfl) (ig B _ _) (.inl rfl) ?_
   refine rn3 @hd2 @hw @Cur.ren ?_
   refine ai.df [0] false q4 (by decide) ⟨leO, trivial⟩ (dp rfl) (ig B _ _) (.inl rfl) ?_
   refine rn2 @hw2 @Cur.ren ?_
   exact ak.refl _ _ _
 · have hd2 : decide (200 < n) = false := by simp [h2]
   rw [iu, ff, if_neg h1, if_neg h1, if_neg h2, if_neg h2]
   refine Ctr.intro Tryz.mixed Tryz.func29 rfl Tryz.ap4 ?_
   refine ev2 @Tryz.ntmps29 @Tryz.results29 ?_
   refine rn1 @hd ?_
   refine ai.df [0] false p4 (by decide) ⟨leO, trivial⟩ (dp rfl) (ig B _ _) (.inl rfl) ?_
   refine rn2 @hd2 @Cur.ren ?_
   exact ak.refl _ _ _
theorem gy {B : List Int} (hB : CB B) {c : Cur} {k : Int} (hc : c.le k) (hk : k ≤ 4000000) (n : Int) (hn : n ≤ 1000000000) {t : List V} {h : Hp} {kk : Nat} {dst : Option Tmp} {Q : St → Prop} {x : Tag Q} {ci : Nat} (h0 : h[ci]? = some (some (c.cs B)))
 (hq : ∀ (v : Int) (c' : Cur), (0 ≤ v ∧ (1 ≤ n → v < n)) → c'.le (k + 2) → Q (sj ⟨t, h, kk⟩ dst [ci] (.int .i64 v) [some (c'.cs B)])) : ai Tryz.prog ⟨t, h, kk⟩ dst (.fn (.func 29) [] []) [.ptr ci 0, .int .i64 n] Q x :=
 ai.df [ci] false (jz hB ⟨hc.1, by have := hc.2; omega⟩ n hn) (by simp) ⟨by simp [ren, bc, posOf, LeV], leO, trivial⟩ (dp h0) (ig B _ _) (.inl rfl) (hq _ _ (e9 hB hc.1) (dk hc))
def oneV (B : List Int) (n : Int) (c : Cur) : Bool := iu B n c == 0
theorem aq8 {B : List Int} (hB : CB B) {c : Cur} (hc : c.le 4611686018427387903) (n : Int) (hn : n ≤ 1000000000) : Ctr Tryz.prog 28 [.ptr 0 0, .int .i64 n] [some (c.cs B)] (.bool (oneV B n c)) [some ((ff B n c).cs B)] := by
 refine Ctr.intro Tryz.mixed Tryz.func28 rfl Tryz.a30 ?_
 refine ev2 @Tryz.ntmps28 @Tryz.results28 ?_
 refine rn0 ?_
 refine ai.df [0] false (jz hB hc n hn) (by decide) ⟨leO, leO, trivial⟩ (dp rfl) (ig B _ _) (.inl rfl) ?_
 refine rn1 @Cur.ren ?_
 exact ak.refl _ _ _
theorem dy {B : List Int} (hB : CB B) {c : Cur} {k : Int} (hc : c.le k) (hk : k ≤ 4000000) (n : Int) (hn : n ≤ 1000000000) {t : List V} {h : Hp} {kk : Nat} {dst : Option Tmp} {Q : St → Prop} {x : Tag Q} {ci : Nat} (h0 : h[ci]? = some (some (c.cs B)))
 (hq : ∀ (v : Bool) (c' : Cur), c'.le (k + 2) → Q (sj ⟨t, h, kk⟩ dst [ci] (.bool v) [some (c'.cs B)])) : ai Tryz.prog ⟨t, h, kk⟩ dst (.fn (.func 28) [] []) [.ptr ci 0, .int .i64 n] Q x :=
 ai.df [ci] false (aq8 hB ⟨hc.1, by have := hc.2; omega⟩ n hn) (by simp) ⟨by simp [ren, bc, posOf, LeV], leO, trivial⟩ (dp h0) (ig B _ _) (.inl rfl) (hq _ _ (dk hc))
def mz (B : List Int) (K : List Int) (c : Cur) : Int := K.getD (iu B K.length c).toNat 0
theorem l8 {B : List Int} (hB : CB B) {K : List Int} (hK : 0 < K.length) {c : Cur} (h : 0 ≤ c.a) : mz B K c ∈ K := by
 obtain ⟨h1, h2⟩ := e9 hB (n := K.length) h
 have hi : (iu B K.length c).toNat < K.length := by omega
 simp [mz, List.getD, hi]
theorem oq {B : List Int} (hB : CB B) {c : Cur} (hc : c.le 4611686018427387903) (K : List Int) (hK0 : 0 < K.length) (hK : K.length ≤ 1000000000) : Ctr Tryz.prog 98 [.ptr 0 0, .osl 1 0 K.length 1] [some (c.cs B), some (rows IntS.cs K)] (.int .i64 (mz B K c)) [some ((ff B K.length c).cs B), some (rows IntS.cs K)] := by
 obtain ⟨h1, h2⟩ := e9 hB (n := K.length) hc.1
 obtain ⟨i, hi'⟩ : ∃ i : Nat, iu B K.length c = i := ⟨(iu B K.length c).toNat, by omega⟩
 have hi : i < K.length := by omega
 have hr := bw IntS.csl hi
 have e : mz B K c = K[i] := by simp [mz, hi', List.getD, hi]
 have hp := jz hB hc K.length (by omega)
 rw [hi'] at hp
 rw [e]
 refine Ctr.intro Tryz.mixed Tryz.func98 rfl Tryz.a3v ?_
 refine ev2 @Tryz.ntmps98 @Tryz.results98 ?_
 refine rn0 ?_
 refine ai.df [0] false hp (by decide) ⟨leO, leO, trivial⟩ (dp rfl) (ig B _ _) (.inl rfl) ?_
 refine rn3 @Cur.ren @hr @IntS.cs.eq_1 ?_
 exact ak.refl _ _ _
theorem an {B : List Int} (hB : CB B) {c : Cur} {k : Int} (hc : c.le k) (hk : k ≤ 4000000) (K : List Int) (hK0 : 0 < K.length) (hK : K.length ≤ 1000000000) {t : List V} {h : Hp} {kk : Nat} {dst : Option Tmp} {Q : St → Prop} {x : Tag Q} {ci : Nat} (h0 : h[ci]? = some (some (c.cs B))) {i : Nat} (h1 : h[i]? = some (some (rows IntS.cs K))) (hne : (ci == i) = false)
 (hq : ∀ (v : Int) (c' : Cur), v ∈ K → c'.le (k + 2) → Q (sj ⟨t, h, kk⟩ dst [ci, i] (.int .i64 v) [some (c'.cs B), some (rows IntS.cs K)])) : ai Tryz.prog ⟨t, h, kk⟩ dst (.fn (.func 98) [] []) [.ptr ci 0, .osl i 0 K.length 1] Q x := by
 have hn : ci ≠ i := by simpa using hne
 have hn' : (i == ci) = false := by simpa using Ne.symm hn
 exact ai.df [ci, i] false (oq hB ⟨hc.1, by have := hc.2; omega⟩ K hK0 hK) (by simp [hn]) ⟨by simp [ren, bc, posOf, LeV], by simp [ren, bc, posOf, LeV, Ne.symm hn], trivial⟩ (bq h0 h1) (bp B _ _) (.inl rfl) (hq _ _ (l8 hB hK0 hc.1) (dk hc))
end Go.Proofs
end
section
set_option maxRecDepth 100000
namespace Go.Proofs
open Go.Lv
def fb (n a b : Int) : Bool := decide (a ≤ n) && decide (n ≤ b)
theorem gr {n a b : Int} : fb n a b = true ↔ a ≤ n ∧ n ≤ b := by simp [fb]
theorem j8 (n a b : Int) : Ctr Tryz.prog 57 [.int .i64 n, .int .i64 a, .int .i64 b] [] (.bool (fb n a b)) [] := by
 refine Ctr.intro Tryz.mixed Tryz.func57 rfl Tryz.a2u ?_
 refine ev2 @Tryz.ntmps57 @Tryz.results57 ?_
 refine aw.bu (fun h1 => ?_) (fun h1 => ?_) <;> refine ev1 @h1 ?_
 · exact ak.of_eq (by simp [fb, h1])
 · exact ak.of_eq (by simp [fb, h1])
theorem dx (n a b : Int) : Ctr Tryz.prog 104 [.int .i64 n, .int .i64 a, .int .i64 b] [] (.bool (fb n a b)) [] := by
 refine Ctr.intro Tryz.mixed Tryz.func104 rfl Tryz.ayh ?_
 refine ev2 @Tryz.ntmps104 @Tryz.results104 ?_
 refine aw.bu (fun h1 => ?_) (fun h1 => ?_) <;> refine ev1 @h1 ?_
 · exact ak.of_eq (by simp [fb, h1])
 · exact ak.of_eq (by simp [fb, h1])
theorem abr {α : Type} {p : α → Bool} {k : α → Int} {m : Nat} {L : List α} (h : jh p k m L = true) : (∀ x ∈ L, p x = true) ∧ L.length ≤ m := by
 simp only [jh, Bool.and_eq_true, decide_eq_true_eq, List.all_eq_true, List.mem_range] at h
 refine ⟨fun x hx => ?_, h.2⟩
 obtain ⟨i, hi, rfl⟩ := List.getElem_of_mem hx
 have := h.1 i hi
 simp only [gx, List.getElem?_eq_getElem hi, Bool.and_eq_true] at this
 exact this.1
theorem acw {α : Type} {p : α → Bool} {k : α → Int} {m : Nat} {L : List α} (h : jh p k m L = true) : (L.map k).Pairwise (· < ·) := by
 simp only [jh, Bool.and_eq_true, List.all_eq_true, List.mem_range] at h
 have adj : ∀ j, (hj : j + 1 < L.length) → k (L[j]'(by omega)) < k L[j + 1] := by
  intro j hj
  have := h.1 (j + 1) hj
  rw [ij hj] at this
  simp at this
  exact this.2
 rw [List.pairwise_iff_getElem]
 intro i j hi hj hij
 simp only [List.length_map] at hi hj
 simp only [List.getElem_map]
 induction j with
 | zero => omega
 | succ j ih =>
  have h1 := adj j hj
  rcases Nat.lt_succ_iff_lt_or_eq.1 hij with h2 | h2
  · have := ih (by simpa using (by omega : j < L.length)) h2 (by omega)
    omega
  · subst h2; exact h1
end Go.Proofs
end
section
set_option maxRecDepth 100000
namespace Go.Proofs
open Go.Lv
def agp (x y : Int) : Bool := fb x 0 999 && fb y 0 999
theorem afs (n : Int) : Ctr Tryz.prog 91 [.int .i64 n] [] (.bool (fb n 0 1000000)) [] := by
 refine Ctr.intro Tryz.mixed Tryz.func91 rfl Tryz.a5d ?_
 refine ev2 @Tryz.ntmps91 @Tryz.results91 ?_
 repeat' (first | (refine ak.au ?_ (by rfl); first | rfl | (simp [agp, *]; done)) | ((first | refine al.at (j8 _ _ _) ⟨leA, leA, leA, trivial⟩ ?_ | refine ai.at (j8 _ _ _) ⟨leA, leA, leA, trivial⟩ ?_); simp -implicitDefEqProofs -dsimp only [go_sem, *]) | (refine aw.bu (fun _ => ?_) (fun _ => ?_) <;> simp -implicitDefEqProofs -dsimp only [go_sem, *]) | (refine aw.cg (fun _ => ?_) (fun _ => ?_) <;> simp -implicitDefEqProofs -dsimp only [go_sem, *]) | (refine ax.split (fun _ => ?_) (fun _ => ?_) <;> simp -implicitDefEqProofs -dsimp only [go_sem, *]))
theorem aff (n : Int) : Ctr Tryz.prog 119 [.int .i64 n] [] (.bool (fb n 0 1000000)) [] := by
 refine Ctr.intro Tryz.mixed Tryz.func119 rfl Tryz.ayc ?_
 refine ev2 @Tryz.ntmps119 @Tryz.results119 ?_
 repeat' (first | (refine ak.au ?_ (by rfl); first | rfl | (simp [agp, *]; done)) | ((first | refine al.at (dx _ _ _) ⟨leA, leA, leA, trivial⟩ ?_ | refine ai.at (dx _ _ _) ⟨leA, leA, leA, trivial⟩ ?_); simp -implicitDefEqProofs -dsimp only [go_sem, *]) | (refine aw.bu (fun _ => ?_) (fun _ => ?_) <;> simp -implicitDefEqProofs -dsimp only [go_sem, *]) | (refine aw.cg (fun _ => ?_) (fun _ => ?_) <;> simp -implicitDefEqProofs -dsimp only [go_sem, *]) | (refine ax.split (fun _ => ?_) (fun _ => ?_) <;> simp -implicitDefEqProofs -dsimp only [go_sem, *]))
theorem w2 (n : Int) : Ctr Tryz.prog 88 [.int .i64 n] [] (.bool (fb n 1 99)) [] := by
 refine Ctr.intro Tryz.mixed Tryz.func88 rfl Tryz.a5v ?_
 refine ev2 @Tryz.ntmps88 @Tryz.results88 ?_
 repeat' (first | (refine ak.au ?_ (by rfl); first | rfl | (simp [agp, *]; done)) | ((first | refine al.at (j8 _ _ _) ⟨leA, leA, leA, trivial⟩ ?_ | refine ai.at (j8 _ _ _) ⟨leA, leA, leA, trivial⟩ ?_); simp -implicitDefEqProofs -dsimp only [go_sem, *]) | (refine aw.bu (fun _ => ?_) (fun _ => ?_) <;> simp -implicitDefEqProofs -dsimp only [go_sem, *]) | (refine aw.cg (fun _ => ?_) (fun _ => ?_) <;> simp -implicitDefEqProofs -dsimp only [go_sem, *]) | (refine ax.split (fun _ => ?_) (fun _ => ?_) <;> simp -implicitDefEqProofs -dsimp only [go_sem, *]))
theorem mr (n : Int) : Ctr Tryz.prog 90 [.int .i64 n] [] (.bool (fb n (-20) 95)) [] := by
 refine Ctr.intro Tryz.mixed Tryz.func90 rfl Tryz.a2x ?_
 refine ev2 @Tryz.ntmps90 @Tryz.results90 ?_
 repeat' (first | (refine ak.au ?_ (by rfl); first | rfl | (simp [agp, *]; done)) | ((first | refine al.at (j8 _ _ _) ⟨leA, leA, leA, trivial⟩ ?_ | refine ai.at (j8 _ _ _) ⟨leA, leA, leA, trivial⟩ ?_); simp -implicitDefEqProofs -dsimp only [go_sem, *]) | (refine aw.bu (fun _ => ?_) (fun _ => ?_) <;> simp -implicitDefEqProofs -dsimp only [go_sem, *]) | (refine aw.cg (fun _ => ?_) (fun _ => ?_) <;> simp -implicitDefEqProofs -dsimp only [go_sem, *]) | (refine ax.split (fun _ => ?_) (fun _ => ?_) <;> simp -implicitDefEqProofs -dsimp only [go_sem, *]))
end Go.Proofs
end
section
set_option maxRecDepth 100000
namespace Go.Proofs
open Go.Lv
structure bf where
 Station : Int
 Up : Bool
 Since : Int
def bf.cs (r : bf) : List V := [.int .i64 r.Station, .bool r.Up, .int .i64 r.Since]
def bf.v (r : bf) : V := .agg [.int .i64 r.Station, .bool r.Up, .int .i64 r.Since]
theorem bf.csl (a : bf) : a.cs.length = 3 := rfl
instance : ri bf.cs 3 := ⟨fun _ => rfl, fun _ d => by cases d <;> rfl, fun _ => rfl, fun _ => rfl⟩
def bf.ok (r : bf) : Prop := bt r.Station ∧ bt r.Since
abbrev bf.rows (L : List bf) : List V := Go.Lv.rows bf.cs L
abbrev bf.sl (L : List bf) : V := .sl L.length 3 (Go.Lv.rows bf.cs L)
abbrev bf.zs : List V := [.int .i64 0, .bool false, .int .i64 0]
def bf.mk1 (k : Int) : bf := ⟨k, ((k + 1).tmod 3 == 0), k + 1 + 1⟩
def bf.marks (k : Int) (n : Nat) : List bf := (List.range n).map fun i : Nat => bf.mk1 (k + 3 * (i : Int))
@[simp] theorem bf.tj (k : Int) (n : Nat) : (bf.marks k n).length = n := by simp [bf.marks]
theorem s9 (L : List bf) (p : bf → Bool) (key : bf → Int) (most : Int) (fv fk : Nat) (vc kc : List V) (hvc : ∀ d, vc.all (da d) = true) (hkc : ∀ d, kc.all (da d) = true) (hv : ∀ x, Ctr Tryz.prog fv (bf.v x :: vc) [] (.bool (p x)) []) (hkey : ∀ x, Ctr Tryz.prog fk (bf.v x :: kc) [] (.int .i64 (key x)) []) (m : Nat) (hm : most = m) (hl : L.length ≤ 281474976710656) :
 Ctr Tryz.prog 92 [bf.sl L, .int .i64 most, .fn (.func fv) [] vc, .fn (.func fk) [] kc] [] (.bool (jh p key m L)) [] := by
 subst hm
 refine Ctr.intro Tryz.mixed Tryz.func92 rfl Tryz.a3t ?_
 refine ev2 @Tryz.ntmps92 @Tryz.results92 ?_
 have hvc2 : ∀ f d, vc.map (ren f d) = vc := fun f d => r3 f (hvc d)
 have hkc2 : ∀ f d, kc.map (ren f d) = kc := fun f d => r3 f (hkc d)
 refine dh.intro (fun i : Nat => i ≤ L.length ∧ (List.range i).all (gx p key L) = true) (fun i => ⟨(bf.sl L :: .int .i64 m :: .fn (.func fv) [] vc :: .fn (.func fk) [] kc :: (un 7 (bf.sl L :: .int .i64 L.length :: .int .i64 i :: (un 30 [])))), [], 0⟩) (fun i => L.length - i) 0 ⟨Nat.zero_le _, rfl⟩ ?_ (fun i hi => ?_)
 · refine aq.cut (0) (by simp) (by simp) ?_ ?_
   · simp [LeC, LeV, ren, bj, hvc2, hkc2]
   · rfl
 refine ev0 ?_
 refine ax.split (fun h1 => ?_) (fun h1 => ?_)
 · refine ev1 @h1 ?_
   have hi' : i < L.length := by simpa using h1
   have h5 := bf.csl L[i]
   have hr := bw bf.csl hi'
   refine ew2 @hr @bf.cs.eq_1 ?_
   repeat (with_reducible refine de ?_)
   refine al.intro (hv L[i]) ⟨.inl rfl, lh (hvc2 _ _)⟩ (.inl (by simp only [List.nil_append, List.cons_append, List.all_cons, hvc, Bool.and_true]; rfl)) ⟨tn (hvc 3), rfl⟩ ?_
   refine ev0 ?_
   refine aw.cg (fun h2 => ?_) (fun h2 => ?_) <;> refine ev1 @h2 ?_
   · have hw : p L[i] = true := by simpa using h2
     refine aw.bu (fun h3 => ?_) (fun h3 => ?_) <;> refine ev1 @h3 ?_
     · obtain ⟨j, rfl⟩ : ∃ j, i = j + 1 := ⟨i - 1, by simp at h3; omega⟩
       have hj : j < L.length := by omega
       refine al.intro (hkey L[j + 1]) ⟨.inl rfl, lh (hkc2 _ _)⟩ (.inl (by simp only [List.nil_append, List.cons_append, List.all_cons, hkc, Bool.and_true]; rfl)) ⟨tn (hkc 3), rfl⟩ ?_
       have hw1 : IntKind.i64.wrap (((j + 1 : Nat) : Int) - 1) = (j : Int) := by rw [wrap_i64 (by omega) (by omega)]; omega
       have hr2 := bw bf.csl hj
       refine ew3 @hw1 @hr2 @bf.cs.eq_1 ?_
       repeat (with_reducible refine de ?_)
       refine al.intro (hkey L[j]) ⟨.inl rfl, lh (hkc2 _ _)⟩ (.inl (by simp only [List.nil_append, List.cons_append, List.all_cons, hkc, Bool.and_true]; rfl)) ⟨tn (hkc 3), rfl⟩ ?_
       refine ew0 ?_
       refine ax.split (fun h4 => ?_) (fun h4 => ?_) <;> refine ev1 @h4 ?_
       · refine ak.au ?_ rfl
         have hq : gx p key L (j + 1) = false := by
          rw [ij hi', hw]
          simp at h4 ⊢
          omega
         rw [ju hi' hq]
       · refine ⟨j + 1 + 1, ⟨hi', gw hi.2 (by rw [ij hi', hw]; simp at h4 ⊢; omega)⟩, ?_, by omega⟩
         refine aq.cut (0) (by simp) (by simp) ?_ ?_
         · rw [wrap_i64 (by omega) (by omega)]
           simp [LeC, LeV, ren, bj, hvc2, hkc2]
         · rfl
     · have h0 : i = 0 := by simp at h3; omega
       refine ⟨i + 1, ⟨hi', gw hi.2 (by subst h0; rw [kq hi', hw])⟩, ?_, by omega⟩
       refine aq.cut (0) (by simp) (by simp) ?_ ?_
       · rw [wrap_i64 (by omega) (by omega)]
         simp [LeC, LeV, ren, bj, hvc2, hkc2]
       · rfl
   · have hw : p L[i] = false := by simpa using h2
     refine ak.au ?_ rfl
     have hq : gx p key L i = false := by simp [gx, hi', hw]
     rw [ju hi' hq]
 · refine ev1 @h1 ?_
   refine ak.au ?_ rfl
   have : i = L.length := by simp at h1; omega
   subst this
   rw [jh, hi.2]
   simp
   try omega
end Go.Proofs
end
section
set_option maxRecDepth 100000
namespace Go.Proofs
open Go.Lv
structure aj where
 Number : Int
 State : Int
 Seen : Int
 Size : Int
 Tick : Int
def aj.cs (r : aj) : List V := [.int .i64 r.Number, .int .i64 r.State, .int .i64 r.Seen, .int .i64 r.Size, .int .i64 r.Tick]
def aj.v (r : aj) : V := .agg [.int .i64 r.Number, .int .i64 r.State, .int .i64 r.Seen, .int .i64 r.Size, .int .i64 r.Tick]
theorem aj.csl (a : aj) : a.cs.length = 5 := rfl
instance : ri aj.cs 5 := ⟨fun _ => rfl, fun _ d => by cases d <;> rfl, fun _ => rfl, fun _ => rfl⟩
def aj.ok (r : aj) : Prop := bt r.Number ∧ bt r.State ∧ bt r.Seen ∧ bt r.Size ∧ bt r.Tick
abbrev aj.rows (L : List aj) : List V := Go.Lv.rows aj.cs L
abbrev aj.sl (L : List aj) : V := .sl L.length 5 (Go.Lv.rows aj.cs L)
abbrev aj.zs : List V := [.int .i64 0, .int .i64 0, .int .i64 0, .int .i64 0, .int .i64 0]
def aj.mk1 (k : Int) : aj := ⟨k, k + 1, k + 1 + 1, k + 1 + 1 + 1, k + 1 + 1 + 1 + 1⟩
def aj.marks (k : Int) (n : Nat) : List aj := (List.range n).map fun i : Nat => aj.mk1 (k + 5 * (i : Int))
@[simp] theorem aj.tj (k : Int) (n : Nat) : (aj.marks k n).length = n := by simp [aj.marks]
theorem r6 (L : List aj) (p : aj → Bool) (key : aj → Int) (most : Int) (fv fk : Nat) (vc kc : List V) (hvc : ∀ d, vc.all (da d) = true) (hkc : ∀ d, kc.all (da d) = true) (hv : ∀ x, Ctr Tryz.prog fv (aj.v x :: vc) [] (.bool (p x)) []) (hkey : ∀ x, Ctr Tryz.prog fk (aj.v x :: kc) [] (.int .i64 (key x)) []) (m : Nat) (hm : most = m) (hl : L.length ≤ 281474976710656) :
 Ctr Tryz.prog 94 [aj.sl L, .int .i64 most, .fn (.func fv) [] vc, .fn (.func fk) [] kc] [] (.bool (jh p key m L)) [] := by
 subst hm
 refine Ctr.intro Tryz.mixed Tryz.func94 rfl Tryz.a5m ?_
 refine ev2 @Tryz.ntmps94 @Tryz.results94 ?_
 have hvc2 : ∀ f d, vc.map (ren f d) = vc := fun f d => r3 f (hvc d)
 have hkc2 : ∀ f d, kc.map (ren f d) = kc := fun f d => r3 f (hkc d)
 refine dh.intro (fun i : Nat => i ≤ L.length ∧ (List.range i).all (gx p key L) = true) (fun i => ⟨(aj.sl L :: .int .i64 m :: .fn (.func fv) [] vc :: .fn (.func fk) [] kc :: (un 7 (aj.sl L :: .int .i64 L.length :: .int .i64 i :: (un 30 [])))), [], 0⟩) (fun i => L.length - i) 0 ⟨Nat.zero_le _, rfl⟩ ?_ (fun i hi => ?_)
 · refine aq.cut (0) (by simp) (by simp) ?_ ?_
   · simp [LeC, LeV, ren, bj, hvc2, hkc2]
   · rfl
 refine ev0 ?_
 refine ax.split (fun h1 => ?_) (fun h1 => ?_)
 · refine ev1 @h1 ?_
   have hi' : i < L.length := by simpa using h1
   have h5 := aj.csl L[i]
   have hr := bw aj.csl hi'
   refine ew2 @hr @aj.cs.eq_1 ?_
   repeat (with_reducible refine de ?_)
   refine al.intro (hv L[i]) ⟨.inl rfl, lh (hvc2 _ _)⟩ (.inl (by simp only [List.nil_append, List.cons_append, List.all_cons, hvc, Bool.and_true]; rfl)) ⟨tn (hvc 3), rfl⟩ ?_
   refine ev0 ?_
   refine aw.cg (fun h2 => ?_) (fun h2 => ?_) <;> refine ev1 @h2 ?_
   · have hw : p L[i] = true := by simpa using h2
     refine aw.bu (fun h3 => ?_) (fun h3 => ?_) <;> refine ev1 @h3 ?_
     · obtain ⟨j, rfl⟩ : ∃ j, i = j + 1 := ⟨i - 1, by simp at h3; omega⟩
       have hj : j < L.length := by omega
       refine al.intro (hkey L[j + 1]) ⟨.inl rfl, lh (hkc2 _ _)⟩ (.inl (by simp only [List.nil_append, List.cons_append, List.all_cons, hkc, Bool.and_true]; rfl)) ⟨tn (hkc 3), rfl⟩ ?_
       have hw1 : IntKind.i64.wrap (((j + 1 : Nat) : Int) - 1) = (j : Int) := by rw [wrap_i64 (by omega) (by omega)]; omega
       have hr2 := bw aj.csl hj
       refine ew3 @hw1 @hr2 @aj.cs.eq_1 ?_
       repeat (with_reducible refine de ?_)
       refine al.intro (hkey L[j]) ⟨.inl rfl, lh (hkc2 _ _)⟩ (.inl (by simp only [List.nil_append, List.cons_append, List.all_cons, hkc, Bool.and_true]; rfl)) ⟨tn (hkc 3), rfl⟩ ?_
       refine ew0 ?_
       refine ax.split (fun h4 => ?_) (fun h4 => ?_) <;> refine ev1 @h4 ?_
       · refine ak.au ?_ rfl
         have hq : gx p key L (j + 1) = false := by
          rw [ij hi', hw]
          simp at h4 ⊢
          omega
         rw [ju hi' hq]
       · refine ⟨j + 1 + 1, ⟨hi', gw hi.2 (by rw [ij hi', hw]; simp at h4 ⊢; omega)⟩, ?_, by omega⟩
         refine aq.cut (0) (by simp) (by simp) ?_ ?_
         · rw [wrap_i64 (by omega) (by omega)]
           simp [LeC, LeV, ren, bj, hvc2, hkc2]
         · rfl
     · have h0 : i = 0 := by simp at h3; omega
       refine ⟨i + 1, ⟨hi', gw hi.2 (by subst h0; rw [kq hi', hw])⟩, ?_, by omega⟩
       refine aq.cut (0) (by simp) (by simp) ?_ ?_
       · rw [wrap_i64 (by omega) (by omega)]
         simp [LeC, LeV, ren, bj, hvc2, hkc2]
       · rfl
   · have hw : p L[i] = false := by simpa using h2
     refine ak.au ?_ rfl
     have hq : gx p key L i = false := by simp [gx, hi', hw]
     rw [ju hi' hq]
 · refine ev1 @h1 ?_
   refine ak.au ?_ rfl
   have : i = L.length := by simp at h1; omega
   subst this
   rw [jh, hi.2]
   simp
   try omega
theorem vn (L : List aj) (p : aj → Bool) (fv : Nat) (vc : List V) (hvc : ∀ d, vc.all (da d) = true) (hv : ∀ x, Ctr Tryz.prog fv (aj.v x :: vc) [] (.bool (p x)) []) (hl : L.length ≤ 16777216) :
 Ctr Tryz.prog 149 [aj.sl L, .fn (.func fv) [] vc] [] (.osl 0 0 (L.filter p).length 5) [some (rows aj.cs (L.filter p))] := by
 refine Ctr.intro Tryz.mixed Tryz.func149 rfl Tryz.axi ?_
 refine ev2 @Tryz.ntmps149 @Tryz.results149 ?_
 have hvc2 : ∀ f d, vc.map (ren f d) = vc := fun f d => r3 f (hvc d)
 have hstep : ∀ {i : Nat} (hi : i < L.length), (L.take (i + 1)).filter p = (L.take i).filter p ++ if p L[i] then [L[i]] else [] := fun {i} hi => by
  rw [List.take_succ_eq_append_getElem hi, List.filter_append]
  congr 1
  cases h : p L[i] <;> simp [h]
 refine dh.intro (fun i : Nat => i ≤ L.length) (fun i => ⟨(.undef :: .fn (.func fv) [] vc :: (un 3 (.osl 0 0 ((L.take i).filter p).length 5 :: (un 3 (aj.sl L :: .int .i64 L.length :: .int .i64 i :: (un 12 [])))))), [some (rows aj.cs ((L.take i).filter p))], 0⟩) (fun i => L.length - i) 0 (Nat.zero_le _) ?_ (fun i hi => ?_)
 · refine aq.cut (1) (by simp) (by simp) ?_ ?_
   · simp [LeC, LeV, ren, bj, hvc2]
   · simp [bz, ck, rows]
 refine ev0 ?_
 refine ax.split (fun h1 => ?_) (fun h1 => ?_)
 · refine ev1 @h1 ?_
   have hi' : i < L.length := by simpa using h1
   have hf : ((L.take i).filter p).length ≤ i := Nat.le_trans (List.length_filter_le _ _) (by simp; omega)
   have h5 := aj.csl L[i]
   have hr := bw aj.csl hi'
   refine ew2 @hr @aj.cs.eq_1 ?_
   repeat (with_reducible refine de ?_)
   refine ai.intro (hv L[i]) ⟨.inl rfl, lh (hvc2 _ _)⟩ (.inl (by simp only [List.nil_append, List.cons_append, List.all_cons, hvc, Bool.and_true]; rfl)) ?_
   refine ev0 ?_
   refine ax.split (fun h2 => ?_) (fun h2 => ?_) <;> refine ev1 @h2 ?_
   · try refine ew6 @bb @Nat.mul_one @bh @List.length_append.{0} @List.length_cons.{0} @List.length_nil.{0} ?_
     repeat (with_reducible refine de ?_)
     refine ⟨i + 1, hi', ?_, by omega⟩
     refine aq.cut (1) (by simp) (by simp) ?_ ?_
     · rw [hstep hi', h2]
       simp [LeC, LeV, ren, bj, hvc2]
     · rw [hstep hi', h2, if_pos rfl, ← di]
       simp [bz, ck, ae, dd, ren, aj.cs]
   · refine ⟨i + 1, hi', ?_, by omega⟩
     refine aq.cut (1) (by simp) (by simp) ?_ ?_
     · rw [hstep hi', h2, wrap_i64 (by omega) (by omega)]
       simp [LeC, LeV, ren, bj, hvc2]
     · rw [hstep hi', h2]
       simp [bz, ck, ae]
 · refine ev1 @h1 ?_
   have hi' : i = L.length := by simp at h1; omega
   subst hi'
   rw [List.take_length]
   exact ak.refl _ _ _
end Go.Proofs
end
section
set_option maxRecDepth 100000
namespace Go.Proofs
open Go.Lv
structure ab where
 Now : Int
 Posts : List bf
 Shocks : List aj
 Next : Int
 Archived : Int
def ab.cs (r : ab) : List V := [.int .i64 r.Now, .sl r.Posts.length 3 (Go.Lv.rows bf.cs r.Posts), .sl r.Shocks.length 5 (Go.Lv.rows aj.cs r.Shocks), .int .i64 r.Next, .int .i64 r.Archived]
def ab.v (r : ab) : V := .agg [.int .i64 r.Now, .sl r.Posts.length 3 (Go.Lv.rows bf.cs r.Posts), .sl r.Shocks.length 5 (Go.Lv.rows aj.cs r.Shocks), .int .i64 r.Next, .int .i64 r.Archived]
def ab.o (r : ab) (i0 i1 : Nat) : V := .agg [.int .i64 r.Now, .osl i0 0 r.Posts.length 3, .osl i1 0 r.Shocks.length 5, .int .i64 r.Next, .int .i64 r.Archived]
theorem ab.csl (a : ab) : a.cs.length = 5 := rfl
def ab.ok (r : ab) : Prop := bt r.Now ∧ aes bf.ok r.Posts ∧ aes aj.ok r.Shocks ∧ bt r.Next ∧ bt r.Archived
theorem ab.le {h : Hp} {r : ab} {i0 i1 : Nat} (h0 : h[i0]? = some (some (rows bf.cs r.Posts))) (h1 : h[i1]? = some (some (rows aj.cs r.Shocks))) : LeV (ren (fg h 3) 3 (r.o i0 i1)) r.v := by
 refine .inl ?_
 simp only [ab.o, ab.v, ren, List.map_cons, List.map_nil, fg, h0, h1, ae, List.drop_zero, cr]
end Go.Proofs
end
section
set_option maxRecDepth 100000
namespace Go.Proofs
open Go.Lv
def r7 (now : Int) (p : bf) : Bool := fb p.Station 1 99 && fb p.Since 0 now
def jl (next now : Int) (x : aj) : Bool := fb x.Number 1 (next - 1) && fb x.State 0 3 && fb x.Seen 0 8 && fb x.Size (-20) 95 && (x.State != 0 || x.Size == 0) && fb x.Tick 0 now
def j2 (w : ab) : Bool := fb w.Now 0 1000000 && fb w.Next 1 999 && fb w.Archived 0 999
def wB (w : ab) : Bool := j2 w && jh (r7 w.Now) bf.Station 8 w.Posts && jh (jl w.Next w.Now) aj.Number 6 w.Shocks
theorem vp {w : ab} : j2 w = true ↔ (0 ≤ w.Now ∧ w.Now ≤ 1000000) ∧ (1 ≤ w.Next ∧ w.Next ≤ 999) ∧ 0 ≤ w.Archived ∧ w.Archived ≤ 999 := by simp [j2, fb, and_assoc]
theorem mh {now : Int} {p : bf} : r7 now p = true ↔ (1 ≤ p.Station ∧ p.Station ≤ 99) ∧ 0 ≤ p.Since ∧ p.Since ≤ now := by simp [r7, fb, and_assoc]
theorem er {next now : Int} {x : aj} : jl next now x = true ↔ (1 ≤ x.Number ∧ x.Number ≤ next - 1) ∧ (0 ≤ x.State ∧ x.State ≤ 3) ∧ (0 ≤ x.Seen ∧ x.Seen ≤ 8) ∧ (-20 ≤ x.Size ∧ x.Size ≤ 95) ∧ (x.State ≠ 0 ∨ x.Size = 0) ∧ 0 ≤ x.Tick ∧ x.Tick ≤ now := by
 simp [jl, fb, and_assoc]
structure atl (w : ab) : Prop where
 now : 0 ≤ w.Now ∧ w.Now ≤ 1000000
 next : 1 ≤ w.Next ∧ w.Next ≤ 999
 arch : 0 ≤ w.Archived ∧ w.Archived ≤ 999
 posts : ∀ p ∈ w.Posts, r7 w.Now p = true
 plen : w.Posts.length ≤ 8
 shocks : ∀ x ∈ w.Shocks, jl w.Next w.Now x = true
 slen : w.Shocks.length ≤ 6
 pasc : (w.Posts.map bf.Station).Pairwise (· < ·)
 sasc : (w.Shocks.map aj.Number).Pairwise (· < ·)
theorem eh {w : ab} (h : wB w = true) : atl w := by
 simp only [wB, Bool.and_eq_true] at h
 obtain ⟨⟨h1, h2⟩, h3⟩ := h
 obtain ⟨a, b, c⟩ := vp.1 h1
 obtain ⟨d, e⟩ := abr h2
 obtain ⟨f, g⟩ := abr h3
 exact ⟨a, b, c, d, e, f, g, acw h2, acw h3⟩
theorem afp (w : ab) (p : bf) : Ctr Tryz.prog 87 [p.v, .pt w.cs] [] (.bool (r7 w.Now p)) [] := by
 refine Ctr.intro Tryz.mixed Tryz.func87 rfl Tryz.a3n ?_
 refine ev2 @Tryz.ntmps87 @Tryz.results87 ?_
 refine ev2 @bf.v.eq_1 @ab.cs.eq_1 ?_
 repeat' (first | (refine ak.au ?_ (by rfl); first | rfl | (simp [r7, *]; done)) | ((first | refine al.at (j8 _ _ _) ⟨leA, leA, leA, trivial⟩ ?_ | refine ai.at (j8 _ _ _) ⟨leA, leA, leA, trivial⟩ ?_); simp -implicitDefEqProofs -dsimp only [go_sem, *]) | ((first | refine al.at (w2 _) ⟨leA, trivial⟩ ?_ | refine ai.at (w2 _) ⟨leA, trivial⟩ ?_); simp -implicitDefEqProofs -dsimp only [go_sem, *]) | (refine aw.bu (fun _ => ?_) (fun _ => ?_) <;> simp -implicitDefEqProofs -dsimp only [go_sem, *]) | (refine aw.cg (fun _ => ?_) (fun _ => ?_) <;> simp -implicitDefEqProofs -dsimp only [go_sem, *]) | (refine ax.split (fun _ => ?_) (fun _ => ?_) <;> simp -implicitDefEqProofs -dsimp only [go_sem, *]))
theorem adp (w : ab) (hw : 1 ≤ w.Next ∧ w.Next ≤ 999) (x : aj) : Ctr Tryz.prog 89 [x.v, .pt w.cs] [] (.bool (jl w.Next w.Now x)) [] := by
 refine Ctr.intro Tryz.mixed Tryz.func89 rfl Tryz.a44 ?_
 refine ev2 @Tryz.ntmps89 @Tryz.results89 ?_
 refine ev2 @aj.v.eq_1 @ab.cs.eq_1 ?_
 have hw1 : IntKind.i64.wrap (w.Next - 1) = w.Next - 1 := wrap_i64 (by omega) (by omega)
 repeat' (first | (refine ak.au ?_ (by rfl); first | rfl | (simp [jl, *]; done)) | ((first | refine al.at (j8 _ _ _) ⟨leA, leA, leA, trivial⟩ ?_ | refine ai.at (j8 _ _ _) ⟨leA, leA, leA, trivial⟩ ?_); simp -implicitDefEqProofs -dsimp only [go_sem, *]) | ((first | refine al.at (mr _) ⟨leA, trivial⟩ ?_ | refine ai.at (mr _) ⟨leA, trivial⟩ ?_); simp -implicitDefEqProofs -dsimp only [go_sem, *]) | (refine aw.bu (fun _ => ?_) (fun _ => ?_) <;> simp -implicitDefEqProofs -dsimp only [go_sem, *]) | (refine aw.cg (fun _ => ?_) (fun _ => ?_) <;> simp -implicitDefEqProofs -dsimp only [go_sem, *]))
theorem aai (p : bf) : Ctr Tryz.prog 93 [p.v] [] (.int .i64 p.Station) [] := by
 refine Ctr.intro Tryz.mixed Tryz.func93 rfl Tryz.a1y ?_
 refine ev2 @Tryz.ntmps93 @Tryz.results93 ?_
 refine ev1 @bf.v.eq_1 ?_
 exact ak.au rfl (by rfl)
theorem abx (x : aj) : Ctr Tryz.prog 95 [x.v] [] (.int .i64 x.Number) [] := by
 refine Ctr.intro Tryz.mixed Tryz.func95 rfl Tryz.a19 ?_
 refine ev2 @Tryz.ntmps95 @Tryz.results95 ?_
 refine ev1 @aj.v.eq_1 ?_
 exact ak.au rfl (by rfl)
theorem eg (w : ab) (hp : w.Posts.length ≤ 281474976710656) (hs : w.Shocks.length ≤ 281474976710656) : Ctr Tryz.prog 42 [w.v] [] (.bool (wB w)) [] := by
 refine Ctr.intro Tryz.mixed Tryz.func42 rfl Tryz.a2c ?_
 refine ev2 @Tryz.ntmps42 @Tryz.results42 ?_
 refine ev1 @ab.v.eq_1 ?_
 have fin : ∀ b, b = wB w → ak 0 (.bool b) [some w.cs] (.bool (wB w)) [] := fun b h => ak.au (by rw [h]) (by rfl)
 (first | refine al.at (afs _) ⟨leA, trivial⟩ ?_ | refine ai.at (afs _) ⟨leA, trivial⟩ ?_)
 refine ev0 ?_
 refine aw.bu (fun h1 => ?_) (fun h1 => ?_) <;> refine ev1 @h1 ?_
 rotate_left
 · exact ak.au (by simp [wB, j2, h1]) (by rfl)
 (first | refine al.at (j8 _ _ _) ⟨leA, leA, leA, trivial⟩ ?_ | refine ai.at (j8 _ _ _) ⟨leA, leA, leA, trivial⟩ ?_)
 refine ev1 @h1 ?_
 refine aw.bu (fun h2 => ?_) (fun h2 => ?_) <;> refine ev2 @h1 @h2 ?_
 rotate_left
 · exact ak.au (by simp [wB, j2, h1, h2]) (by rfl)
 (first | refine al.at (j8 _ _ _) ⟨leA, leA, leA, trivial⟩ ?_ | refine ai.at (j8 _ _ _) ⟨leA, leA, leA, trivial⟩ ?_)
 refine ev2 @h1 @h2 ?_
 refine aw.bu (fun h3 => ?_) (fun h3 => ?_) <;> refine ev3 @h1 @h2 @h3 ?_
 rotate_left
 · exact ak.au (by simp [wB, j2, h1, h2, h3]) (by rfl)
 have hc : j2 w = true := by simp [j2, h1, h2, h3]
 have hw := (vp.1 hc).2.1
 (first | refine al.at (s9 w.Posts (r7 w.Now) bf.Station 8 _ _ [.pt w.cs] [] (fun d => by cases d <;> rfl) (fun _ => rfl) (fun x => afp w x) aai 8 rfl hp) ⟨leA, leA, leA, leA, trivial⟩ ?_ | refine ai.at (s9 w.Posts (r7 w.Now) bf.Station 8 _ _ [.pt w.cs] [] (fun d => by cases d <;> rfl) (fun _ => rfl) (fun x => afp w x) aai 8 rfl hp) ⟨leA, leA, leA, leA, trivial⟩ ?_)
 refine ev3 @h1 @h2 @h3 ?_
 refine aw.bu (fun h4 => ?_) (fun h4 => ?_) <;> refine ev4 @h1 @h2 @h3 @h4 ?_
 rotate_left
 · exact ak.au (by simp [wB, hc, h4]) (by rfl)
 (first | refine al.at (r6 w.Shocks (jl w.Next w.Now) aj.Number 6 _ _ [.pt w.cs] [] (fun d => by cases d <;> rfl) (fun _ => rfl) (fun x => adp w hw x) abx 6 rfl hs) ⟨leA, leA, leA, leA, trivial⟩ ?_ | refine ai.at (r6 w.Shocks (jl w.Next w.Now) aj.Number 6 _ _ [.pt w.cs] [] (fun d => by cases d <;> rfl) (fun _ => rfl) (fun x => adp w hw x) abx 6 rfl hs) ⟨leA, leA, leA, leA, trivial⟩ ?_)
 refine ev4 @h1 @h2 @h3 @h4 ?_
 exact ak.au (by simp [wB, hc, h4]) (by rfl)
theorem adf {α : Type} {p : α → Bool} {k : α → Int} {m : Nat} {L : List α} (h : (List.range L.length).all (gx p k L) = true) (hm : L.length ≤ m) : jh p k m L = true := by
 simp [jh, h, hm]
theorem abu (w : ab) (hw : 1 ≤ w.Next ∧ w.Next ≤ 999) (x : aj) : Ctr Tryz.prog 120 [w.v, x.v] [] (.bool (jl w.Next w.Now x)) [] := by
 refine Ctr.intro Tryz.mixed Tryz.func120 rfl Tryz.aw8 ?_
 refine ev2 @Tryz.ntmps120 @Tryz.results120 ?_
 refine ev2 @aj.v.eq_1 @ab.v.eq_1 ?_
 have hw1 : IntKind.i64.wrap (w.Next - 1) = w.Next - 1 := wrap_i64 (by omega) (by omega)
 repeat' (first | (refine ak.au ?_ (by rfl); first | rfl | (simp [jl, *]; done)) | ((first | refine al.at (dx _ _ _) ⟨leA, leA, leA, trivial⟩ ?_ | refine ai.at (dx _ _ _) ⟨leA, leA, leA, trivial⟩ ?_); simp -implicitDefEqProofs -dsimp only [go_sem, *]) | (refine aw.bu (fun _ => ?_) (fun _ => ?_) <;> simp -implicitDefEqProofs -dsimp only [go_sem, *]) | (refine aw.cg (fun _ => ?_) (fun _ => ?_) <;> simp -implicitDefEqProofs -dsimp only [go_sem, *]))
theorem ew (w : ab) (hp : w.Posts.length ≤ 281474976710656) (hs : w.Shocks.length ≤ 281474976710656) : Ctr Tryz.prog 77 [w.v] [] (.bool (wB w)) [] := by
 refine Ctr.intro Tryz.mixed Tryz.func77 rfl Tryz.a50 ?_
 refine ev2 @Tryz.ntmps77 @Tryz.results77 ?_
 refine ev1 @ab.v.eq_1 ?_
 (first | refine al.at (aff _) ⟨leA, trivial⟩ ?_ | refine ai.at (aff _) ⟨leA, trivial⟩ ?_)
 refine ev0 ?_
 refine aw.cg (fun h1 => ?_) (fun h1 => ?_) <;> refine ev1 @h1 ?_
 rotate_left
 · exact ak.au (by simp at h1; simp [wB, j2, h1]) (by rfl)
 refine aw.cg (fun h2 => ?_) (fun h2 => ?_) <;> refine ev1 @h2 ?_
 rotate_left
 · have : ¬ w.Posts.length ≤ 8 := by simp at h2; omega
   exact ak.au (by simp [wB, jh, this]) (by rfl)
 refine aw.cg (fun h3 => ?_) (fun h3 => ?_) <;> refine ev1 @h3 ?_
 rotate_left
 · have : ¬ w.Shocks.length ≤ 6 := by simp at h3; omega
   exact ak.au (by simp [wB, jh, this]) (by rfl)
 (first | refine al.at (dx _ _ _) ⟨leA, leA, leA, trivial⟩ ?_ | refine ai.at (dx _ _ _) ⟨leA, leA, leA, trivial⟩ ?_)
 refine ev0 ?_
 refine aw.cg (fun h4 => ?_) (fun h4 => ?_) <;> refine ev1 @h4 ?_
 rotate_left
 · exact ak.au (by simp at h4; simp [wB, j2, h4]) (by rfl)
 (first | refine al.at (dx _ _ _) ⟨leA, leA, leA, trivial⟩ ?_ | refine ai.at (dx _ _ _) ⟨leA, leA, leA, trivial⟩ ?_)
 refine ev0 ?_
 refine ax.split (fun h5 => ?_) (fun h5 => ?_) <;> refine ev1 @h5 ?_
 · exact ak.au (by simp at h5; simp [wB, j2, h5]) (by rfl)
 have hc : j2 w = true := by simp at h1 h4 h5; simp [j2, h1, h4, h5]
 have hcn := vp.1 hc
 have hpl : w.Posts.length ≤ 8 := by simp at h2; omega
 have hsl : w.Shocks.length ≤ 6 := by simp at h3; omega
 clear h1 h2 h3 h4 h5
 refine dh.intro (fun i : Nat => i ≤ (w.Posts).length ∧ (List.range i).all (gx (r7 w.Now) bf.Station (w.Posts)) = true) (fun i => ⟨(.undef :: .ptr 0 0 :: .undef :: .int .i64 i :: (un 105 [])), [some w.cs], 0⟩) (fun i => (w.Posts).length - i) 0 ⟨Nat.zero_le _, rfl⟩ ?_ (fun i hi => ?_)
 · refine aq.cut (1) (by simp) (by simp) ?_ ?_
   · simp [LeC, LeV, ren, bj]
   · first | rfl | simp [bz, ck, ren, ae, ab.cs]
 refine ev1 @ab.cs.eq_1 ?_
 refine ax.split (fun h1 => ?_) (fun h1 => ?_)
 rotate_left
 · refine ev2 @h1 @ab.cs.eq_1 ?_
   have hi' : i = (w.Posts).length := by simp at h1; omega
   subst hi'
   have hpq := adf hi.2 hpl
   refine dh.intro (fun i : Nat => i ≤ (w.Shocks).length ∧ (List.range i).all (gx (jl w.Next w.Now) aj.Number (w.Shocks)) = true) (fun i => ⟨(.undef :: .ptr 0 0 :: (un 3 (.int .i64 i :: (un 103 [])))), [some w.cs], 0⟩) (fun i => (w.Shocks).length - i) 0 ⟨Nat.zero_le _, rfl⟩ ?_ (fun i hi => ?_)
   · refine aq.cut (1) (by simp) (by simp) ?_ ?_
     · simp [LeC, LeV, ren, bj]
     · first | rfl | simp [bz, ck, ren, ae, ab.cs]
   refine ev1 @ab.cs.eq_1 ?_
   refine ax.split (fun h1 => ?_) (fun h1 => ?_)
   rotate_left
   · refine ev2 @h1 @ab.cs.eq_1 ?_
     have hi' : i = (w.Shocks).length := by simp at h1; omega
     subst hi'
     exact ak.au (by rw [wB, hc, hpq, adf hi.2 hsl]; rfl) (by rfl)
   · refine ev2 @h1 @ab.cs.eq_1 ?_
     have hi' : i < (w.Shocks).length := by simpa using h1
     have h5 := aj.csl (w.Shocks)[i]
     have hr := bw aj.csl hi'
     have hbad : gx (jl w.Next w.Now) aj.Number (w.Shocks) i = false → _ := fun hq => (show V.bool false = V.bool (wB w) by rw [wB, ju hi' hq]; simp)
     cases i with
     | zero =>
      have hz : ((0 : Nat) : Int) = 0 := rfl
      have hr0 := hr
      rw [Nat.zero_mul, List.drop_zero] at hr0
      refine rn5 @hr @hr0 @hz @aj.cs.eq_1 @ab.cs.eq_1 ?_
      repeat' (first | (refine ak.au (hbad ?_) (by rfl); (rw [kq hi']; (try simp only [Bool.not_eq_false', Bool.not_eq_true', decide_eq_false_iff_not, decide_eq_true_eq] at *); simp [*]; try omega; done)) | ((have ct := abu w hcn.2.1 (w.Shocks[0]); (first | refine al.at ct ⟨leA, leA, trivial⟩ ?_ | refine ai.at ct ⟨leA, leA, trivial⟩ ?_); clear ct); simp -implicitDefEqProofs -dsimp only [go_sem, *, ab.cs]) | (refine aw.bu (fun _ => ?_) (fun _ => ?_) <;> simp -implicitDefEqProofs -dsimp only [go_sem, *, ab.cs]) | (refine aw.cg (fun _ => ?_) (fun _ => ?_) <;> simp -implicitDefEqProofs -dsimp only [go_sem, *, ab.cs]) | (refine ax.split (fun _ => ?_) (fun _ => ?_) <;> simp -implicitDefEqProofs -dsimp only [go_sem, *, ab.cs]) | (with_reducible refine And.intro (by first | omega | (show cc _ = true; kernel_rfl)) ?_; (repeat ((repeat1' (first | simp -implicitDefEqProofs -dsimp only [go_sem, *, aj.cs, ab.cs] | simp -dsimp (disch := omega) only [wrap_i64])); repeat (with_reducible refine de ?_)))) | (refine ⟨0 + 1, ⟨hi', gw hi.2 (by rw [kq hi']; (try simp only [Bool.not_eq_false', Bool.not_eq_true', decide_eq_false_iff_not, decide_eq_true_eq] at *); simp [*]; try omega)⟩, ?_, by omega⟩; refine aq.cut (1) (by simp) (by simp) ?_ ?_; (· (try refine ew0 ?_; simp [LeC, LeV, ren, bj]; try omega)); (· (first | rfl | simp [bz, ck, ren, ae, ab.cs]))))
     | succ j =>
      have hj : j < (w.Shocks).length := by omega
      have hw1 : IntKind.i64.wrap (((j + 1 : Nat) : Int) - 1) = (j : Int) := by rw [wrap_i64 (by omega) (by omega)]; omega
      have hg : decide ((0 : Int) < ((j + 1 : Nat) : Int)) = true := decide_eq_true (by omega)
      have hr2 := bw aj.csl hj
      refine rn6 @hr @hg @hw1 @hr2 @aj.cs.eq_1 @ab.cs.eq_1 ?_
      repeat' (first | (refine ak.au (hbad ?_) (by rfl); (rw [ij hi']; (try simp only [Bool.not_eq_false', Bool.not_eq_true', decide_eq_false_iff_not, decide_eq_true_eq] at *); simp [*]; try omega; done)) | ((have ct := abu w hcn.2.1 (w.Shocks[j + 1]); (first | refine al.at ct ⟨leA, leA, trivial⟩ ?_ | refine ai.at ct ⟨leA, leA, trivial⟩ ?_); clear ct); simp -implicitDefEqProofs -dsimp only [go_sem, *, ab.cs]) | (refine aw.bu (fun _ => ?_) (fun _ => ?_) <;> simp -implicitDefEqProofs -dsimp only [go_sem, *, ab.cs]) | (refine aw.cg (fun _ => ?_) (fun _ => ?_) <;> simp -implicitDefEqProofs -dsimp only [go_sem, *, ab.cs]) | (refine ax.split (fun _ => ?_) (fun _ => ?_) <;> simp -implicitDefEqProofs -dsimp only [go_sem, *, ab.cs]) | (with_reducible refine And.intro (by first | omega | (show cc _ = true; kernel_rfl)) ?_; (repeat ((repeat1' (first | simp -implicitDefEqProofs -dsimp only [go_sem, *, aj.cs, ab.cs] | simp -dsimp (disch := omega) only [wrap_i64])); repeat (with_reducible refine de ?_)))) | (refine ⟨j + 1 + 1, ⟨hi', gw hi.2 (by rw [ij hi']; (try simp only [Bool.not_eq_false', Bool.not_eq_true', decide_eq_false_iff_not, decide_eq_true_eq] at *); simp [*]; try omega)⟩, ?_, by omega⟩; refine aq.cut (1) (by simp) (by simp) ?_ ?_; (· (try refine ew0 ?_; simp [LeC, LeV, ren, bj]; try omega)); (· (first | rfl | simp [bz, ck, ren, ae, ab.cs]))))
 · refine ev2 @h1 @ab.cs.eq_1 ?_
   have hi' : i < (w.Posts).length := by simpa using h1
   have h5 := bf.csl (w.Posts)[i]
   have hr := bw bf.csl hi'
   have hbad : gx (r7 w.Now) bf.Station (w.Posts) i = false → _ := fun hq => (show V.bool false = V.bool (wB w) by rw [wB, ju hi' hq]; simp)
   cases i with
   | zero =>
    have hz : ((0 : Nat) : Int) = 0 := rfl
    have hr0 := hr
    rw [Nat.zero_mul, List.drop_zero] at hr0
    refine rn5 @hr @hr0 @hz @bf.cs.eq_1 @ab.cs.eq_1 ?_
    repeat' (first | (refine ak.au (hbad ?_) (by rfl); (rw [kq hi']; (try simp only [Bool.not_eq_false', Bool.not_eq_true', decide_eq_false_iff_not, decide_eq_true_eq] at *); simp [r7, *]; try omega; done)) | ((first | refine al.at (dx _ _ _) ⟨leA, leA, leA, trivial⟩ ?_ | refine ai.at (dx _ _ _) ⟨leA, leA, leA, trivial⟩ ?_); simp -implicitDefEqProofs -dsimp only [go_sem, *, ab.cs]) | (refine aw.bu (fun _ => ?_) (fun _ => ?_) <;> simp -implicitDefEqProofs -dsimp only [go_sem, *, ab.cs]) | (refine aw.cg (fun _ => ?_) (fun _ => ?_) <;> simp -implicitDefEqProofs -dsimp only [go_sem, *, ab.cs]) | (refine ax.split (fun _ => ?_) (fun _ => ?_) <;> simp -implicitDefEqProofs -dsimp only [go_sem, *, ab.cs]) | (with_reducible refine And.intro (by first | omega | (show cc _ = true; kernel_rfl)) ?_; (repeat ((repeat1' (first | simp -implicitDefEqProofs -dsimp only [go_sem, *, bf.cs, ab.cs] | simp -dsimp (disch := omega) only [wrap_i64])); repeat (with_reducible refine de ?_)))) | (refine ⟨0 + 1, ⟨hi', gw hi.2 (by rw [kq hi']; (try simp only [Bool.not_eq_false', Bool.not_eq_true', decide_eq_false_iff_not, decide_eq_true_eq] at *); simp [r7, *]; try omega)⟩, ?_, by omega⟩; refine aq.cut (1) (by simp) (by simp) ?_ ?_; (· (try refine ew0 ?_; simp [LeC, LeV, ren, bj]; try omega)); (· (first | rfl | simp [bz, ck, ren, ae, ab.cs]))))
   | succ j =>
    have hj : j < (w.Posts).length := by omega
    have hw1 : IntKind.i64.wrap (((j + 1 : Nat) : Int) - 1) = (j : Int) := by rw [wrap_i64 (by omega) (by omega)]; omega
    have hg : decide ((0 : Int) < ((j + 1 : Nat) : Int)) = true := decide_eq_true (by omega)
    have hr2 := bw bf.csl hj
    refine rn6 @hr @hg @hw1 @hr2 @bf.cs.eq_1 @ab.cs.eq_1 ?_
    repeat' (first | (refine ak.au (hbad ?_) (by rfl); (rw [ij hi']; (try simp only [Bool.not_eq_false', Bool.not_eq_true', decide_eq_false_iff_not, decide_eq_true_eq] at *); simp [r7, *]; try omega; done)) | ((first | refine al.at (dx _ _ _) ⟨leA, leA, leA, trivial⟩ ?_ | refine ai.at (dx _ _ _) ⟨leA, leA, leA, trivial⟩ ?_); simp -implicitDefEqProofs -dsimp only [go_sem, *, ab.cs]) | (refine aw.bu (fun _ => ?_) (fun _ => ?_) <;> simp -implicitDefEqProofs -dsimp only [go_sem, *, ab.cs]) | (refine aw.cg (fun _ => ?_) (fun _ => ?_) <;> simp -implicitDefEqProofs -dsimp only [go_sem, *, ab.cs]) | (refine ax.split (fun _ => ?_) (fun _ => ?_) <;> simp -implicitDefEqProofs -dsimp only [go_sem, *, ab.cs]) | (with_reducible refine And.intro (by first | omega | (show cc _ = true; kernel_rfl)) ?_; (repeat ((repeat1' (first | simp -implicitDefEqProofs -dsimp only [go_sem, *, bf.cs, ab.cs] | simp -dsimp (disch := omega) only [wrap_i64])); repeat (with_reducible refine de ?_)))) | (refine ⟨j + 1 + 1, ⟨hi', gw hi.2 (by rw [ij hi']; (try simp only [Bool.not_eq_false', Bool.not_eq_true', decide_eq_false_iff_not, decide_eq_true_eq] at *); simp [r7, *]; try omega)⟩, ?_, by omega⟩; refine aq.cut (1) (by simp) (by simp) ?_ ?_; (· (try refine ew0 ?_; simp [LeC, LeV, ren, bj]; try omega)); (· (first | rfl | simp [bz, ck, ren, ae, ab.cs]))))
end Go.Proofs
end
section
set_option maxRecDepth 100000
set_option maxHeartbeats 1000000
namespace Go.Proofs
open Go.Lv
theorem al0 {x y : V} (h : LeV x y := by first | exact leA | exact LeV.aro ⟨.inl rfl, yo rfl (by simp [gq, yh]) (by simp [yh]), yo rfl rfl rfl, .inl rfl, .inl rfl, trivial⟩ | exact LeV.aro ⟨.inl rfl, yo rfl (by simp [gq, yh]) (by simp [yh]), LeE.nil, .inl rfl, .inl rfl, trivial⟩) : LeV x y := h
def gq (K : List Int) : List bf := K.map fun n => ⟨n, true, 0⟩
def yh (K : List Int) : ab := ⟨0, gq K, [], 1, 0⟩
theorem ae3 {K : List Int} {i : Nat} (hi : i < K.length) : gq (K.take (i + 1)) = gq (K.take i) ++ [⟨K[i], true, 0⟩] := by
 rw [gq, List.take_succ_eq_append_getElem hi, List.map_append]; rfl
theorem ag8 {K : List Int} {i : Nat} (hi : i ≤ K.length) : (gq (K.take i)).length = i := by simp [gq]; omega
def ak0 : V := .tup [.agg [.int .i64 0, .nilsl, .nilsl, .int .i64 0, .int .i64 0], .bool false]
theorem xl (K : List Int) (hk : K.length ≤ 16777216) (r : V) (hout : Hp)
 (fin : wB (yh K) = true → ak 0 (.tup [.agg [.int .i64 0, .osl 1 0 K.length 3, .osl 2 0 0 5, .int .i64 1, .int .i64 0], .bool true]) [some [.int .i64 0, .osl 1 0 K.length 3, .osl 2 0 0 5, .int .i64 1, .int .i64 0], some (rows bf.cs (gq K)), some [], some [.int .i64 0, .osl 1 0 K.length 3, .osl 2 0 0 5, .int .i64 1, .int .i64 0]] r hout)
 (no : wB (yh K) = false → r = ak0 ∧ hout = []) : Ctr Tryz.prog 56 [IntS.sl K] [] r hout := by
 refine Ctr.intro Tryz.mixed Tryz.func56 rfl Tryz.a2r ?_
 refine ev2 @Tryz.ntmps56 @Tryz.results56 ?_
 refine dh.intro (fun i : Nat => i ≤ K.length) (fun i => ⟨(IntS.sl K :: .undef :: .ptr 0 0 :: .undef :: .ptr 3 0 :: .int .i64 i :: (un 24 [])), [some [.int .i64 0, .nilsl, .nilsl, .int .i64 0, .int .i64 0], some (rows bf.cs (gq (K.take i))), some [], some [.int .i64 0, .osl 1 0 i 3, .osl 2 0 0 5, .int .i64 1, .int .i64 0]], 0⟩) (fun i => K.length - i) 0 (Nat.zero_le _) ?_ (fun i hi => ?_)
 · refine aq.cut (4) (by simp) (by simp) ?_ ?_
   · simp [LeC, LeV, ren, bj]
   · simp [bz, ck, ren, bj, gq, rows]
 refine ev0 ?_
 refine ax.split (fun h1 => ?_) (fun h1 => ?_)
 · refine ev1 @h1 ?_
   have hi' : i < K.length := by simpa using h1
   have hr := bw IntS.csl hi'
   have hn := ag8 hi
   refine rn5 @hr @IntS.cs.eq_1 @bb @hn @bh ?_
   refine ⟨i + 1, hi', ?_, by omega⟩
   refine aq.cut (4) (by simp) (by simp) ?_ ?_
   · simp [LeC, LeV, ren, bj]
   · rw [ae3 hi', ← di]
     simp [bz, ck, ren, bj, ae, dd, bf.cs]
 · refine ev1 @h1 ?_
   have hi' : i = K.length := by simp at h1; omega
   subst hi'
   rw [List.take_length]
   (have ct := ew (yh K) (by simp [yh, gq]; omega) (by simp [yh]); (first | refine al.at ct ⟨al0, trivial⟩ ?_ | refine ai.at ct ⟨al0, trivial⟩ ?_); clear ct)
   cases h : wB (yh K) with
   | false =>
    refine ev1 @h ?_
    obtain ⟨rfl, rfl⟩ := no h
    exact ak.au rfl (by rfl)
   | true =>
    refine ev1 @h ?_
    exact fin h
theorem ahu (K : List Int) (hk : K.length ≤ 16777216) (h : wB (yh K) = false) : Ctr Tryz.prog 56 [IntS.sl K] [] ak0 [] :=
 xl K hk _ _ (fun h' => by rw [h] at h'; cases h') (fun _ => ⟨rfl, rfl⟩)
theorem ahv (K : List Int) (hk : K.length ≤ 16777216) (h : wB (yh K) = true) : Ctr Tryz.prog 56 [IntS.sl K] [] (.tup [.agg [.int .i64 0, .osl 0 0 K.length 3, .osl 1 0 0 5, .int .i64 1, .int .i64 0], .bool true]) [some (rows bf.cs (gq K)), some []] := by
 refine xl K hk _ _ (fun _ => ?_) (fun h' => by rw [h] at h'; cases h')
 refine ak.pick [1, 2] (by decide) (fun j hj => by omega) (.inl ?_) ?_
 · first | rfl | (simp [ren, bc, posOf]; done)
 · simp only [az, List.map_cons, List.map_nil, bg, List.getElem?_cons_zero, List.getElem?_cons_succ, ae]
end Go.Proofs
end
section
namespace Go.Lv
def jt {α : Type} (p : α → Bool) (L : List α) : Int := match L.findIdx? p with
 | some i => i
 | none => -1
theorem uy {α : Type} {p : α → Bool} {L : List α} {i : Nat} (h : i < L.length) (h0 : (L.take i).any p = false) (h1 : p L[i] = true) : jt p L = i := by
 have : L.findIdx? p = some i := by
  rw [List.findIdx?_eq_some_iff_getElem]
  refine ⟨h, h1, fun j hj => ?_⟩
  have := List.any_eq_false.1 h0 L[j] (by rw [List.mem_take_iff_getElem]; exact ⟨j, by omega, rfl⟩)
  simpa using this
 simp [jt, this]
theorem w6 {α : Type} {p : α → Bool} {L : List α} (h : L.any p = false) : jt p L = -1 := by
 have : L.findIdx? p = none := by
  rw [List.findIdx?_eq_none_iff]
  intro x hx
  have := List.any_eq_false.1 h x hx
  simpa using this
 simp [jt, this]
end Go.Lv
end
section
set_option maxRecDepth 100000
namespace Go.Proofs
open Go.Lv
theorem ta (L : List bf) (p : bf → Bool) (fv : Nat) (vc : List V) (hvc : ∀ d, vc.all (da d) = true) (hv : ∀ x, Ctr Tryz.prog fv (bf.v x :: vc) [] (.bool (p x)) []) (hl : L.length ≤ 281474976710656) :
 Ctr Tryz.prog 195 [bf.sl L, .fn (.func fv) [] vc] [] (.int .i64 (jt p L)) [] := by
 refine Ctr.intro Tryz.mixed Tryz.func195 rfl Tryz.axn ?_
 refine ev2 @Tryz.ntmps195 @Tryz.results195 ?_
 have hvc2 : ∀ f d, vc.map (ren f d) = vc := fun f d => r3 f (hvc d)
 refine dh.intro (fun i : Nat => i ≤ L.length ∧ (L.take i).any p = false) (fun i => ⟨(bf.sl L :: .fn (.func fv) [] vc :: (un 5 (.int .i64 L.length :: .int .i64 i :: (un 10 [])))), [], 0⟩) (fun i => L.length - i) 0 ⟨Nat.zero_le _, rfl⟩ ?_ (fun i hi => ?_)
 · refine aq.cut (0) (by simp) (by simp) ?_ ?_
   · simp [LeC, LeV, ren, bj, hvc2]
   · rfl
 refine ev0 ?_
 refine ax.split (fun h1 => ?_) (fun h1 => ?_)
 · refine ev1 @h1 ?_
   have hi' : i < L.length := by simpa using h1
   have h5 := bf.csl L[i]
   have hr := bw bf.csl hi'
   refine ew2 @hr @bf.cs.eq_1 ?_
   repeat (with_reducible refine de ?_)
   refine ai.intro (hv L[i]) ⟨.inl rfl, lh (hvc2 _ _)⟩ (.inl (by simp only [List.nil_append, List.cons_append, List.all_cons, hvc, Bool.and_true]; rfl)) ?_
   refine ev0 ?_
   refine ax.split (fun h2 => ?_) (fun h2 => ?_) <;> refine ev1 @h2 ?_
   · exact ak.au (by rw [uy hi' hi.2 h2]) (by rfl)
   · refine ⟨i + 1, ⟨hi', by rw [List.take_succ_eq_append_getElem hi']; simp only [List.any_append, hi.2, List.any_cons, h2, List.any_nil, Bool.or_self]⟩, ?_, by omega⟩
     refine aq.cut (0) (by simp) (by simp) ?_ ?_
     · rw [wrap_i64 (by omega) (by omega)]
       simp [LeC, LeV, ren, bj, hvc2]
     · rfl
 · refine ev1 @h1 ?_
   have hi' : i = L.length := by simp at h1; omega
   subst hi'
   have h2 := hi.2
   rw [List.take_length] at h2
   exact ak.au (by rw [w6 h2]) (by rfl)
end Go.Proofs
end
section
set_option maxRecDepth 100000
namespace Go.Proofs
open Go.Lv
theorem ru (L : List aj) (p : aj → Bool) (fv : Nat) (vc : List V) (hvc : ∀ d, vc.all (da d) = true) (hv : ∀ x, Ctr Tryz.prog fv (aj.v x :: vc) [] (.bool (p x)) []) (hl : L.length ≤ 281474976710656) :
 Ctr Tryz.prog 147 [aj.sl L, .fn (.func fv) [] vc] [] (.int .i64 (jt p L)) [] := by
 refine Ctr.intro Tryz.mixed Tryz.func147 rfl Tryz.ax7 ?_
 refine ev2 @Tryz.ntmps147 @Tryz.results147 ?_
 have hvc2 : ∀ f d, vc.map (ren f d) = vc := fun f d => r3 f (hvc d)
 refine dh.intro (fun i : Nat => i ≤ L.length ∧ (L.take i).any p = false) (fun i => ⟨(aj.sl L :: .fn (.func fv) [] vc :: (un 5 (.int .i64 L.length :: .int .i64 i :: (un 10 [])))), [], 0⟩) (fun i => L.length - i) 0 ⟨Nat.zero_le _, rfl⟩ ?_ (fun i hi => ?_)
 · refine aq.cut (0) (by simp) (by simp) ?_ ?_
   · simp [LeC, LeV, ren, bj, hvc2]
   · rfl
 refine ev0 ?_
 refine ax.split (fun h1 => ?_) (fun h1 => ?_)
 · refine ev1 @h1 ?_
   have hi' : i < L.length := by simpa using h1
   have h5 := aj.csl L[i]
   have hr := bw aj.csl hi'
   refine ew2 @hr @aj.cs.eq_1 ?_
   repeat (with_reducible refine de ?_)
   refine ai.intro (hv L[i]) ⟨.inl rfl, lh (hvc2 _ _)⟩ (.inl (by simp only [List.nil_append, List.cons_append, List.all_cons, hvc, Bool.and_true]; rfl)) ?_
   refine ev0 ?_
   refine ax.split (fun h2 => ?_) (fun h2 => ?_) <;> refine ev1 @h2 ?_
   · exact ak.au (by rw [uy hi' hi.2 h2]) (by rfl)
   · refine ⟨i + 1, ⟨hi', by rw [List.take_succ_eq_append_getElem hi']; simp only [List.any_append, hi.2, List.any_cons, h2, List.any_nil, Bool.or_self]⟩, ?_, by omega⟩
     refine aq.cut (0) (by simp) (by simp) ?_ ?_
     · rw [wrap_i64 (by omega) (by omega)]
       simp [LeC, LeV, ren, bj, hvc2]
     · rfl
 · refine ev1 @h1 ?_
   have hi' : i = L.length := by simp at h1; omega
   subst hi'
   have h2 := hi.2
   rw [List.take_length] at h2
   exact ak.au (by rw [w6 h2]) (by rfl)
end Go.Proofs
end
section
set_option maxRecDepth 100000
namespace Go.Proofs
open Go.Lv
def dt (n : Int) (x : aj) : Bool := x.Number == n
def ky (n : Int) (x : bf) : Bool := x.Station == n
theorem acq (x : aj) (n : Int) : Ctr Tryz.prog 148 [x.v, .pt [.int .i64 n]] [] (.bool (dt n x)) [] := by
 refine Ctr.intro Tryz.mixed Tryz.func148 rfl Tryz.awq ?_
 refine ev2 @Tryz.ntmps148 @Tryz.results148 ?_
 refine ev1 @aj.v.eq_1 ?_
 exact ak.au rfl (by rfl)
theorem ki (w : ab) (n : Int) (hs : w.Shocks.length ≤ 281474976710656) : Ctr Tryz.prog 112 [w.v, .int .i64 n] [] (.int .i64 (jt (dt n) w.Shocks)) [] := by
 refine Ctr.intro Tryz.mixed Tryz.func112 rfl Tryz.ax5 ?_
 refine ev2 @Tryz.ntmps112 @Tryz.results112 ?_
 refine ev1 @ab.v.eq_1 ?_
 (first | refine al.at (ru w.Shocks (dt n) _ [.pt [.int .i64 n]] (fun d => by cases d <;> rfl) (fun x => acq x n) hs) ⟨leA, leA, trivial⟩ ?_ | refine ai.at (ru w.Shocks (dt n) _ [.pt [.int .i64 n]] (fun d => by cases d <;> rfl) (fun x => acq x n) hs) ⟨leA, leA, trivial⟩ ?_)
 refine ev0 ?_
 exact ak.au rfl (by rfl)
theorem j7 (w : ab) (n : Int) (hs : w.Shocks.length ≤ 281474976710656) : Ctr Tryz.prog 163 [w.v, .int .i64 n] [] (.int .i64 (jt (dt n) w.Shocks)) [] := by
 refine Ctr.intro Tryz.mixed Tryz.func163 rfl Tryz.ayq ?_
 refine ev2 @Tryz.ntmps163 @Tryz.results163 ?_
 refine ev1 @ab.v.eq_1 ?_
 refine dh.intro (fun i : Nat => i ≤ w.Shocks.length ∧ (w.Shocks.take i).any (dt n) = false) (fun i => ⟨(.undef :: .int .i64 n :: .ptr 0 0 :: .undef :: .undef :: .int .i64 i :: (un 16 [])), [some w.cs], 0⟩) (fun i => w.Shocks.length - i) 0 ⟨Nat.zero_le _, rfl⟩ ?_ (fun i hi => ?_)
 · refine aq.cut (1) (by simp) (by simp) ?_ ?_
   · simp [LeC, LeV, ren, bj]
   · simp [bz, ck, ren, ae, ab.cs]
 refine ev1 @ab.cs.eq_1 ?_
 refine ax.split (fun h1 => ?_) (fun h1 => ?_)
 · refine ev2 @h1 @ab.cs.eq_1 ?_
   have hi' : i < w.Shocks.length := by simpa using h1
   have h5 := aj.csl w.Shocks[i]
   have hr := bw aj.csl hi'
   refine rn3 @hr @aj.cs.eq_1 @ab.cs.eq_1 ?_
   refine ax.split (fun h2 => ?_) (fun h2 => ?_) <;> refine rn1 @h2 ?_
   · exact ak.au (by rw [uy hi' hi.2 h2]) (by rfl)
   · refine ⟨i + 1, ⟨hi', by rw [List.take_succ_eq_append_getElem hi']; simp only [List.any_append, hi.2, List.any_cons, dt, h2, List.any_nil, Bool.or_self]⟩, ?_, by omega⟩
     refine aq.cut (1) (by simp) (by simp) ?_ ?_
     · simp [LeC, LeV, ren, bj]
     · simp [bz, ck, ren, ae, ab.cs]
 · refine ev1 @h1 ?_
   have hi' : i = w.Shocks.length := by simp at h1; omega
   subst hi'
   have h2 := hi.2
   rw [List.take_length] at h2
   exact ak.au (by rw [w6 h2]) (by rfl)
theorem afi (x : bf) (n : Int) : Ctr Tryz.prog 196 [x.v, .pt [.int .i64 n]] [] (.bool (ky n x)) [] := by
 refine Ctr.intro Tryz.mixed Tryz.func196 rfl Tryz.ayz ?_
 refine ev2 @Tryz.ntmps196 @Tryz.results196 ?_
 refine ev1 @bf.v.eq_1 ?_
 exact ak.au rfl (by rfl)
theorem qf (w : ab) (n : Int) (hs : w.Posts.length ≤ 281474976710656) : Ctr Tryz.prog 178 [w.v, .int .i64 n] [] (.int .i64 (jt (ky n) w.Posts)) [] := by
 refine Ctr.intro Tryz.mixed Tryz.func178 rfl Tryz.awt ?_
 refine ev2 @Tryz.ntmps178 @Tryz.results178 ?_
 refine ev1 @ab.v.eq_1 ?_
 (first | refine al.at (ta w.Posts (ky n) _ [.pt [.int .i64 n]] (fun d => by cases d <;> rfl) (fun x => afi x n) hs) ⟨leA, leA, trivial⟩ ?_ | refine ai.at (ta w.Posts (ky n) _ [.pt [.int .i64 n]] (fun d => by cases d <;> rfl) (fun x => afi x n) hs) ⟨leA, leA, trivial⟩ ?_)
 refine ev0 ?_
 exact ak.au rfl (by rfl)
theorem n9 (w : ab) (n : Int) (hs : w.Posts.length ≤ 281474976710656) : Ctr Tryz.prog 162 [w.v, .int .i64 n] [] (.int .i64 (jt (ky n) w.Posts)) [] := by
 refine Ctr.intro Tryz.mixed Tryz.func162 rfl Tryz.awc ?_
 refine ev2 @Tryz.ntmps162 @Tryz.results162 ?_
 refine ev1 @ab.v.eq_1 ?_
 refine dh.intro (fun i : Nat => i ≤ w.Posts.length ∧ (w.Posts.take i).any (ky n) = false) (fun i => ⟨(.undef :: .int .i64 n :: .ptr 0 0 :: .undef :: .undef :: .int .i64 i :: (un 16 [])), [some w.cs], 0⟩) (fun i => w.Posts.length - i) 0 ⟨Nat.zero_le _, rfl⟩ ?_ (fun i hi => ?_)
 · refine aq.cut (1) (by simp) (by simp) ?_ ?_
   · simp [LeC, LeV, ren, bj]
   · simp [bz, ck, ren, ae, ab.cs]
 refine ev1 @ab.cs.eq_1 ?_
 refine ax.split (fun h1 => ?_) (fun h1 => ?_)
 · refine ev2 @h1 @ab.cs.eq_1 ?_
   have hi' : i < w.Posts.length := by simpa using h1
   have h5 := bf.csl w.Posts[i]
   have hr := bw bf.csl hi'
   refine rn3 @hr @bf.cs.eq_1 @ab.cs.eq_1 ?_
   refine ax.split (fun h2 => ?_) (fun h2 => ?_) <;> refine rn1 @h2 ?_
   · exact ak.au (by rw [uy hi' hi.2 h2]) (by rfl)
   · refine ⟨i + 1, ⟨hi', by rw [List.take_succ_eq_append_getElem hi']; simp only [List.any_append, hi.2, List.any_cons, ky, h2, List.any_nil, Bool.or_self]⟩, ?_, by omega⟩
     refine aq.cut (1) (by simp) (by simp) ?_ ?_
     · simp [LeC, LeV, ren, bj]
     · simp [bz, ck, ren, ae, ab.cs]
 · refine ev1 @h1 ?_
   have hi' : i = w.Posts.length := by simp at h1; omega
   subst hi'
   have h2 := hi.2
   rw [List.take_length] at h2
   exact ak.au (by rw [w6 h2]) (by rfl)
end Go.Proofs
end
section
set_option maxRecDepth 100000
namespace Go.Proofs
open Go.Lv
structure cm where
 Kind : Int
 Number : Int
 Value : Int
def cm.cs (r : cm) : List V := [.int .i64 r.Kind, .int .i64 r.Number, .int .i64 r.Value]
def cm.v (r : cm) : V := .agg [.int .i64 r.Kind, .int .i64 r.Number, .int .i64 r.Value]
theorem cm.csl (a : cm) : a.cs.length = 3 := rfl
instance : ri cm.cs 3 := ⟨fun _ => rfl, fun _ d => by cases d <;> rfl, fun _ => rfl, fun _ => rfl⟩
def cm.ok (r : cm) : Prop := bt r.Kind ∧ bt r.Number ∧ bt r.Value
abbrev cm.rows (L : List cm) : List V := Go.Lv.rows cm.cs L
abbrev cm.sl (L : List cm) : V := .sl L.length 3 (Go.Lv.rows cm.cs L)
abbrev cm.zs : List V := [.int .i64 0, .int .i64 0, .int .i64 0]
def cm.mk1 (k : Int) : cm := ⟨k, k + 1, k + 1 + 1⟩
def cm.marks (k : Int) (n : Nat) : List cm := (List.range n).map fun i : Nat => cm.mk1 (k + 3 * (i : Int))
@[simp] theorem cm.tj (k : Int) (n : Nat) : (cm.marks k n).length = n := by simp [cm.marks]
end Go.Proofs
end
section
set_option maxRecDepth 100000
set_option maxHeartbeats 1000000
namespace Go.Proofs
open Go.Lv
theorem akf {α : Type} (p : α → Bool) (L : List α) : (∃ i, ∃ h : i < L.length, jt p L = (i : Int) ∧ p L[i] = true) ∨ jt p L = -1 := by
 unfold jt
 cases h : L.findIdx? p with
 | none => exact .inr rfl
 | some i =>
  obtain ⟨h1, h2, _⟩ := List.findIdx?_eq_some_iff_getElem.1 h
  exact .inl ⟨i, h1, rfl, h2⟩
theorem tl {α : Type} {p : α → Bool} {L : List α} (h : decide (0 ≤ jt p L) = true) : ∃ i, ∃ h : i < L.length, jt p L = (i : Int) ∧ p L[i] = true := by
 rcases akf p L with h1 | h1
 · exact h1
 · rw [h1] at h; simp at h
def pAt (w : ab) (n : Int) : Nat := (jt (ky n) w.Posts).toNat
def sAt (w : ab) (n : Int) : Nat := (jt (dt n) w.Shocks).toNat
def du (w : ab) (k n v : Int) : Bool :=
 if k = 1 then n == 0 && decide (1 ≤ v)
 else if k = 2 ∨ k = 3 then decide (0 ≤ jt (ky n) w.Posts) && v == 0
 else if k = 4 then n == 0 && v == 0
 else if k = 5 then decide (0 ≤ jt (dt n) w.Shocks) && fb v (-20) 95
 else if k = 6 then decide (0 ≤ jt (dt n) w.Shocks) && fb v (-10) 10
 else (k == 7 || k == 8) && decide (0 ≤ jt (dt n) w.Shocks) && v == 0
def ve (x : aj) (k v : Int) : aj := if k = 5 then ⟨x.Number, 1, x.Seen, v, x.Tick⟩ else if k = 6 then ⟨x.Number, 2, x.Seen, x.Size + v, x.Tick⟩ else ⟨x.Number, 3, x.Seen, x.Size, x.Tick⟩
def aa2 (x : aj) (k : Int) : Bool := if k = 5 then x.State == 0 && decide (3 ≤ x.Seen) else if k = 6 then x.State == 1 else x.State == 2 || (x.State == 1 && decide (50 ≤ x.Size))
def aej (w : ab) (x : aj) : Bool := x.State == 3 || (x.State == 0 && decide (6000 < w.Now - x.Tick))
def upN (w : ab) (i : Nat) : Nat := ((w.Posts.take i).filter bf.Up).length
def alh (w : ab) (i : Nat) : aj := (w.Shocks[i]?).getD ⟨0, 0, 0, 0, 0⟩
def aws (w : ab) (i : Nat) : bf := (w.Posts[i]?).getD ⟨0, false, 0⟩
theorem zh {w : ab} {i : Nat} (h : i < w.Shocks.length) : alh w i = w.Shocks[i] := by simp [alh, h]
theorem ajt {w : ab} {i : Nat} (h : i < w.Posts.length) : aws w i = w.Posts[i] := by simp [aws, h]
def ft (w : ab) (k n v : Int) : ab :=
 if k = 1 then ⟨w.Now + v, w.Posts, w.Shocks, w.Next, w.Archived⟩
 else if k = 2 ∨ k = 3 then ⟨w.Now, w.Posts.set (pAt w n) ⟨n, decide (k = 3), w.Now⟩, w.Shocks, w.Next, w.Archived⟩
 else if k = 4 then ⟨w.Now, w.Posts, w.Shocks ++ [⟨w.Next, 0, (upN w w.Posts.length : Int), 0, w.Now⟩], w.Next + 1, w.Archived⟩
 else if k = 8 then ⟨w.Now, w.Posts, w.Shocks.take (sAt w n) ++ w.Shocks.drop (sAt w n + 1), w.Next, w.Archived + 1⟩
 else ⟨w.Now, w.Posts, w.Shocks.set (sAt w n) (ve (alh w (sAt w n)) k v), w.Next, w.Archived⟩
def o9 (w : ab) (k n v : Int) : Bool :=
 if k = 1 then decide (v ≤ 1000000 - w.Now)
 else if k = 2 ∨ k = 3 then (aws w (pAt w n)).Up != decide (k = 3)
 else if k = 4 then true
 else if k = 8 then aej w (alh w (sAt w n))
 else aa2 (alh w (sAt w n)) k
def gg (w : ab) (k n v : Int) : ab := if k = 1 ∧ ¬ v ≤ 1000000 - w.Now then w else ft w k n v
theorem akw (w : ab) (k n v : Int) (hp : w.Posts.length ≤ 16777216) (hs : w.Shocks.length ≤ 16777216) : Ctr Tryz.prog 133 [w.v, .agg [.int .i64 k, .int .i64 n, .int .i64 v]] [] (.bool (du w k n v)) [] := by
 by_cases k1 : k = 1
 · subst k1
   refine Ctr.intro Tryz.mixed Tryz.func133 rfl Tryz.xz ?_
   refine ev2 @Tryz.ntmps133 @Tryz.results133 ?_
   refine ev1 @ab.v.eq_1 ?_
   repeat' (first | (refine ak.au ?_ (by rfl); first | rfl | (simp [du, *]; done)) | ((have ct := n9 w n (by omega); (first | refine al.at ct ⟨leA, leA, trivial⟩ ?_ | refine ai.at ct ⟨leA, leA, trivial⟩ ?_); clear ct); simp -implicitDefEqProofs -dsimp only [go_sem, *]) | (refine aw.bu (fun _ => ?_) (fun _ => ?_) <;> simp -implicitDefEqProofs -dsimp only [go_sem, *]) | (refine aw.cg (fun _ => ?_) (fun _ => ?_) <;> simp -implicitDefEqProofs -dsimp only [go_sem, *]) | (refine ax.split (fun _ => ?_) (fun _ => ?_) <;> simp -implicitDefEqProofs -dsimp only [go_sem, *]))
 by_cases k2 : k = 2 ∨ k = 3
 · rcases k2 with k2 | k2
   · subst k2
     refine Ctr.intro Tryz.mixed Tryz.func133 rfl Tryz.xz ?_
     refine ev2 @Tryz.ntmps133 @Tryz.results133 ?_
     refine ev1 @ab.v.eq_1 ?_
     repeat' (first | (refine ak.au ?_ (by rfl); first | rfl | (simp [du, *]; done)) | ((have ct := n9 w n (by omega); (first | refine al.at ct ⟨leA, leA, trivial⟩ ?_ | refine ai.at ct ⟨leA, leA, trivial⟩ ?_); clear ct); simp -implicitDefEqProofs -dsimp only [go_sem, *]) | (refine aw.bu (fun _ => ?_) (fun _ => ?_) <;> simp -implicitDefEqProofs -dsimp only [go_sem, *]) | (refine aw.cg (fun _ => ?_) (fun _ => ?_) <;> simp -implicitDefEqProofs -dsimp only [go_sem, *]) | (refine ax.split (fun _ => ?_) (fun _ => ?_) <;> simp -implicitDefEqProofs -dsimp only [go_sem, *]))
   · subst k2
     refine Ctr.intro Tryz.mixed Tryz.func133 rfl Tryz.xz ?_
     refine ev2 @Tryz.ntmps133 @Tryz.results133 ?_
     refine ev1 @ab.v.eq_1 ?_
     repeat' (first | (refine ak.au ?_ (by rfl); first | rfl | (simp [du, *]; done)) | ((have ct := n9 w n (by omega); (first | refine al.at ct ⟨leA, leA, trivial⟩ ?_ | refine ai.at ct ⟨leA, leA, trivial⟩ ?_); clear ct); simp -implicitDefEqProofs -dsimp only [go_sem, *]) | (refine aw.bu (fun _ => ?_) (fun _ => ?_) <;> simp -implicitDefEqProofs -dsimp only [go_sem, *]) | (refine aw.cg (fun _ => ?_) (fun _ => ?_) <;> simp -implicitDefEqProofs -dsimp only [go_sem, *]) | (refine ax.split (fun _ => ?_) (fun _ => ?_) <;> simp -implicitDefEqProofs -dsimp only [go_sem, *]))
 by_cases k4 : k = 4
 · subst k4
   refine Ctr.intro Tryz.mixed Tryz.func133 rfl Tryz.xz ?_
   refine ev2 @Tryz.ntmps133 @Tryz.results133 ?_
   refine ev1 @ab.v.eq_1 ?_
   repeat' (first | (refine ak.au ?_ (by rfl); first | rfl | (simp [du, *]; done)) | ((have ct := n9 w n (by omega); (first | refine al.at ct ⟨leA, leA, trivial⟩ ?_ | refine ai.at ct ⟨leA, leA, trivial⟩ ?_); clear ct); simp -implicitDefEqProofs -dsimp only [go_sem, *]) | (refine aw.bu (fun _ => ?_) (fun _ => ?_) <;> simp -implicitDefEqProofs -dsimp only [go_sem, *]) | (refine aw.cg (fun _ => ?_) (fun _ => ?_) <;> simp -implicitDefEqProofs -dsimp only [go_sem, *]) | (refine ax.split (fun _ => ?_) (fun _ => ?_) <;> simp -implicitDefEqProofs -dsimp only [go_sem, *]))
 by_cases k5 : k = 5
 · subst k5
   refine Ctr.intro Tryz.mixed Tryz.func133 rfl Tryz.xz ?_
   refine ev2 @Tryz.ntmps133 @Tryz.results133 ?_
   refine ev1 @ab.v.eq_1 ?_
   repeat' (first | (refine ak.au ?_ (by rfl); first | rfl | (simp [du, *]; done)) | ((have ct := j7 w n (by omega); (first | refine al.at ct ⟨leA, leA, trivial⟩ ?_ | refine ai.at ct ⟨leA, leA, trivial⟩ ?_); clear ct); simp -implicitDefEqProofs -dsimp only [go_sem, *]) | ((first | refine al.at (dx _ _ _) ⟨leA, leA, leA, trivial⟩ ?_ | refine ai.at (dx _ _ _) ⟨leA, leA, leA, trivial⟩ ?_); simp -implicitDefEqProofs -dsimp only [go_sem, *]) | (refine aw.bu (fun _ => ?_) (fun _ => ?_) <;> simp -implicitDefEqProofs -dsimp only [go_sem, *]) | (refine aw.cg (fun _ => ?_) (fun _ => ?_) <;> simp -implicitDefEqProofs -dsimp only [go_sem, *]) | (refine ax.split (fun _ => ?_) (fun _ => ?_) <;> simp -implicitDefEqProofs -dsimp only [go_sem, *]))
 by_cases k6 : k = 6
 · subst k6
   refine Ctr.intro Tryz.mixed Tryz.func133 rfl Tryz.xz ?_
   refine ev2 @Tryz.ntmps133 @Tryz.results133 ?_
   refine ev1 @ab.v.eq_1 ?_
   repeat' (first | (refine ak.au ?_ (by rfl); first | rfl | (simp [du, *]; done)) | ((have ct := j7 w n (by omega); (first | refine al.at ct ⟨leA, leA, trivial⟩ ?_ | refine ai.at ct ⟨leA, leA, trivial⟩ ?_); clear ct); simp -implicitDefEqProofs -dsimp only [go_sem, *]) | ((first | refine al.at (dx _ _ _) ⟨leA, leA, leA, trivial⟩ ?_ | refine ai.at (dx _ _ _) ⟨leA, leA, leA, trivial⟩ ?_); simp -implicitDefEqProofs -dsimp only [go_sem, *]) | (refine aw.bu (fun _ => ?_) (fun _ => ?_) <;> simp -implicitDefEqProofs -dsimp only [go_sem, *]) | (refine aw.cg (fun _ => ?_) (fun _ => ?_) <;> simp -implicitDefEqProofs -dsimp only [go_sem, *]) | (refine ax.split (fun _ => ?_) (fun _ => ?_) <;> simp -implicitDefEqProofs -dsimp only [go_sem, *]))
 have b1 : (k == 1) = false := by simp [k1]
 have b2 : (k == 2) = false := by simp at k2; simp [k2]
 have b3 : (k == 3) = false := by simp at k2; simp [k2]
 have b4 : (k == 4) = false := by simp [k4]
 have b5 : (k == 5) = false := by simp [k5]
 have b6 : (k == 6) = false := by simp [k6]
 have e : du w k n v = ((k == 7 || k == 8) && decide (0 ≤ jt (dt n) w.Shocks) && v == 0) := by
  rw [du, if_neg k1, if_neg k2, if_neg k4, if_neg k5, if_neg k6]
 rw [e]
 clear e k1 k2 k4 k5 k6
 refine Ctr.intro Tryz.mixed Tryz.func133 rfl Tryz.xz ?_
 refine ev2 @Tryz.ntmps133 @Tryz.results133 ?_
 refine ev7 @b1 @b2 @b3 @b4 @b5 @b6 @ab.v.eq_1 ?_
 repeat' (first | (refine ak.au ?_ (by rfl); first | rfl | (simp [*]; done)) | ((have ct := j7 w n (by omega); (first | refine al.at ct ⟨leA, leA, trivial⟩ ?_ | refine ai.at ct ⟨leA, leA, trivial⟩ ?_); clear ct); simp -implicitDefEqProofs -dsimp only [go_sem, *]) | (refine aw.bu (fun _ => ?_) (fun _ => ?_) <;> simp -implicitDefEqProofs -dsimp only [go_sem, *]) | (refine aw.cg (fun _ => ?_) (fun _ => ?_) <;> simp -implicitDefEqProofs -dsimp only [go_sem, *]) | (refine ax.split (fun _ => ?_) (fun _ => ?_) <;> simp -implicitDefEqProofs -dsimp only [go_sem, *]))
theorem anm (w : ab) (k n v : Int) (hp : w.Posts.length ≤ 16777216) (hs : w.Shocks.length ≤ 16777216) : Ctr Tryz.prog 144 [w.v, .agg [.int .i64 k, .int .i64 n, .int .i64 v]] [] (.bool (du w k n v)) [] := by
 by_cases k1 : k = 1
 · subst k1
   refine Ctr.intro Tryz.mixed Tryz.func144 rfl Tryz.x5 ?_
   refine ev2 @Tryz.ntmps144 @Tryz.results144 ?_
   refine ev1 @ab.v.eq_1 ?_
   repeat' (first | (refine ak.au ?_ (by rfl); first | rfl | (simp [du, *]; done)) | ((have ct := qf w n (by omega); (first | refine al.at ct ⟨leA, leA, trivial⟩ ?_ | refine ai.at ct ⟨leA, leA, trivial⟩ ?_); clear ct); simp -implicitDefEqProofs -dsimp only [go_sem, *]) | (refine aw.bu (fun _ => ?_) (fun _ => ?_) <;> simp -implicitDefEqProofs -dsimp only [go_sem, *]) | (refine aw.cg (fun _ => ?_) (fun _ => ?_) <;> simp -implicitDefEqProofs -dsimp only [go_sem, *]) | (refine ax.split (fun _ => ?_) (fun _ => ?_) <;> simp -implicitDefEqProofs -dsimp only [go_sem, *]))
 by_cases k2 : k = 2 ∨ k = 3
 · rcases k2 with k2 | k2
   · subst k2
     refine Ctr.intro Tryz.mixed Tryz.func144 rfl Tryz.x5 ?_
     refine ev2 @Tryz.ntmps144 @Tryz.results144 ?_
     refine ev1 @ab.v.eq_1 ?_
     repeat' (first | (refine ak.au ?_ (by rfl); first | rfl | (simp [du, *]; done)) | ((have ct := qf w n (by omega); (first | refine al.at ct ⟨leA, leA, trivial⟩ ?_ | refine ai.at ct ⟨leA, leA, trivial⟩ ?_); clear ct); simp -implicitDefEqProofs -dsimp only [go_sem, *]) | (refine aw.bu (fun _ => ?_) (fun _ => ?_) <;> simp -implicitDefEqProofs -dsimp only [go_sem, *]) | (refine aw.cg (fun _ => ?_) (fun _ => ?_) <;> simp -implicitDefEqProofs -dsimp only [go_sem, *]) | (refine ax.split (fun _ => ?_) (fun _ => ?_) <;> simp -implicitDefEqProofs -dsimp only [go_sem, *]))
   · subst k2
     refine Ctr.intro Tryz.mixed Tryz.func144 rfl Tryz.x5 ?_
     refine ev2 @Tryz.ntmps144 @Tryz.results144 ?_
     refine ev1 @ab.v.eq_1 ?_
     repeat' (first | (refine ak.au ?_ (by rfl); first | rfl | (simp [du, *]; done)) | ((have ct := qf w n (by omega); (first | refine al.at ct ⟨leA, leA, trivial⟩ ?_ | refine ai.at ct ⟨leA, leA, trivial⟩ ?_); clear ct); simp -implicitDefEqProofs -dsimp only [go_sem, *]) | (refine aw.bu (fun _ => ?_) (fun _ => ?_) <;> simp -implicitDefEqProofs -dsimp only [go_sem, *]) | (refine aw.cg (fun _ => ?_) (fun _ => ?_) <;> simp -implicitDefEqProofs -dsimp only [go_sem, *]) | (refine ax.split (fun _ => ?_) (fun _ => ?_) <;> simp -implicitDefEqProofs -dsimp only [go_sem, *]))
 by_cases k4 : k = 4
 · subst k4
   refine Ctr.intro Tryz.mixed Tryz.func144 rfl Tryz.x5 ?_
   refine ev2 @Tryz.ntmps144 @Tryz.results144 ?_
   refine ev1 @ab.v.eq_1 ?_
   repeat' (first | (refine ak.au ?_ (by rfl); first | rfl | (simp [du, *]; done)) | ((have ct := qf w n (by omega); (first | refine al.at ct ⟨leA, leA, trivial⟩ ?_ | refine ai.at ct ⟨leA, leA, trivial⟩ ?_); clear ct); simp -implicitDefEqProofs -dsimp only [go_sem, *]) | (refine aw.bu (fun _ => ?_) (fun _ => ?_) <;> simp -implicitDefEqProofs -dsimp only [go_sem, *]) | (refine aw.cg (fun _ => ?_) (fun _ => ?_) <;> simp -implicitDefEqProofs -dsimp only [go_sem, *]) | (refine ax.split (fun _ => ?_) (fun _ => ?_) <;> simp -implicitDefEqProofs -dsimp only [go_sem, *]))
 by_cases k5 : k = 5
 · subst k5
   refine Ctr.intro Tryz.mixed Tryz.func144 rfl Tryz.x5 ?_
   refine ev2 @Tryz.ntmps144 @Tryz.results144 ?_
   refine ev1 @ab.v.eq_1 ?_
   repeat' (first | (refine ak.au ?_ (by rfl); first | rfl | (simp [du, *]; done)) | ((have ct := ki w n (by omega); (first | refine al.at ct ⟨leA, leA, trivial⟩ ?_ | refine ai.at ct ⟨leA, leA, trivial⟩ ?_); clear ct); simp -implicitDefEqProofs -dsimp only [go_sem, *]) | ((first | refine al.at (mr _) ⟨leA, trivial⟩ ?_ | refine ai.at (mr _) ⟨leA, trivial⟩ ?_); simp -implicitDefEqProofs -dsimp only [go_sem, *]) | (refine aw.bu (fun _ => ?_) (fun _ => ?_) <;> simp -implicitDefEqProofs -dsimp only [go_sem, *]) | (refine aw.cg (fun _ => ?_) (fun _ => ?_) <;> simp -implicitDefEqProofs -dsimp only [go_sem, *]) | (refine ax.split (fun _ => ?_) (fun _ => ?_) <;> simp -implicitDefEqProofs -dsimp only [go_sem, *]))
 by_cases k6 : k = 6
 · subst k6
   refine Ctr.intro Tryz.mixed Tryz.func144 rfl Tryz.x5 ?_
   refine ev2 @Tryz.ntmps144 @Tryz.results144 ?_
   refine ev1 @ab.v.eq_1 ?_
   repeat' (first | (refine ak.au ?_ (by rfl); first | rfl | (simp [du, *]; done)) | ((have ct := ki w n (by omega); (first | refine al.at ct ⟨leA, leA, trivial⟩ ?_ | refine ai.at ct ⟨leA, leA, trivial⟩ ?_); clear ct); simp -implicitDefEqProofs -dsimp only [go_sem, *]) | ((first | refine al.at (j8 _ _ _) ⟨leA, leA, leA, trivial⟩ ?_ | refine ai.at (j8 _ _ _) ⟨leA, leA, leA, trivial⟩ ?_); simp -implicitDefEqProofs -dsimp only [go_sem, *]) | (refine aw.bu (fun _ => ?_) (fun _ => ?_) <;> simp -implicitDefEqProofs -dsimp only [go_sem, *]) | (refine aw.cg (fun _ => ?_) (fun _ => ?_) <;> simp -implicitDefEqProofs -dsimp only [go_sem, *]) | (refine ax.split (fun _ => ?_) (fun _ => ?_) <;> simp -implicitDefEqProofs -dsimp only [go_sem, *]))
 have b1 : (k == 1) = false := by simp [k1]
 have b2 : (k == 2) = false := by simp at k2; simp [k2]
 have b3 : (k == 3) = false := by simp at k2; simp [k2]
 have b4 : (k == 4) = false := by simp [k4]
 have b5 : (k == 5) = false := by simp [k5]
 have b6 : (k == 6) = false := by simp [k6]
 have e : du w k n v = (fb k 7 8 && decide (0 ≤ jt (dt n) w.Shocks) && v == 0) := by
  rw [du, if_neg k1, if_neg k2, if_neg k4, if_neg k5, if_neg k6]
  congr 2
  rw [Bool.eq_iff_iff]; simp [fb]; omega
 rw [e]
 clear e k1 k2 k4 k5 k6
 refine Ctr.intro Tryz.mixed Tryz.func144 rfl Tryz.x5 ?_
 refine ev2 @Tryz.ntmps144 @Tryz.results144 ?_
 refine ev7 @b1 @b2 @b3 @b4 @b5 @b6 @ab.v.eq_1 ?_
 repeat' (first | (refine ak.au ?_ (by rfl); first | rfl | (simp [*]; done)) | ((first | refine al.at (j8 _ _ _) ⟨leA, leA, leA, trivial⟩ ?_ | refine ai.at (j8 _ _ _) ⟨leA, leA, leA, trivial⟩ ?_); simp -implicitDefEqProofs -dsimp only [go_sem, *]) | ((have ct := ki w n (by omega); (first | refine al.at ct ⟨leA, leA, trivial⟩ ?_ | refine ai.at ct ⟨leA, leA, trivial⟩ ?_); clear ct); simp -implicitDefEqProofs -dsimp only [go_sem, *]) | (refine aw.bu (fun _ => ?_) (fun _ => ?_) <;> simp -implicitDefEqProofs -dsimp only [go_sem, *]) | (refine aw.cg (fun _ => ?_) (fun _ => ?_) <;> simp -implicitDefEqProofs -dsimp only [go_sem, *]) | (refine ax.split (fun _ => ?_) (fun _ => ?_) <;> simp -implicitDefEqProofs -dsimp only [go_sem, *]))
theorem jv (w : ab) (hp : w.Posts.length ≤ 16777216) (hs : w.Shocks.length ≤ 16777216) : Ctr Tryz.prog 76 [w.v] [] (w.o 0 1) [some (rows bf.cs w.Posts), some (rows aj.cs w.Shocks)] := by
 refine Ctr.intro Tryz.mixed Tryz.func76 rfl Tryz.a18 ?_
 refine ev2 @Tryz.ntmps76 @Tryz.results76 ?_
 refine ev1 @ab.v.eq_1 ?_
 refine chT.intro [true, true, false, true, true, false, false, true, true, false, true, true, true, true, false, false] [true, true, true, true, true, true, true, true, true, true, true, true, true, true, false, false] [none, none, some ⟨none, 5, 24, []⟩, none, none, some ⟨some 2, 8, 24, [7]⟩, some ⟨none, 9, 25, []⟩, none, none, some ⟨some 6, 12, 25, [11]⟩, none, none, none, none, none, none] [⟨5, 8, 24, [7]⟩, ⟨9, 12, 25, [11]⟩] (by kernel_rfl) (by rfl) ?_
 refine ev0 ?_
 repeat (with_reducible refine de ?_)
 refine ⟨⟨by omega, by omega, lx _ _⟩, bh _, ⟨by omega, by omega, lx _ _⟩, ?_⟩
 refine ak.pick [2, 3] (by decide) (fun j hj => by omega) (.inl ?_) ?_
 · first | rfl | (simp [ren, bc, posOf, ab.o]; done)
 · simp only [az, List.map_cons, List.map_nil, bg, List.getElem?_cons_zero, List.getElem?_cons_succ, ae]
theorem agh (n t : Int) (x : aj) (k m v : Int) (hx : jl n t x = true) (hk : k = 5 ∨ k = 6 ∨ k = 7) (hv : -100 ≤ v ∧ v ≤ 100) : Ctr Tryz.prog 166 [x.v, .agg [.int .i64 k, .int .i64 m, .int .i64 v]] [] (.tup [(ve x k v).v, .bool (aa2 x k)]) [] := by
 have hb := er.1 hx
 have hw : IntKind.i64.wrap (x.Size + v) = x.Size + v := wrap_i64 (by omega) (by omega)
 rcases hk with hk | hk | hk
 · subst hk
   refine Ctr.intro Tryz.mixed Tryz.func166 rfl Tryz.ali ?_
   refine ev2 @Tryz.ntmps166 @Tryz.results166 ?_
   refine rn2 @aj.v.eq_1 @hw ?_
   refine pa.path [true, true, true, true, true, true, true, true, true, false, false] [false, false, false, false, false, true, true, true, true, false, false] 1 [2] (by kernel_rfl) ?_
   refine rn2 @aj.v.eq_1 @hw ?_
   repeat' (first | (refine ak.au ?_ (by rfl); first | rfl | (simp [ve, aa2, aj.v, *]; done)) | (refine aw.bu (fun _ => ?_) (fun _ => ?_) <;> (repeat ((repeat1' (first | simp -implicitDefEqProofs -dsimp only [go_sem, *] | simp -dsimp (disch := omega) only [wrap_i64])); repeat (with_reducible refine de ?_)))) | (refine aw.cg (fun _ => ?_) (fun _ => ?_) <;> (repeat ((repeat1' (first | simp -implicitDefEqProofs -dsimp only [go_sem, *] | simp -dsimp (disch := omega) only [wrap_i64])); repeat (with_reducible refine de ?_)))))
 · subst hk
   refine Ctr.intro Tryz.mixed Tryz.func166 rfl Tryz.ali ?_
   refine ev2 @Tryz.ntmps166 @Tryz.results166 ?_
   refine rn2 @aj.v.eq_1 @hw ?_
   refine pa.path [true, true, true, true, false, false] [false, true, true, true, false, false] 1 [2] (by kernel_rfl) ?_
   refine rn2 @aj.v.eq_1 @hw ?_
   repeat' (first | (refine ak.au ?_ (by rfl); first | rfl | (simp [ve, aa2, aj.v, *]; done)) | (refine aw.bu (fun _ => ?_) (fun _ => ?_) <;> (repeat ((repeat1' (first | simp -implicitDefEqProofs -dsimp only [go_sem, *] | simp -dsimp (disch := omega) only [wrap_i64])); repeat (with_reducible refine de ?_)))) | (refine aw.cg (fun _ => ?_) (fun _ => ?_) <;> (repeat ((repeat1' (first | simp -implicitDefEqProofs -dsimp only [go_sem, *] | simp -dsimp (disch := omega) only [wrap_i64])); repeat (with_reducible refine de ?_)))))
 · subst hk
   refine Ctr.intro Tryz.mixed Tryz.func166 rfl Tryz.ali ?_
   refine ev2 @Tryz.ntmps166 @Tryz.results166 ?_
   refine rn2 @aj.v.eq_1 @hw ?_
   refine pa.path [true, true, true, true, true, true, true, true, true, true, true, true, true, true, false, false] [false, false, false, false, false, false, false, false, false, true, true, true, true, true, false, false] 1 [2] (by kernel_rfl) ?_
   refine rn2 @aj.v.eq_1 @hw ?_
   repeat' (first | (refine ak.au ?_ (by rfl); first | rfl | (simp [ve, aa2, aj.v, *]; done)) | (refine aw.bu (fun _ => ?_) (fun _ => ?_) <;> (repeat ((repeat1' (first | simp -implicitDefEqProofs -dsimp only [go_sem, *] | simp -dsimp (disch := omega) only [wrap_i64])); repeat (with_reducible refine de ?_)))) | (refine aw.cg (fun _ => ?_) (fun _ => ?_) <;> (repeat ((repeat1' (first | simp -implicitDefEqProofs -dsimp only [go_sem, *] | simp -dsimp (disch := omega) only [wrap_i64])); repeat (with_reducible refine de ?_)))))
theorem aqg (w : ab) (hp : w.Posts.length ≤ 16777216) : Ctr Tryz.prog 164 [w.v] [] (.int .i64 (upN w w.Posts.length : Int)) [] := by
 have hlen : ∀ i, upN w i ≤ i := fun i => Nat.le_trans (List.length_filter_le _ _) (by simp; omega)
 refine Ctr.intro Tryz.mixed Tryz.func164 rfl Tryz.awa ?_
 refine ev2 @Tryz.ntmps164 @Tryz.results164 ?_
 refine ev1 @ab.v.eq_1 ?_
 refine dh.intro (fun i : Nat => i ≤ w.Posts.length) (fun i => ⟨(.undef :: .ptr 0 0 :: .undef :: .int .i64 (upN w i : Int) :: .int .i64 i :: (un 16 [])), [some w.cs], 0⟩) (fun i => w.Posts.length - i) 0 (Nat.zero_le _) ?_ (fun i hi => ?_)
 · refine aq.cut (1) (by simp) (by simp) ?_ ?_
   · simp [LeC, LeV, ren, bj, upN]
   · simp [bz, ck, ren, ae, ab.cs]
 refine ev1 @ab.cs.eq_1 ?_
 refine ax.split (fun h1 => ?_) (fun h1 => ?_)
 · refine ev2 @h1 @ab.cs.eq_1 ?_
   have hi' : i < w.Posts.length := by simpa using h1
   have hr := bw bf.csl hi'
   have hll := hlen i
   have hs : upN w (i + 1) = upN w i + (if w.Posts[i].Up then 1 else 0) := by
    rw [upN, upN, List.take_succ_eq_append_getElem hi', List.filter_append, List.length_append]
    congr 1
    cases h : w.Posts[i].Up <;> simp [h]
   refine rn3 @hr @bf.cs.eq_1 @ab.cs.eq_1 ?_
   refine ax.split (fun h2 => ?_) (fun h2 => ?_) <;> refine rn1 @h2 ?_
   · refine ⟨i + 1, hi', ?_, by omega⟩
     rw [hs, h2]
     refine aq.cut (1) (by simp) (by simp) ?_ ?_
     · simp [LeC, LeV, ren, bj]
     · simp [bz, ck, ren, ae, ab.cs]
   · refine ⟨i + 1, hi', ?_, by omega⟩
     rw [hs, h2]
     refine aq.cut (1) (by simp) (by simp) ?_ ?_
     · simp [LeC, LeV, ren, bj]
     · simp [bz, ck, ren, ae, ab.cs]
 · refine ev1 @h1 ?_
   have hi' : i = w.Posts.length := by simp at h1; omega
   subst hi'
   exact ak.au rfl (by rfl)
end Go.Proofs
end
section
set_option maxRecDepth 100000
set_option maxHeartbeats 1000000
namespace Go.Proofs
open Go.Lv
def jq (w : ab) (i : Nat) : ab := ⟨w.Now, w.Posts, w.Shocks.take i ++ w.Shocks.drop (i + 1), w.Next, w.Archived + 1⟩
theorem aeu (w : ab) (i : Nat) (hw : wB w = true) (hi : i < w.Shocks.length) : Ctr Tryz.prog 165 [w.v, .int .i64 i] [] (.tup [(jq w i).o 0 1, .bool (aej w (alh w i))]) [some (rows bf.cs w.Posts), some (rows aj.cs (w.Shocks.take i ++ w.Shocks.drop (i + 1)))] := by
 have W := eh hw
 have hr := bw aj.csl hi
 have pl := W.plen
 have sl := W.slen
 refine Ctr.intro Tryz.mixed Tryz.func165 rfl Tryz.ax3 ?_
 refine ev2 @Tryz.ntmps165 @Tryz.results165 ?_
 refine ev1 @ab.v.eq_1 ?_
 refine pa.path [true, true, true, true, true, true, true, true, true, false, false] [false, false, true, true, true, true, true, false, false, false, false] 1 [4] (by kernel_rfl) ?_
 refine ev0 ?_
 (have ct := jv w (by omega) (by omega); (first | refine al.at ct ⟨leA, trivial⟩ ?_ | refine ai.at ct ⟨leA, trivial⟩ ?_); clear ct)
 refine rn3 @ab.o.eq_1 @hr @aj.cs.eq_1 ?_
 refine chT.intro [false, true, true, true, true, false, true, true, true, true, true, false, true, false] [true, true, true, true, true, true, true, true, true, true, true, true, true, false] [some ⟨none, 15, 25, []⟩, none, none, none, none, some ⟨some 0, 20, 25, [19]⟩, none, none, none, none, none, some ⟨some 5, 26, 25, [19, 25]⟩, none, none] [⟨11, 26, 25, [19, 25]⟩] (by kernel_rfl) (by rfl) ?_
 have hwi : IntKind.i64.wrap ((i : Int) + 1) = ((i + 1 : Nat) : Int) := by rw [wrap_i64 (by omega) (by omega)]; omega
 have ht := af4 aj.csl w.Shocks i
 have hd := xb aj.csl w.Shocks (i + 1)
 have hap : rows aj.cs (w.Shocks.take i) ++ rows aj.cs (w.Shocks.drop (i + 1)) = rows aj.cs (w.Shocks.take i ++ w.Shocks.drop (i + 1)) := (je _ _).symm
 have hln : i + (w.Shocks.length - (i + 1)) = (w.Shocks.take i ++ w.Shocks.drop (i + 1)).length := by simp; omega
 refine rn6 @hwi @Nat.sub_zero @ht @hd @hap @hln ?_
 refine ⟨⟨by omega, by omega, lx _ _⟩, ?_⟩
 have hwa : IntKind.i64.wrap (w.Archived + 1) = w.Archived + 1 := by have := W.arch; exact wrap_i64 (by omega) (by omega)
 refine pa.path [true, true, true, true, true, true, true, true, true, true, true, true, true, true, true, true, true, false, false] [false, false, false, false, false, false, false, false, false, true, true, true, true, true, true, true, true, false, false] 1 [1] (by kernel_rfl) ?_
 refine rn1 @hwa ?_
 have hx := W.shocks _ (List.getElem_mem hi)
 have hxb := er.1 hx
 have hwn : IntKind.i64.wrap (w.Now - w.Shocks[i].Tick) = w.Now - w.Shocks[i].Tick := by have := W.now; exact wrap_i64 (by omega) (by omega)
 repeat' (first | (refine aw.bu (fun _ => ?_) (fun _ => ?_) <;> (repeat ((repeat1' (first | simp -implicitDefEqProofs -dsimp only [go_sem, *] | simp -dsimp (disch := omega) only [wrap_i64])); repeat (with_reducible refine de ?_)))) | (refine aw.cg (fun _ => ?_) (fun _ => ?_) <;> (repeat ((repeat1' (first | simp -implicitDefEqProofs -dsimp only [go_sem, *] | simp -dsimp (disch := omega) only [wrap_i64])); repeat (with_reducible refine de ?_)))))
 all_goals
  refine ak.pick [2, 6] (by decide) (fun j hj => by omega) (.inl ?_) ?_
  · simp [ren, bc, posOf, jq, aej, zh hi, *]
  · simp only [az, List.map_cons, List.map_nil, bg, List.getElem?_cons_zero, List.getElem?_cons_succ, ae]
end Go.Proofs
end
section
set_option maxRecDepth 100000
set_option maxHeartbeats 1000000
namespace Go.Proofs
open Go.Lv
theorem bd {x y : V} (h : LeV x y := by first | exact leA | exact ab.le rfl rfl) : LeV x y := h
def e7 (w : ab) (k n v : Int) : Bool := o9 w k n v && wB (ft w k n v)
theorem aij (w : ab) (n v : Int) (hw : wB w = true) (hv : 1 ≤ v) (hv2 : v ≤ 9223372036854775807) : Ctr Tryz.prog 134 [w.v, .agg [.int .i64 1, .int .i64 n, .int .i64 v]] [] (.tup [(gg w 1 n v).o 0 1, .bool (e7 w 1 n v)]) [some (rows bf.cs w.Posts), some (rows aj.cs w.Shocks)] := by
 have W := eh hw
 have pl := W.plen
 have sl := W.slen
 have wn := W.now
 have hw1 : IntKind.i64.wrap (1000000 - w.Now) = 1000000 - w.Now := wrap_i64 (by omega) (by omega)
 refine Ctr.intro Tryz.mixed Tryz.func134 rfl Tryz.wz ?_
 refine ev2 @Tryz.ntmps134 @Tryz.results134 ?_
 refine ev1 @ab.v.eq_1 ?_
 (have ct := jv w (by omega) (by omega); (first | refine al.at ct ⟨bd, trivial⟩ ?_ | refine ai.at ct ⟨bd, trivial⟩ ?_); clear ct)
 refine rn2 @ab.o.eq_1 @hw1 ?_
 refine ax.split (fun h1 => ?_) (fun h1 => ?_)
 · refine rn1 @h1 ?_
   have hm : ¬ v ≤ 1000000 - w.Now := by simp at h1; omega
   have e1 : gg w 1 n v = w := by simp [gg, hm]
   have e2 : e7 w 1 n v = false := by simp [e7, o9, hm]
   rw [e1, e2]
   refine ak.pick [3, 4] (by decide) (fun j hj => by omega) (.inl ?_) ?_
   · first | rfl | (simp [ren, bc, posOf, ab.o]; done)
   · simp only [az, List.map_cons, List.map_nil, bg, List.getElem?_cons_zero, List.getElem?_cons_succ, ae]
 · have hm : v ≤ 1000000 - w.Now := by simp at h1; omega
   have hw2 : IntKind.i64.wrap (w.Now + v) = w.Now + v := wrap_i64 (by omega) (by omega)
   have e1 : gg w 1 n v = ft w 1 n v := by simp [gg, hm]
   have e3 : ft w 1 n v = ⟨w.Now + v, w.Posts, w.Shocks, w.Next, w.Archived⟩ := by simp [ft]
   have e2 : e7 w 1 n v = wB ⟨w.Now + v, w.Posts, w.Shocks, w.Next, w.Archived⟩ := by simp [e7, o9, hm, e3]
   rw [e1, e2, e3]
   refine rn2 @h1 @hw2 ?_
   (have ct := ew ⟨w.Now + v, w.Posts, w.Shocks, w.Next, w.Archived⟩ (by simp; omega) (by simp; omega); (first | refine al.at ct ⟨bd, trivial⟩ ?_ | refine ai.at ct ⟨bd, trivial⟩ ?_); clear ct)
   refine rn0 ?_
   refine ak.pick [3, 4] (by decide) (fun j hj => by omega) (.inl ?_) ?_
   · first | rfl | (simp [ren, bc, posOf, ab.o]; done)
   · simp only [az, List.map_cons, List.map_nil, bg, List.getElem?_cons_zero, List.getElem?_cons_succ, ae]
theorem ail (w : ab) (k n v : Int) (hk : k = 2 ∨ k = 3) (hw : wB w = true) (hs : du w k n v = true) : Ctr Tryz.prog 134 [w.v, .agg [.int .i64 k, .int .i64 n, .int .i64 v]] [] (.tup [(gg w k n v).o 0 1, .bool (e7 w k n v)]) [some (rows bf.cs (gg w k n v).Posts), some (rows aj.cs w.Shocks)] := by
 have W := eh hw
 have pl := W.plen
 have sl := W.slen
 obtain ⟨i, hi, hix, hin⟩ : ∃ i, ∃ h : i < w.Posts.length, jt (ky n) w.Posts = (i : Int) ∧ ky n w.Posts[i] = true := by
  have : decide (0 ≤ jt (ky n) w.Posts) = true := by
   rcases hk with rfl | rfl <;> simp [du] at hs <;> simp [hs.1]
  exact tl this
 have hp : pAt w n = i := by simp [pAt, hix]
 have e1 : gg w k n v = ⟨w.Now, w.Posts.set i ⟨n, decide (k = 3), w.Now⟩, w.Shocks, w.Next, w.Archived⟩ := by
  rcases hk with rfl | rfl <;> simp [gg, ft, hp]
 have e2 : e7 w k n v = (w.Posts[i].Up != decide (k = 3) && wB ⟨w.Now, w.Posts.set i ⟨n, decide (k = 3), w.Now⟩, w.Shocks, w.Next, w.Archived⟩) := by
  rcases hk with rfl | rfl <;> simp [e7, o9, ft, hp, ajt hi]
 have hr := bw bf.csl hi
 have hsp : ∀ b, dj (rows bf.cs w.Posts) (i * 3) [.int .i64 n, .bool b, .int .i64 w.Now] = rows bf.cs (w.Posts.set i ⟨n, b, w.Now⟩) := fun b => n5 (cs := bf.cs) bf.csl hi ⟨n, b, w.Now⟩
 have hgood := ew ⟨w.Now, w.Posts.set i ⟨n, decide (k = 3), w.Now⟩, w.Shocks, w.Next, w.Archived⟩ (by simp; omega) (by simp; omega)
 rw [e1, e2]
 have hlen : ∀ p, (w.Posts.set i p).length = w.Posts.length := fun p => by simp
 rcases hk with rfl | rfl
 · have hd : decide ((2 : Int) = 3) = false := rfl
   rw [hd] at hgood ⊢
   simp only [ab.v, hlen] at hgood
   simp only [ab.o, hlen]
   refine Ctr.intro Tryz.mixed Tryz.func134 rfl Tryz.wz ?_
   refine ev2 @Tryz.ntmps134 @Tryz.results134 ?_
   refine ev1 @ab.v.eq_1 ?_
   (have ct := jv w (by omega) (by omega); (first | refine al.at ct ⟨bd, trivial⟩ ?_ | refine ai.at ct ⟨bd, trivial⟩ ?_); clear ct)
   refine rn1 @ab.o.eq_1 ?_
   (have ct := n9 w n (by omega); (first | refine al.at ct ⟨bd, bd, trivial⟩ ?_ | refine ai.at ct ⟨bd, bd, trivial⟩ ?_); clear ct)
   rw [hix]
   refine rn2 @hr @bf.cs.eq_1 ?_
   refine aw.bu (fun g => ?_) (fun g => ?_) <;> refine rn3 @g @hsp @Int.toNat_natCast ?_
   · skip
     (first | refine al.at (hgood) ⟨bd, trivial⟩ ?_ | refine ai.at (hgood) ⟨bd, trivial⟩ ?_)
     refine rn1 @g ?_
     simp at g
     refine ak.pick [3, 4] (by decide) (fun j hj => by omega) (.inl ?_) ?_
     · first | rfl | (simp [ren, bc, posOf, ab.o, g]; done)
     · simp only [az, List.map_cons, List.map_nil, bg, List.getElem?_cons_zero, List.getElem?_cons_succ, ae]
   · skip
     simp at g
     refine ak.pick [3, 4] (by decide) (fun j hj => by omega) (.inl ?_) ?_
     · first | rfl | (simp [ren, bc, posOf, ab.o, g]; done)
     · simp only [az, List.map_cons, List.map_nil, bg, List.getElem?_cons_zero, List.getElem?_cons_succ, ae]
 · have hd : decide ((3 : Int) = 3) = true := rfl
   rw [hd] at hgood ⊢
   simp only [ab.v, hlen] at hgood
   simp only [ab.o, hlen]
   refine Ctr.intro Tryz.mixed Tryz.func134 rfl Tryz.wz ?_
   refine ev2 @Tryz.ntmps134 @Tryz.results134 ?_
   refine ev1 @ab.v.eq_1 ?_
   (have ct := jv w (by omega) (by omega); (first | refine al.at ct ⟨bd, trivial⟩ ?_ | refine ai.at ct ⟨bd, trivial⟩ ?_); clear ct)
   refine rn1 @ab.o.eq_1 ?_
   (have ct := n9 w n (by omega); (first | refine al.at ct ⟨bd, bd, trivial⟩ ?_ | refine ai.at ct ⟨bd, bd, trivial⟩ ?_); clear ct)
   rw [hix]
   refine rn2 @hr @bf.cs.eq_1 ?_
   refine aw.bu (fun g => ?_) (fun g => ?_) <;> refine rn3 @g @hsp @Int.toNat_natCast ?_
   · skip
     (first | refine al.at (hgood) ⟨bd, trivial⟩ ?_ | refine ai.at (hgood) ⟨bd, trivial⟩ ?_)
     refine rn1 @g ?_
     simp at g
     refine ak.pick [3, 4] (by decide) (fun j hj => by omega) (.inl ?_) ?_
     · first | rfl | (simp [ren, bc, posOf, ab.o, g]; done)
     · simp only [az, List.map_cons, List.map_nil, bg, List.getElem?_cons_zero, List.getElem?_cons_succ, ae]
   · skip
     simp at g
     refine ak.pick [3, 4] (by decide) (fun j hj => by omega) (.inl ?_) ?_
     · first | rfl | (simp [ren, bc, posOf, ab.o, g]; done)
     · simp only [az, List.map_cons, List.map_nil, bg, List.getElem?_cons_zero, List.getElem?_cons_succ, ae]
theorem ajz (w : ab) (n v : Int) (hw : wB w = true) : Ctr Tryz.prog 134 [w.v, .agg [.int .i64 4, .int .i64 n, .int .i64 v]] [] (.tup [(gg w 4 n v).o 0 1, .bool (e7 w 4 n v)]) [some (rows bf.cs w.Posts), some (rows aj.cs (gg w 4 n v).Shocks)] := by
 have W := eh hw
 have pl := W.plen
 have sl := W.slen
 have wn := W.next
 have hwn : IntKind.i64.wrap (w.Next + 1) = w.Next + 1 := wrap_i64 (by omega) (by omega)
 obtain ⟨x, hx⟩ : ∃ x : aj, x = ⟨w.Next, 0, (upN w w.Posts.length : Int), 0, w.Now⟩ := ⟨_, rfl⟩
 have e1 : gg w 4 n v = ⟨w.Now, w.Posts, w.Shocks ++ [x], w.Next + 1, w.Archived⟩ := by simp [gg, ft, hx]
 have e2 : e7 w 4 n v = wB ⟨w.Now, w.Posts, w.Shocks ++ [x], w.Next + 1, w.Archived⟩ := by simp [e7, o9, ft, hx]
 have hsn : rows aj.cs w.Shocks ++ [.int .i64 w.Next, .int .i64 0, .int .i64 (upN w w.Posts.length : Int), .int .i64 0, .int .i64 w.Now] = rows aj.cs (w.Shocks ++ [x]) := by
  rw [hx]
  exact di (cs := aj.cs) w.Shocks ⟨w.Next, 0, (upN w w.Posts.length : Int), 0, w.Now⟩
 have hln : w.Shocks.length + 1 = (w.Shocks ++ [x]).length := by simp
 have hgood := ew ⟨w.Now, w.Posts, w.Shocks ++ [x], w.Next + 1, w.Archived⟩ (by simp; omega) (by simp; omega)
 rw [e1, e2]
 refine Ctr.intro Tryz.mixed Tryz.func134 rfl Tryz.wz ?_
 refine ev2 @Tryz.ntmps134 @Tryz.results134 ?_
 refine ev1 @ab.v.eq_1 ?_
 (have ct := jv w (by omega) (by omega); (first | refine al.at ct ⟨bd, trivial⟩ ?_ | refine ai.at ct ⟨bd, trivial⟩ ?_); clear ct)
 refine rn1 @ab.o.eq_1 ?_
 (have ct := aqg w (by omega); (first | refine al.at ct ⟨bd, trivial⟩ ?_ | refine ai.at ct ⟨bd, trivial⟩ ?_); clear ct)
 refine rn3 @hwn @hsn @hln ?_
 (first | refine al.at (hgood) ⟨bd, trivial⟩ ?_ | refine ai.at (hgood) ⟨bd, trivial⟩ ?_)
 refine rn1 @hsn ?_
 refine ak.pick [3, 4] (by decide) (fun j hj => by omega) (.inl ?_) ?_
 · first | rfl | (simp [ren, bc, posOf, ab.o]; done)
 · simp only [az, List.map_cons, List.map_nil, bg, List.getElem?_cons_zero, List.getElem?_cons_succ, ae]
theorem ah4 (w : ab) (n v : Int) (hw : wB w = true) (hs : du w 8 n v = true) : Ctr Tryz.prog 134 [w.v, .agg [.int .i64 8, .int .i64 n, .int .i64 v]] [] (.tup [(gg w 8 n v).o 0 1, .bool (e7 w 8 n v)]) [some (rows bf.cs w.Posts), some (rows aj.cs (gg w 8 n v).Shocks)] := by
 have W := eh hw
 have pl := W.plen
 have sl := W.slen
 obtain ⟨i, hi, hix, hin⟩ : ∃ i, ∃ h : i < w.Shocks.length, jt (dt n) w.Shocks = (i : Int) ∧ dt n w.Shocks[i] = true := by
  have : decide (0 ≤ jt (dt n) w.Shocks) = true := by
   simp [du] at hs
   simp [hs.1]
  exact tl this
 have hp : sAt w n = i := by simp [sAt, hix]
 have e1 : gg w 8 n v = jq w i := by simp [gg, ft, jq, hp]
 have e2 : e7 w 8 n v = (aej w (alh w i) && wB (jq w i)) := by simp [e7, o9, ft, jq, hp]
 have hgood := ew (jq w i) (by simp [jq]; omega) (by simp [jq]; omega)
 have harch := aeu w i hw hi
 have e3 : (jq w i).Shocks = w.Shocks.take i ++ w.Shocks.drop (i + 1) := rfl
 rw [e1, e2, e3]
 refine Ctr.intro Tryz.mixed Tryz.func134 rfl Tryz.wz ?_
 refine ev2 @Tryz.ntmps134 @Tryz.results134 ?_
 refine ev1 @ab.v.eq_1 ?_
 (have ct := jv w (by omega) (by omega); (first | refine al.at ct ⟨bd, trivial⟩ ?_ | refine ai.at ct ⟨bd, trivial⟩ ?_); clear ct)
 refine rn1 @ab.o.eq_1 ?_
 (have ct := j7 w n (by omega); (first | refine al.at ct ⟨bd, bd, trivial⟩ ?_ | refine ai.at ct ⟨bd, bd, trivial⟩ ?_); clear ct)
 rw [hix]
 refine rn0 ?_
 (first | refine al.at (harch) ⟨bd, bd, trivial⟩ ?_ | refine ai.at (harch) ⟨bd, bd, trivial⟩ ?_)
 refine rn1 @ab.o.eq_1 ?_
 refine aw.bu (fun g => ?_) (fun g => ?_) <;> refine rn1 @g ?_
 · skip
   (first | refine al.at (hgood) ⟨bd, trivial⟩ ?_ | refine ai.at (hgood) ⟨bd, trivial⟩ ?_)
   refine rn1 @g ?_
   refine ak.pick [6, 7] (by decide) (fun j hj => by omega) (.inl ?_) ?_
   · first | rfl | (simp [ren, bc, posOf, ab.o, g, jq]; done)
   · simp only [az, List.map_cons, List.map_nil, bg, List.getElem?_cons_zero, List.getElem?_cons_succ, ae]
 · skip
   refine ak.pick [6, 7] (by decide) (fun j hj => by omega) (.inl ?_) ?_
   · first | rfl | (simp [ren, bc, posOf, ab.o, g, jq]; done)
   · simp only [az, List.map_cons, List.map_nil, bg, List.getElem?_cons_zero, List.getElem?_cons_succ, ae]
theorem ajw (w : ab) (k n v : Int) (hk : k = 5 ∨ k = 6 ∨ k = 7) (hw : wB w = true) (hs : du w k n v = true) (hv : -100 ≤ v ∧ v ≤ 100) : Ctr Tryz.prog 134 [w.v, .agg [.int .i64 k, .int .i64 n, .int .i64 v]] [] (.tup [(gg w k n v).o 0 1, .bool (e7 w k n v)]) [some (rows bf.cs w.Posts), some (rows aj.cs (gg w k n v).Shocks)] := by
 have W := eh hw
 have pl := W.plen
 have sl := W.slen
 obtain ⟨i, hi, hix, hin⟩ : ∃ i, ∃ h : i < w.Shocks.length, jt (dt n) w.Shocks = (i : Int) ∧ dt n w.Shocks[i] = true := by
  have : decide (0 ≤ jt (dt n) w.Shocks) = true := by
   rcases hk with rfl | rfl | rfl <;> simp [du] at hs <;> simp [hs]
  exact tl this
 have hp : sAt w n = i := by simp [sAt, hix]
 have hsh := zh hi
 have e1 : gg w k n v = ⟨w.Now, w.Posts, w.Shocks.set i (ve w.Shocks[i] k v), w.Next, w.Archived⟩ := by
  rcases hk with rfl | rfl | rfl <;> simp [gg, ft, hp, hsh]
 have e2 : e7 w k n v = (aa2 w.Shocks[i] k && wB ⟨w.Now, w.Posts, w.Shocks.set i (ve w.Shocks[i] k v), w.Next, w.Archived⟩) := by
  rcases hk with rfl | rfl | rfl <;> simp [e7, o9, ft, hp, hsh]
 have hr := bw aj.csl hi
 have hchg := agh w.Next w.Now w.Shocks[i] k n v (W.shocks _ (List.getElem_mem hi)) hk hv
 have hlen : ∀ p, (w.Shocks.set i p).length = w.Shocks.length := fun p => by simp
 have hgood := ew ⟨w.Now, w.Posts, w.Shocks.set i (ve w.Shocks[i] k v), w.Next, w.Archived⟩ (by simp; omega) (by simp; omega)
 generalize ve w.Shocks[i] k v = y at e1 e2 hchg hgood
 have hsp : dj (rows aj.cs w.Shocks) (i * 5) [.int .i64 y.Number, .int .i64 y.State, .int .i64 y.Seen, .int .i64 y.Size, .int .i64 y.Tick] = rows aj.cs (w.Shocks.set i y) := n5 (cs := aj.cs) aj.csl hi y
 rw [e1, e2]
 clear e1 e2
 simp only [ab.v, hlen] at hgood
 simp only [ab.o, hlen]
 generalize aa2 w.Shocks[i] k = b at *
 rcases hk with rfl | rfl | rfl
 · skip
   refine Ctr.intro Tryz.mixed Tryz.func134 rfl Tryz.wz ?_
   refine ev2 @Tryz.ntmps134 @Tryz.results134 ?_
   refine ev1 @ab.v.eq_1 ?_
   (have ct := jv w (by omega) (by omega); (first | refine al.at ct ⟨bd, trivial⟩ ?_ | refine ai.at ct ⟨bd, trivial⟩ ?_); clear ct)
   refine rn1 @ab.o.eq_1 ?_
   (have ct := j7 w n (by omega); (first | refine al.at ct ⟨bd, bd, trivial⟩ ?_ | refine ai.at ct ⟨bd, bd, trivial⟩ ?_); clear ct)
   rw [hix]
   refine rn2 @hr @aj.cs.eq_1 ?_
   (first | refine al.at (hchg) ⟨bd, bd, trivial⟩ ?_ | refine ai.at (hchg) ⟨bd, bd, trivial⟩ ?_)
   refine rn3 @aj.v.eq_1 @hsp @Int.toNat_natCast ?_
   refine aw.bu (fun g => ?_) (fun g => ?_) <;> refine rn3 @g @hsp @Int.toNat_natCast ?_
   · skip
     (first | refine al.at (hgood) ⟨bd, trivial⟩ ?_ | refine ai.at (hgood) ⟨bd, trivial⟩ ?_)
     refine rn1 @g ?_
     refine ak.pick [3, 4] (by decide) (fun j hj => by omega) (.inl ?_) ?_
     · first | rfl | (simp [ren, bc, posOf, ab.o, g]; done)
     · simp only [az, List.map_cons, List.map_nil, bg, List.getElem?_cons_zero, List.getElem?_cons_succ, ae]
   · skip
     refine ak.pick [3, 4] (by decide) (fun j hj => by omega) (.inl ?_) ?_
     · first | rfl | (simp [ren, bc, posOf, ab.o, g]; done)
     · simp only [az, List.map_cons, List.map_nil, bg, List.getElem?_cons_zero, List.getElem?_cons_succ, ae]
 · skip
   refine Ctr.intro Tryz.mixed Tryz.func134 rfl Tryz.wz ?_
   refine ev2 @Tryz.ntmps134 @Tryz.results134 ?_
   refine ev1 @ab.v.eq_1 ?_
   (have ct := jv w (by omega) (by omega); (first | refine al.at ct ⟨bd, trivial⟩ ?_ | refine ai.at ct ⟨bd, trivial⟩ ?_); clear ct)
   refine rn1 @ab.o.eq_1 ?_
   (have ct := j7 w n (by omega); (first | refine al.at ct ⟨bd, bd, trivial⟩ ?_ | refine ai.at ct ⟨bd, bd, trivial⟩ ?_); clear ct)
   rw [hix]
   refine rn2 @hr @aj.cs.eq_1 ?_
   (first | refine al.at (hchg) ⟨bd, bd, trivial⟩ ?_ | refine ai.at (hchg) ⟨bd, bd, trivial⟩ ?_)
   refine rn3 @aj.v.eq_1 @hsp @Int.toNat_natCast ?_
   refine aw.bu (fun g => ?_) (fun g => ?_) <;> refine rn3 @g @hsp @Int.toNat_natCast ?_
   · skip
     (first | refine al.at (hgood) ⟨bd, trivial⟩ ?_ | refine ai.at (hgood) ⟨bd, trivial⟩ ?_)
     refine rn1 @g ?_
     refine ak.pick [3, 4] (by decide) (fun j hj => by omega) (.inl ?_) ?_
     · first | rfl | (simp [ren, bc, posOf, ab.o, g]; done)
     · simp only [az, List.map_cons, List.map_nil, bg, List.getElem?_cons_zero, List.getElem?_cons_succ, ae]
   · skip
     refine ak.pick [3, 4] (by decide) (fun j hj => by omega) (.inl ?_) ?_
     · first | rfl | (simp [ren, bc, posOf, ab.o, g]; done)
     · simp only [az, List.map_cons, List.map_nil, bg, List.getElem?_cons_zero, List.getElem?_cons_succ, ae]
 · skip
   refine Ctr.intro Tryz.mixed Tryz.func134 rfl Tryz.wz ?_
   refine ev2 @Tryz.ntmps134 @Tryz.results134 ?_
   refine ev1 @ab.v.eq_1 ?_
   (have ct := jv w (by omega) (by omega); (first | refine al.at ct ⟨bd, trivial⟩ ?_ | refine ai.at ct ⟨bd, trivial⟩ ?_); clear ct)
   refine rn1 @ab.o.eq_1 ?_
   (have ct := j7 w n (by omega); (first | refine al.at ct ⟨bd, bd, trivial⟩ ?_ | refine ai.at ct ⟨bd, bd, trivial⟩ ?_); clear ct)
   rw [hix]
   refine rn2 @hr @aj.cs.eq_1 ?_
   (first | refine al.at (hchg) ⟨bd, bd, trivial⟩ ?_ | refine ai.at (hchg) ⟨bd, bd, trivial⟩ ?_)
   refine rn3 @aj.v.eq_1 @hsp @Int.toNat_natCast ?_
   refine aw.bu (fun g => ?_) (fun g => ?_) <;> refine rn3 @g @hsp @Int.toNat_natCast ?_
   · skip
     (first | refine al.at (hgood) ⟨bd, trivial⟩ ?_ | refine ai.at (hgood) ⟨bd, trivial⟩ ?_)
     refine rn1 @g ?_
     refine ak.pick [3, 4] (by decide) (fun j hj => by omega) (.inl ?_) ?_
     · first | rfl | (simp [ren, bc, posOf, ab.o, g]; done)
     · simp only [az, List.map_cons, List.map_nil, bg, List.getElem?_cons_zero, List.getElem?_cons_succ, ae]
   · skip
     refine ak.pick [3, 4] (by decide) (fun j hj => by omega) (.inl ?_) ?_
     · first | rfl | (simp [ren, bc, posOf, ab.o, g]; done)
     · simp only [az, List.map_cons, List.map_nil, bg, List.getElem?_cons_zero, List.getElem?_cons_succ, ae]
theorem pn {w : ab} {k n v : Int} (h : du w k n v = true) : (k = 1 ∧ 1 ≤ v) ∨ (k = 2 ∨ k = 3) ∨ k = 4 ∨ k = 8 ∨ ((k = 5 ∨ k = 6 ∨ k = 7) ∧ -100 ≤ v ∧ v ≤ 100) := by
 unfold du at h
 split at h
 · rename_i hk; simp at h; exact .inl ⟨hk, h.2⟩
 split at h
 · rename_i hk; exact .inr (.inl hk)
 split at h
 · rename_i hk; exact .inr (.inr (.inl hk))
 split at h
 · rename_i hk; simp [fb] at h; exact .inr (.inr (.inr (.inr ⟨.inl hk, by omega, by omega⟩)))
 split at h
 · rename_i hk; simp [fb] at h; exact .inr (.inr (.inr (.inr ⟨.inr (.inl hk), by omega, by omega⟩)))
 · simp at h
   rcases h.1.1 with hk | hk
   · exact .inr (.inr (.inr (.inr ⟨.inr (.inr hk), by omega, by omega⟩)))
   · exact .inr (.inr (.inr (.inl hk)))
theorem ak9 (w : ab) (k n v : Int) (hw : wB w = true) (hs : du w k n v = true) (hv : v ≤ 9223372036854775807) : Ctr Tryz.prog 134 [w.v, .agg [.int .i64 k, .int .i64 n, .int .i64 v]] [] (.tup [(gg w k n v).o 0 1, .bool (e7 w k n v)]) [some (rows bf.cs (gg w k n v).Posts), some (rows aj.cs (gg w k n v).Shocks)] := by
 rcases pn hs with ⟨rfl, h1⟩ | hk | rfl | rfl | ⟨hk, h1⟩
 · have e : (gg w 1 n v).Posts = w.Posts ∧ (gg w 1 n v).Shocks = w.Shocks := by unfold gg ft; split <;> simp
   rw [e.1, e.2]
   exact aij w n v hw h1 hv
 · have e : (gg w k n v).Shocks = w.Shocks := by rcases hk with rfl | rfl <;> simp [gg, ft]
   rw [e]
   exact ail w k n v hk hw hs
 · have e : (gg w 4 n v).Posts = w.Posts := by simp [gg, ft]
   rw [e]
   exact ajz w n v hw
 · have e : (gg w 8 n v).Posts = w.Posts := by simp [gg, ft]
   rw [e]
   exact ah4 w n v hw hs
 · have e : (gg w k n v).Posts = w.Posts := by rcases hk with rfl | rfl | rfl <;> simp [gg, ft]
   rw [e]
   exact ajw w k n v hk hw hs h1
def fi (w : ab) (k n v : Int) : Option ab := if wB w && du w k n v && e7 w k n v then some (ft w k n v) else none
def ai5 : V := .agg [.int .i64 0, .nilsl, .nilsl, .int .i64 0, .int .i64 0]
def ado : Option ab → V
 | none => .tup [ai5, .bool false]
 | some b => .tup [b.o 0 1, .bool true]
def ad6 : Option ab → Hp
 | none => []
 | some b => [some (rows bf.cs b.Posts), some (rows aj.cs b.Shocks)]
theorem x7 {w b : ab} {k n v : Int} (h : fi w k n v = some b) : wB w = true ∧ du w k n v = true ∧ o9 w k n v = true ∧ b = ft w k n v ∧ wB b = true := by
 unfold fi at h
 split at h
 · rename_i h2
   simp only [Bool.and_eq_true, e7] at h2
   simp only [Option.some.injEq] at h
   subst h
   exact ⟨h2.1.1, h2.1.2, h2.2.1, rfl, h2.2.2⟩
 · cases h
theorem ak8 {w : ab} {k n v : Int} (h : e7 w k n v = true) : gg w k n v = ft w k n v := by
 unfold gg
 split
 · rename_i h1
   obtain ⟨rfl, h2⟩ := h1
   simp [e7, o9, h2] at h
 · rfl
theorem sk (w : ab) (k n v : Int) (hp : w.Posts.length ≤ 16777216) (hs : w.Shocks.length ≤ 16777216) (hv : v ≤ 9223372036854775807) : Ctr Tryz.prog 101 [w.v, .agg [.int .i64 k, .int .i64 n, .int .i64 v]] [] (ado (fi w k n v)) (ad6 (fi w k n v)) := by
 refine Ctr.intro Tryz.mixed Tryz.func101 rfl Tryz.ax4 ?_
 refine ev2 @Tryz.ntmps101 @Tryz.results101 ?_
 refine ev1 @ab.v.eq_1 ?_
 (have ct := ew w (by omega) (by omega); (first | refine al.at ct ⟨bd, trivial⟩ ?_ | refine ai.at ct ⟨bd, trivial⟩ ?_); clear ct)
 have no : fi w k n v = none → ∀ h : Hp, ak 0 (.tup [.agg [.int .i64 0, .nilsl, .nilsl, .int .i64 0, .int .i64 0], .bool false]) h (ado (fi w k n v)) (ad6 (fi w k n v)) := by
  intro e h
  rw [e]
  exact ak.au rfl (by rfl)
 cases hw : wB w with
 | false =>
  refine rn0 ?_
  exact no (by simp [fi, hw]) _
 | true =>
  refine rn0 ?_
  (have ct := akw w k n v hp hs; (first | refine al.at ct ⟨bd, bd, trivial⟩ ?_ | refine ai.at ct ⟨bd, bd, trivial⟩ ?_); clear ct)
  cases hst : du w k n v with
  | false =>
   refine rn0 ?_
   exact no (by simp [fi, hst]) _
  | true =>
   refine rn0 ?_
   have hm := ak9 w k n v hw hst hv
   cases hd : e7 w k n v with
   | false =>
    rw [hd] at hm
    (first | refine al.at (hm) ⟨bd, bd, trivial⟩ ?_ | refine ai.at (hm) ⟨bd, bd, trivial⟩ ?_)
    refine rn1 @ab.o.eq_1 ?_
    exact no (by simp [fi, hd]) _
   | true =>
    rw [hd] at hm
    (first | refine al.at (hm) ⟨bd, bd, trivial⟩ ?_ | refine ai.at (hm) ⟨bd, bd, trivial⟩ ?_)
    refine rn1 @ab.o.eq_1 ?_
    have e : fi w k n v = some (ft w k n v) := by simp [fi, hw, hst, hd]
    have e2 := ak8 hd
    rw [e, ← e2, ado, ad6]

    refine ak.pick [3, 4] (by decide) (fun j hj => by omega) (.inl ?_) ?_
    · first | rfl | (simp [ren, bc, posOf, ab.o]; done)
    · simp only [az, List.map_cons, List.map_nil, bg, List.getElem?_cons_zero, List.getElem?_cons_succ, ae]
end Go.Proofs
end
section
set_option maxRecDepth 100000
namespace Go.Proofs
open Go.Lv
structure dw where
 Id : Int
 Tick : Int
 X : Int
 Y : Int
 Deep : Int
 Size : Int
 Grade : Int
def dw.cs (r : dw) : List V := [.int .i64 r.Id, .int .i64 r.Tick, .int .i64 r.X, .int .i64 r.Y, .int .i64 r.Deep, .int .i64 r.Size, .int .i64 r.Grade]
def dw.v (r : dw) : V := .agg [.int .i64 r.Id, .int .i64 r.Tick, .int .i64 r.X, .int .i64 r.Y, .int .i64 r.Deep, .int .i64 r.Size, .int .i64 r.Grade]
theorem dw.csl (a : dw) : a.cs.length = 7 := rfl
instance : ri dw.cs 7 := ⟨fun _ => rfl, fun _ d => by cases d <;> rfl, fun _ => rfl, fun _ => rfl⟩
def dw.ok (r : dw) : Prop := bt r.Id ∧ bt r.Tick ∧ bt r.X ∧ bt r.Y ∧ bt r.Deep ∧ bt r.Size ∧ bt r.Grade
abbrev dw.rows (L : List dw) : List V := Go.Lv.rows dw.cs L
abbrev dw.sl (L : List dw) : V := .sl L.length 7 (Go.Lv.rows dw.cs L)
abbrev dw.zs : List V := [.int .i64 0, .int .i64 0, .int .i64 0, .int .i64 0, .int .i64 0, .int .i64 0, .int .i64 0]
def dw.mk1 (k : Int) : dw := ⟨k, k + 1, k + 1 + 1, k + 1 + 1 + 1, k + 1 + 1 + 1 + 1, k + 1 + 1 + 1 + 1 + 1, k + 1 + 1 + 1 + 1 + 1 + 1⟩
def dw.marks (k : Int) (n : Nat) : List dw := (List.range n).map fun i : Nat => dw.mk1 (k + 7 * (i : Int))
@[simp] theorem dw.tj (k : Int) (n : Nat) : (dw.marks k n).length = n := by simp [dw.marks]
end Go.Proofs
end
section
set_option maxRecDepth 100000
namespace Go.Proofs
open Go.Lv
def bump (C : List Int) (k : Nat) : List Int := C.set k (C.getD k 0 + 1)
theorem ard (C : List Int) (k : Nat) : (bump C k).length = C.length := by simp [bump]
end Go.Proofs
end
section
set_option maxRecDepth 100000
set_option maxHeartbeats 1000000
namespace Go.Proofs
open Go.Lv
def sq (L : List bf) (i : Nat) : List Int := ((L.take i).filter bf.Up).map bf.Station
theorem mf {L : List bf} {i : Nat} (hi : i < L.length) : sq L (i + 1) = sq L i ++ if L[i].Up then [L[i].Station] else [] := by
 rw [sq, List.take_succ_eq_append_getElem hi, List.filter_append, List.map_append]
 congr 1
 cases h : L[i].Up <;> simp [h]
theorem yx (L : List bf) (i : Nat) : (sq L i).length ≤ i := by
 rw [sq, List.length_map]
 exact Nat.le_trans (List.length_filter_le _ _) (by simp; omega)
def upR (w : ab) : Option (List Int) := if wB w = true then some (sq w.Posts w.Posts.length) else none
theorem uk (w : ab) (hp : w.Posts.length ≤ 16777216) : Ctr Tryz.prog 111 [w.v] [] (.osl 0 0 (sq w.Posts w.Posts.length).length 1) [some (rows IntS.cs (sq w.Posts w.Posts.length))] := by
 refine Ctr.intro Tryz.mixed Tryz.func111 rfl Tryz.awm ?_
 refine ev2 @Tryz.ntmps111 @Tryz.results111 ?_
 refine ev1 @ab.v.eq_1 ?_
 refine dh.intro (fun i : Nat => i ≤ w.Posts.length) (fun i => ⟨(un 3 (.osl 1 0 (sq w.Posts i).length 1 :: (un 4 (bf.sl w.Posts :: .int .i64 w.Posts.length :: .int .i64 i :: (un 12 []))))), [some w.cs, some (rows IntS.cs (sq w.Posts i))], 0⟩) (fun i => w.Posts.length - i) 0 (Nat.zero_le _) ?_ (fun i hi => ?_)
 · refine aq.cut (2) (by simp) (by simp) ?_ ?_
   · simp [LeC, LeV, ren, bj, sq]
   · simp [bz, ck, ren, rows, sq, ab.cs]
 refine ev0 ?_
 refine ax.split (fun h1 => ?_) (fun h1 => ?_)
 · refine ev1 @h1 ?_
   have hi' : i < w.Posts.length := by simpa using h1
   have h5 := bf.csl w.Posts[i]
   have hr := bw bf.csl hi'
   have hul := yx w.Posts i
   refine rn2 @hr @bf.cs.eq_1 ?_
   refine ax.split (fun h6 => ?_) (fun h6 => ?_) <;> refine ev1 @h6 ?_
   · refine rn6 @hr @bf.cs.eq_1 @ab.cs.eq_1 @bb @Nat.mul_one @bh ?_
     refine ⟨i + 1, hi', ?_, by omega⟩
     refine aq.cut (2) (by simp) (by simp) ?_ ?_
     · rw [mf hi', h6]
       simp [LeC, LeV, ren, bj]
     · rw [mf hi', h6, if_pos rfl, ← di]
       simp [bz, ck, ae, dd, ren, IntS.cs, ab.cs]
   · try refine ew0 ?_
     refine ⟨i + 1, hi', ?_, by omega⟩
     refine aq.cut (2) (by simp) (by simp) ?_ ?_
     · rw [mf hi', h6]
       simp [LeC, LeV, ren, bj]
     · rw [mf hi', h6]
       simp [bz, ck, ae, ren, ab.cs]
 · refine ev1 @h1 ?_
   have hi' : i = w.Posts.length := by simp at h1; omega
   subst hi'
   refine ak.pick [1] (by decide) (fun j hj => by omega) (.inl ?_) ?_
   · first | rfl | (simp [ren, bc, posOf]; done)
   · simp only [az, List.map_cons, List.map_nil, bg, List.getElem?_cons_zero, List.getElem?_cons_succ, ae]
theorem ai7 (w : ab) (hp : w.Posts.length ≤ 16777216) (hs : w.Shocks.length ≤ 16777216) : Ctr Tryz.prog 114 [w.v] [] (sw 1 (upR w)) (k9 IntS.cs (upR w)) := by
 refine Ctr.intro Tryz.mixed Tryz.func114 rfl Tryz.aw5 ?_
 refine ev2 @Tryz.ntmps114 @Tryz.results114 ?_
 refine ev1 @ab.v.eq_1 ?_
 cases h : wB w with
 | false =>
  have e : upR w = none := if_neg (by simp [h])
  rw [e]
  repeat' (first | exact ak.refl _ _ _ | (refine ak.au ?_ (by rfl); first | rfl | (simp [h, sw, k9, *]; done)) | ((have ct := eg w (by omega) (by omega); (first | refine al.at ct ⟨leA, trivial⟩ ?_ | refine ai.at ct ⟨leA, trivial⟩ ?_); clear ct); simp -implicitDefEqProofs -dsimp only [go_sem, h, sw, k9, *]) | (refine aw.bu (fun _ => ?_) (fun _ => ?_) <;> simp -implicitDefEqProofs -dsimp only [go_sem, h, sw, k9, *]) | (refine aw.cg (fun _ => ?_) (fun _ => ?_) <;> simp -implicitDefEqProofs -dsimp only [go_sem, h, sw, k9, *]) | (refine ax.split (fun _ => ?_) (fun _ => ?_) <;> simp -implicitDefEqProofs -dsimp only [go_sem, h, sw, k9, *]) | (exfalso; simp_all; done))
 | true =>
  have e : upR w = some (sq w.Posts w.Posts.length) := if_pos h
  rw [e]
  repeat (first | ((have ct := eg w (by omega) (by omega); (first | refine al.at ct ⟨leA, trivial⟩ ?_ | refine ai.at ct ⟨leA, trivial⟩ ?_); clear ct); refine ev1 @h ?_) | ((first | refine al.at (uk w hp) ⟨leA, trivial⟩ ?_ | refine ai.at (uk w hp) ⟨leA, trivial⟩ ?_); refine ev1 @h ?_) | (with_reducible refine And.intro (by first | omega | (show cc _ = true; kernel_rfl)) ?_; try refine ew1 @h ?_))
  simp only [sw, k9]
  refine ak.pick [1] (by decide) (fun j hj => by omega) (.inl ?_) ?_
  · first | rfl | (simp [ren, bc, posOf]; done)
  · simp only [az, List.map_cons, List.map_nil, bg, List.getElem?_cons_zero, List.getElem?_cons_succ, ae]
theorem aj4 (w : ab) (hp : w.Posts.length ≤ 16777216) (hs : w.Shocks.length ≤ 16777216) : Ctr Tryz.prog 155 [w.v] [] (xc 1 (upR w)) (pb IntS.cs (upR w)) := by
 refine Ctr.intro Tryz.mixed Tryz.func155 rfl Tryz.axc ?_
 refine ev2 @Tryz.ntmps155 @Tryz.results155 ?_
 refine ev1 @ab.v.eq_1 ?_
 cases h : wB w with
 | false =>
  have e : upR w = none := if_neg (by simp [h])
  rw [e]
  repeat (first | ((have ct := ew w (by omega) (by omega); (first | refine al.at ct ⟨leA, trivial⟩ ?_ | refine ai.at ct ⟨leA, trivial⟩ ?_); clear ct); refine ev1 @h ?_) | (with_reducible refine And.intro (by first | omega | (show cc _ = true; kernel_rfl)) ?_; try refine ew1 @h ?_))
  simp only [xc, pb]
  refine ak.pick [1] (by decide) (fun j hj => by omega) (.inl ?_) ?_
  · first | rfl | (simp [ren, bc, posOf]; done)
  · simp only [az, List.map_cons, List.map_nil, bg, List.getElem?_cons_zero, List.getElem?_cons_succ, ae]
 | true =>
  have e : upR w = some (sq w.Posts w.Posts.length) := if_pos h
  rw [e]
  repeat (first | ((have ct := ew w (by omega) (by omega); (first | refine al.at ct ⟨leA, trivial⟩ ?_ | refine ai.at ct ⟨leA, trivial⟩ ?_); clear ct); refine ev1 @h ?_) | (with_reducible refine And.intro (by first | omega | (show cc _ = true; kernel_rfl)) ?_; try refine ew1 @h ?_))
  refine dh.intro (fun i : Nat => i ≤ w.Posts.length) (fun i => ⟨(.undef :: .ptr 0 0 :: .undef :: .undef :: .osl 1 0 (sq w.Posts i).length 1 :: .int .i64 i :: (un 28 [])), [some w.cs, some (rows IntS.cs (sq w.Posts i))], 0⟩) (fun i => w.Posts.length - i) 0 (Nat.zero_le _) ?_ (fun i hi => ?_)
  · refine aq.cut (2) (by simp) (by simp) ?_ ?_
    · simp [LeC, LeV, ren, bj, sq]
    · simp [bz, ck, ren, rows, sq, ab.cs]
  refine ev1 @ab.cs.eq_1 ?_
  refine ax.split (fun h1 => ?_) (fun h1 => ?_)
  · refine ev1 @h1 ?_
    have hi' : i < w.Posts.length := by simpa using h1
    have h5 := bf.csl w.Posts[i]
    have hr := bw bf.csl hi'
    have hul := yx w.Posts i
    refine rn3 @hr @bf.cs.eq_1 @ab.cs.eq_1 ?_
    refine ax.split (fun h6 => ?_) (fun h6 => ?_) <;> refine ev1 @h6 ?_
    · refine rn6 @hr @bf.cs.eq_1 @ab.cs.eq_1 @bb @Nat.mul_one @bh ?_
      refine ⟨i + 1, hi', ?_, by omega⟩
      refine aq.cut (2) (by simp) (by simp) ?_ ?_
      · rw [mf hi', h6]
        simp [LeC, LeV, ren, bj]
      · rw [mf hi', h6, if_pos rfl, ← di]
        simp [bz, ck, ae, dd, ren, IntS.cs, ab.cs]
    · try refine ew0 ?_
      refine ⟨i + 1, hi', ?_, by omega⟩
      refine aq.cut (2) (by simp) (by simp) ?_ ?_
      · rw [mf hi', h6]
        simp [LeC, LeV, ren, bj]
      · rw [mf hi', h6]
        simp [bz, ck, ae, ren, ab.cs]
  · refine ev1 @h1 ?_
    have hi' : i = w.Posts.length := by simp at h1; omega
    subst hi'
    simp only [xc, pb]
    refine ak.pick [1] (by decide) (fun j hj => by omega) (.inl ?_) ?_
    · first | rfl | (simp [ren, bc, posOf]; done)
    · simp only [az, List.map_cons, List.map_nil, bg, List.getElem?_cons_zero, List.getElem?_cons_succ, ae]
def cw (L : List aj) : List Int := L.foldl (fun C x => bump C x.State.toNat) [0, 0, 0, 0]
theorem oi {L : List aj} {i : Nat} (hi : i < L.length) : cw (L.take (i + 1)) = bump (cw (L.take i)) L[i].State.toNat := by
 rw [List.take_succ_eq_append_getElem hi, cw, List.foldl_append]; rfl
theorem jb {L : List aj} : ∀ i, i ≤ L.length → (cw (L.take i)).length = 4
 | 0, _ => by simp [cw]
 | i + 1, hi => by rw [oi (by omega : i < L.length), ard, jb i (by omega)]
theorem sa {L : List aj} : ∀ i, i ≤ L.length → ∀ x ∈ cw (L.take i), 0 ≤ x ∧ x ≤ i
 | 0, _ => by intro x hx; simp [cw] at hx; omega
 | i + 1, hi => by
  intro x hx
  rw [oi (by omega : i < L.length), bump] at hx
  have ih := sa (L := L) i (by omega)
  rcases List.mem_or_eq_of_mem_set hx with h | h
  · have := ih x h; omega
  · subst h
    rw [List.getD_eq_getElem?_getD]
    cases h : (cw (L.take i))[(L[i]'(by omega)).State.toNat]? with
    | none => simp; omega
    | some y => have := ih y (List.mem_of_getElem? h); simp; omega
def px (w : ab) : Option (List Int) := if wB w = true then some (cw w.Shocks) else none
theorem ab4 (w : ab) (hp : w.Posts.length ≤ 16777216) (hs : w.Shocks.length ≤ 16777216) : Ctr Tryz.prog 116 [w.v] [] (sw 1 (px w)) (k9 IntS.cs (px w)) := by
 refine Ctr.intro Tryz.mixed Tryz.func116 rfl Tryz.axw ?_
 refine ev2 @Tryz.ntmps116 @Tryz.results116 ?_
 refine ev1 @ab.v.eq_1 ?_
 cases h : wB w with
 | false =>
  have e : px w = none := if_neg (by simp [h])
  rw [e]
  repeat' (first | exact ak.refl _ _ _ | (refine ak.au ?_ (by rfl); first | rfl | (simp [h, sw, k9, *]; done)) | ((have ct := eg w (by omega) (by omega); (first | refine al.at ct ⟨leA, trivial⟩ ?_ | refine ai.at ct ⟨leA, trivial⟩ ?_); clear ct); simp -implicitDefEqProofs -dsimp only [go_sem, h, sw, k9, *]) | (refine aw.bu (fun _ => ?_) (fun _ => ?_) <;> simp -implicitDefEqProofs -dsimp only [go_sem, h, sw, k9, *]) | (refine aw.cg (fun _ => ?_) (fun _ => ?_) <;> simp -implicitDefEqProofs -dsimp only [go_sem, h, sw, k9, *]) | (refine ax.split (fun _ => ?_) (fun _ => ?_) <;> simp -implicitDefEqProofs -dsimp only [go_sem, h, sw, k9, *]) | (exfalso; simp_all; done))
 | true =>
  have e : px w = some (cw w.Shocks) := if_pos h
  rw [e]
  repeat (first | ((have ct := eg w (by omega) (by omega); (first | refine al.at ct ⟨leA, trivial⟩ ?_ | refine ai.at ct ⟨leA, trivial⟩ ?_); clear ct); refine ev1 @h ?_) | (with_reducible refine And.intro (by first | omega | (show cc _ = true; kernel_rfl)) ?_; try refine ew1 @h ?_))
  have hz : vx 4 [V.int .i64 0] = rows IntS.cs [0, 0, 0, 0] := rfl
  refine rn1 @hz ?_
  refine dh.intro (fun i : Nat => i ≤ w.Shocks.length) (fun i => ⟨(un 4 (.osl 1 0 4 1 :: (un 7 (aj.sl w.Shocks :: .int .i64 w.Shocks.length :: .int .i64 i :: (un 12 []))))), [some w.cs, some (rows IntS.cs (cw (w.Shocks.take i)))], 0⟩) (fun i => w.Shocks.length - i) 0 (Nat.zero_le _) ?_ (fun i hi => ?_)
  · refine aq.cut (2) (by simp) (by simp) ?_ ?_
    · simp [LeC, LeV, ren, bj]
    · simp [bz, ck, ren, ae, cw, ab.cs]
  refine ev0 ?_
  refine ax.split (fun h1 => ?_) (fun h1 => ?_)
  · refine ev1 @h1 ?_
    have hi' : i < w.Shocks.length := by simpa using h1
    have h5 := aj.csl w.Shocks[i]
    have hr := bw aj.csl hi'
    have hvi := er.1 ((eh h).shocks _ (List.getElem_mem hi'))
    obtain ⟨k, hk⟩ : ∃ k : Nat, w.Shocks[i].State = (k : Int) := ⟨w.Shocks[i].State.toNat, by omega⟩
    have hkc : k < (cw (w.Shocks.take i)).length := by rw [jb i hi]; omega
    have hrc := bw IntS.csl hkc
    have hbd := sa i hi _ (List.getElem_mem hkc)
    have hsp := n5 IntS.csl hkc ((cw (w.Shocks.take i))[k] + 1)
    have hlc : (rows IntS.cs (cw (w.Shocks.take i))).length = 4 := by rw [bb, jb i hi]
    refine rn7 @hr @hk @hrc @IntS.cs.eq_1 @aj.cs.eq_1 @hlc @ab.cs.eq_1 ?_
    have e2 : cw (w.Shocks.take (i + 1)) = (cw (w.Shocks.take i)).set k ((cw (w.Shocks.take i))[k] + 1) := by
     rw [oi hi', hk, Int.toNat_natCast, bump, List.getD_eq_getElem?_getD, List.getElem?_eq_getElem hkc]; rfl
    simp only [IntS.cs] at hsp
    refine ⟨i + 1, hi', ?_, by omega⟩
    refine aq.cut (2) (by simp) (by simp) ?_ ?_
    · simp [LeC, LeV, ren, bj]
    · rw [hsp, e2]
      simp [bz, ck, ae, ren, ab.cs]
  · refine ev1 @h1 ?_
    have hi' : i = w.Shocks.length := by simp at h1; omega
    subst hi'
    rw [List.take_length]
    have hc := jb (L := w.Shocks) w.Shocks.length (Nat.le_refl _)
    rw [List.take_length] at hc
    simp only [sw, k9, hc]
    refine ak.pick [1] (by decide) (fun j hj => by omega) (.inl ?_) ?_
    · first | rfl | (simp [ren, bc, posOf]; done)
    · simp only [az, List.map_cons, List.map_nil, bg, List.getElem?_cons_zero, List.getElem?_cons_succ, ae]
theorem ab5 (w : ab) (hp : w.Posts.length ≤ 16777216) (hs : w.Shocks.length ≤ 16777216) : Ctr Tryz.prog 126 [w.v] [] (xc 1 (px w)) (pb IntS.cs (px w)) := by
 refine Ctr.intro Tryz.mixed Tryz.func126 rfl Tryz.awp ?_
 refine ev2 @Tryz.ntmps126 @Tryz.results126 ?_
 refine ev1 @ab.v.eq_1 ?_
 cases h : wB w with
 | false =>
  have e : px w = none := if_neg (by simp [h])
  rw [e]
  repeat (first | ((have ct := ew w (by omega) (by omega); (first | refine al.at ct ⟨leA, trivial⟩ ?_ | refine ai.at ct ⟨leA, trivial⟩ ?_); clear ct); refine ev1 @h ?_) | (with_reducible refine And.intro (by first | omega | (show cc _ = true; kernel_rfl)) ?_; try refine ew1 @h ?_))
  simp only [xc, pb]
  refine ak.pick [1] (by decide) (fun j hj => by omega) (.inl ?_) ?_
  · first | rfl | (simp [ren, bc, posOf]; done)
  · simp only [az, List.map_cons, List.map_nil, bg, List.getElem?_cons_zero, List.getElem?_cons_succ, ae]
 | true =>
  have e : px w = some (cw w.Shocks) := if_pos h
  rw [e]
  repeat (first | ((have ct := ew w (by omega) (by omega); (first | refine al.at ct ⟨leA, trivial⟩ ?_ | refine ai.at ct ⟨leA, trivial⟩ ?_); clear ct); refine ev1 @h ?_) | (with_reducible refine And.intro (by first | omega | (show cc _ = true; kernel_rfl)) ?_; try refine ew1 @h ?_))
  have hz : vx 4 [V.int .i64 0] = rows IntS.cs [0, 0, 0, 0] := rfl
  refine rn1 @hz ?_
  refine dh.intro (fun i : Nat => i ≤ w.Shocks.length) (fun i => ⟨(.undef :: .ptr 0 0 :: .undef :: .undef :: .osl 1 0 4 1 :: .int .i64 i :: (un 28 [])), [some w.cs, some (rows IntS.cs (cw (w.Shocks.take i)))], 0⟩) (fun i => w.Shocks.length - i) 0 (Nat.zero_le _) ?_ (fun i hi => ?_)
  · refine aq.cut (2) (by simp) (by simp) ?_ ?_
    · simp [LeC, LeV, ren, bj]
    · simp [bz, ck, ren, ae, cw, ab.cs]
  refine ev1 @ab.cs.eq_1 ?_
  refine ax.split (fun h1 => ?_) (fun h1 => ?_)
  · refine ev1 @h1 ?_
    have hi' : i < w.Shocks.length := by simpa using h1
    have h5 := aj.csl w.Shocks[i]
    have hr := bw aj.csl hi'
    have hvi := er.1 ((eh h).shocks _ (List.getElem_mem hi'))
    obtain ⟨k, hk⟩ : ∃ k : Nat, w.Shocks[i].State = (k : Int) := ⟨w.Shocks[i].State.toNat, by omega⟩
    have hkc : k < (cw (w.Shocks.take i)).length := by rw [jb i hi]; omega
    have hrc := bw IntS.csl hkc
    have hbd := sa i hi _ (List.getElem_mem hkc)
    have hsp := n5 IntS.csl hkc ((cw (w.Shocks.take i))[k] + 1)
    have hlc : (rows IntS.cs (cw (w.Shocks.take i))).length = 4 := by rw [bb, jb i hi]
    refine rn7 @hr @hk @hrc @IntS.cs.eq_1 @aj.cs.eq_1 @hlc @ab.cs.eq_1 ?_
    have e2 : cw (w.Shocks.take (i + 1)) = (cw (w.Shocks.take i)).set k ((cw (w.Shocks.take i))[k] + 1) := by
     rw [oi hi', hk, Int.toNat_natCast, bump, List.getD_eq_getElem?_getD, List.getElem?_eq_getElem hkc]; rfl
    simp only [IntS.cs] at hsp
    refine ⟨i + 1, hi', ?_, by omega⟩
    refine aq.cut (2) (by simp) (by simp) ?_ ?_
    · simp [LeC, LeV, ren, bj]
    · rw [hsp, e2]
      simp [bz, ck, ae, ren, ab.cs]
  · refine ev1 @h1 ?_
    have hi' : i = w.Shocks.length := by simp at h1; omega
    subst hi'
    rw [List.take_length]
    have hc := jb (L := w.Shocks) w.Shocks.length (Nat.le_refl _)
    rw [List.take_length] at hc
    simp only [xc, pb, hc]
    refine ak.pick [1] (by decide) (fun j hj => by omega) (.inl ?_) ?_
    · first | rfl | (simp [ren, bc, posOf]; done)
    · simp only [az, List.map_cons, List.map_nil, bg, List.getElem?_cons_zero, List.getElem?_cons_succ, ae]
end Go.Proofs
end
section
set_option maxRecDepth 100000
set_option maxHeartbeats 1000000
namespace Go.Proofs
open Go.Lv
def ab.oc (r : ab) (i0 i1 : Nat) : List V := [.int .i64 r.Now, .osl i0 0 r.Posts.length 3, .osl i1 0 r.Shocks.length 5, .int .i64 r.Next, .int .i64 r.Archived]
theorem aeq (L : List bf) (hl : L.length ≤ 16777216) : Ctr Tryz.prog 65 [bf.sl L] [] (.osl 0 0 L.length 3) [some (rows bf.cs L)] := by
 refine Ctr.intro Tryz.mixed Tryz.func65 rfl Tryz.a5p ?_
 refine ev2 @Tryz.ntmps65 @Tryz.results65 ?_
 repeat (with_reducible refine de ?_)
 exact ak.refl _ _ _
theorem ad9 (L : List aj) (hl : L.length ≤ 16777216) : Ctr Tryz.prog 66 [aj.sl L] [] (.osl 0 0 L.length 5) [some (rows aj.cs L)] := by
 refine Ctr.intro Tryz.mixed Tryz.func66 rfl Tryz.a1i ?_
 refine ev2 @Tryz.ntmps66 @Tryz.results66 ?_
 repeat (with_reducible refine de ?_)
 exact ak.refl _ _ _
theorem dm (w : ab) (hp : w.Posts.length ≤ 16777216) (hs : w.Shocks.length ≤ 16777216) : Ctr Tryz.prog 33 [w.v] [] (w.o 0 1) [some (rows bf.cs w.Posts), some (rows aj.cs w.Shocks)] := by
 refine Ctr.intro Tryz.mixed Tryz.func33 rfl Tryz.a5j ?_
 refine ev2 @Tryz.ntmps33 @Tryz.results33 ?_
 refine ev1 @ab.v.eq_1 ?_
 repeat (with_reducible refine de ?_)
 (have ct := aeq w.Posts hp; (first | refine al.at ct ⟨leA, trivial⟩ ?_ | refine ai.at ct ⟨leA, trivial⟩ ?_); clear ct)
 refine ev0 ?_
 repeat (with_reducible refine de ?_)
 (have ct := ad9 w.Shocks hs; (first | refine al.at ct ⟨leA, trivial⟩ ?_ | refine ai.at ct ⟨leA, trivial⟩ ?_); clear ct)
 refine ev0 ?_
 repeat (with_reducible refine de ?_)
 refine ak.pick [2, 3] (by decide) (fun j hj => by omega) (.inl ?_) ?_
 · first | rfl | (simp [ren, bc, posOf, ab.o]; done)
 · simp only [az, List.map_cons, List.map_nil, bg, List.getElem?_cons_zero, List.getElem?_cons_succ, ae]
theorem apx {L : List aj} {i : Nat} (hi : i < L.length) (s : Int) : dj (rows aj.cs L) (i * 5 + 1) [.int .i64 s] = rows aj.cs (L.set i ⟨L[i].Number, s, L[i].Seen, L[i].Size, L[i].Tick⟩) := r9 aj.csl hi (by omega) rfl
theorem as6 {L : List aj} {i : Nat} (hi : i < L.length) (x : aj) (z : Int) : dj (rows aj.cs (L.set i x)) (i * 5 + 3) [.int .i64 z] = rows aj.cs (L.set i ⟨x.Number, x.State, x.Seen, z, x.Tick⟩) := by
 have h := r9 (cs := aj.cs) aj.csl (L := L.set i x) (j := i) (f := 3) (v := .int .i64 z) (x := ⟨x.Number, x.State, x.Seen, z, x.Tick⟩) (by simpa using hi) (by omega) (by simp; rfl)
 rwa [List.set_set] at h
theorem gz (L : List aj) : (rows aj.cs L).length = L.length * 5 := lk aj.csl L
theorem anf (w : ab) (i : Nat) (k n v : Int) (hk : k = 5 ∨ k = 6 ∨ k = 7) (hw : wB w = true) (hi : i < w.Shocks.length) (hv : -100 ≤ v ∧ v ≤ 100) : Ctr Tryz.prog 179 [.ptr 0 0, .int .i64 i, .agg [.int .i64 k, .int .i64 n, .int .i64 v]] [some (w.oc 1 2), some (rows bf.cs w.Posts), some (rows aj.cs w.Shocks)] (.bool (aa2 w.Shocks[i] k)) [some (w.oc 1 2), some (rows bf.cs w.Posts), some (rows aj.cs (w.Shocks.set i (ve w.Shocks[i] k v)))] := by
 have W := eh hw
 have hx := W.shocks _ (List.getElem_mem hi)
 have hb := er.1 hx
 have hr := bw aj.csl hi
 have hwv : IntKind.i64.wrap (w.Shocks[i].Size + v) = w.Shocks[i].Size + v := wrap_i64 (by omega) (by omega)
 have s1 := apx hi
 have s2 := as6 hi
 have hl : ∀ x, (w.Shocks.set i x).length = w.Shocks.length := fun x => by simp
 have hroom : i * 5 + 5 ≤ w.Shocks.length * 5 := by omega
 rcases hk with rfl | rfl | rfl
 · skip
   refine Ctr.intro Tryz.mixed Tryz.func179 rfl Tryz.ag2 ?_
   refine ev2 @Tryz.ntmps179 @Tryz.results179 ?_
   refine rn4 @ab.oc.eq_1 @hr @aj.cs.eq_1 @hwv ?_
   refine pa.path [true, true, true, true, true, true, false, false, false, false] [false, true, true, true, false, false, false, false, false, false] 1 [2] (by kernel_rfl) ?_
   refine rn7 @hr @aj.cs.eq_1 @hwv @s1 @s2 @gz @hl ?_
   repeat' (first | (refine aw.bu (fun _ => ?_) (fun _ => ?_) <;> (repeat ((repeat1' (first | simp -implicitDefEqProofs -dsimp only [go_sem, *] | simp -dsimp (disch := omega) only [wrap_i64])); repeat (with_reducible refine de ?_)))) | (refine aw.cg (fun _ => ?_) (fun _ => ?_) <;> (repeat ((repeat1' (first | simp -implicitDefEqProofs -dsimp only [go_sem, *] | simp -dsimp (disch := omega) only [wrap_i64])); repeat (with_reducible refine de ?_)))))
   all_goals
    refine ak.pick [0, 1, 2] (by decide) (fun j hj => by have hj' : j = 0 ∨ j = 1 ∨ j = 2 := (by omega); rcases hj' with rfl | rfl | rfl <;> rfl) (.inl (by first | rfl | (simp [ren, aa2, *]; done))) ?_
    simp [az, bg, ren, bc, posOf, ae, ab.oc, ve, *]
 · skip
   refine Ctr.intro Tryz.mixed Tryz.func179 rfl Tryz.ag2 ?_
   refine ev2 @Tryz.ntmps179 @Tryz.results179 ?_
   refine rn4 @ab.oc.eq_1 @hr @aj.cs.eq_1 @hwv ?_
   refine pa.path [true, true, true, true, true, true, true, true, true, false, false, false, false] [false, true, true, true, true, true, true, false, false, false, false, false, false] 1 [2] (by kernel_rfl) ?_
   refine rn7 @hr @aj.cs.eq_1 @hwv @s1 @s2 @gz @hl ?_
   repeat' (first | (refine aw.bu (fun _ => ?_) (fun _ => ?_) <;> (repeat ((repeat1' (first | simp -implicitDefEqProofs -dsimp only [go_sem, *] | simp -dsimp (disch := omega) only [wrap_i64])); repeat (with_reducible refine de ?_)))) | (refine aw.cg (fun _ => ?_) (fun _ => ?_) <;> (repeat ((repeat1' (first | simp -implicitDefEqProofs -dsimp only [go_sem, *] | simp -dsimp (disch := omega) only [wrap_i64])); repeat (with_reducible refine de ?_)))))
   all_goals
    refine ak.pick [0, 1, 2] (by decide) (fun j hj => by have hj' : j = 0 ∨ j = 1 ∨ j = 2 := (by omega); rcases hj' with rfl | rfl | rfl <;> rfl) (.inl (by first | rfl | (simp [ren, aa2, *]; done))) ?_
    simp [az, bg, ren, bc, posOf, ae, ab.oc, ve, *]
 · skip
   refine Ctr.intro Tryz.mixed Tryz.func179 rfl Tryz.ag2 ?_
   refine ev2 @Tryz.ntmps179 @Tryz.results179 ?_
   refine rn7 @ab.oc.eq_1 @hr @aj.cs.eq_1 @hwv @s1 @gz @hl ?_
   repeat' (first | (refine aw.bu (fun _ => ?_) (fun _ => ?_) <;> (repeat ((repeat1' (first | simp -implicitDefEqProofs -dsimp only [go_sem, *] | simp -dsimp (disch := omega) only [wrap_i64])); repeat (with_reducible refine de ?_)))) | (refine aw.cg (fun _ => ?_) (fun _ => ?_) <;> (repeat ((repeat1' (first | simp -implicitDefEqProofs -dsimp only [go_sem, *] | simp -dsimp (disch := omega) only [wrap_i64])); repeat (with_reducible refine de ?_)))))
   all_goals
    refine ak.pick [0, 1, 2] (by decide) (fun j hj => by have hj' : j = 0 ∨ j = 1 ∨ j = 2 := (by omega); rcases hj' with rfl | rfl | rfl <;> rfl) (.inl (by first | rfl | (simp [ren, aa2, *]; done))) ?_
    simp [az, bg, ren, bc, posOf, ae, ab.oc, ve, *]
end Go.Proofs
end
section
set_option maxRecDepth 100000
namespace Go.Proofs
open Go.Lv
theorem Ctr.raw {P : Program} {f : FuncId} {args : List V} {hin : Hp} {r : V} {hout : Hp} (hok : okF P f = true)
 (h : ∀ (w : World) (vs : Array Value) (m : Nat → Nat) (av : Nat → Prop), Inv w m hin av ⟨args, hin, hin.length⟩ { tmps := vs, defers := [] } w m → vs.size = args.length →
  Calls P f vs w fun e w' => ∃ v m' s a, e = .returned v ∧ s.h = hout ∧ Inv w m hin av s a w' m' ∧ RV w' m' hout (avm av m' hout) true v r) : Ctr P f args hin r hout := by
 refine ⟨hok, fun w vs m av hH hav hgl hs ha => ?_⟩
 have hav' : ∀ b, avm av m hin b → av b := fun b hb => by
  rcases hb with hb | ⟨id, cs, h1, rfl⟩
  · exact hb
  · exact hH.avd id cs h1
 have hstep : ∀ {o : Bool} {v : Value} {x : V}, RV w m hin av o v x → RV w m hin (avm av m hin) o v x :=
  fun {o v x} hx => RV.step (w := w) (w' := w) (m := m) (m' := m) (h := hin) (h' := hin) (av := av) (av' := avm av m hin) (fun b off v hb hc => ⟨fun h => hb (hav' b h), hc⟩) (fun id c hid => ⟨c, hid, Nat.le_refl _, rfl, Nat.le_refl _, rfl⟩) hx
 have I : Inv w m hin av ⟨args, hin, hin.length⟩ { tmps := vs, defers := [] } w m := by
  refine ⟨⟨hH.inj, fun id cs h => .inr ⟨id, cs, h, rfl⟩, fun id cs h => ?_⟩, hs, fun i hi => hstep (ha i hi), rfl, Ext.refl _ _, fun id cs h => .inl ⟨ey h, cs, h, Nat.le_refl _, .inl rfl⟩, hav, fun b ⟨id, cs, h1, h2⟩ => h2 ▸ hH.avd id cs h1, hgl, rfl, Nat.le_refl _⟩
  exact (hH.blk id cs h).step rfl (fun v x => hstep)
 refine (h w vs m av I hs).mono ?_
 rintro e w' ⟨v, m', s, a, rfl, rfl, I', hv⟩
 exact ⟨v, m', rfl, I'.ext, I'.rh, hv, I'.ids⟩
end Go.Proofs
end
