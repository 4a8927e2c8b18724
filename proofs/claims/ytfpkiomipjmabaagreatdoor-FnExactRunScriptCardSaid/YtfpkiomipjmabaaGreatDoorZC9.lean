/-
  A part of the proof: texts put together by a program of the prover. Conditions: none.
-/
import Derived.Test.YtfpkiomipjmabaaGreatDoorZC4
import Derived.Test.YtfpkiomipjmabaaGreatDoorZC8
import Derived.KernelRfl
import Derived.Lib.ItoaNum
import Derived.Lib.ItoaLen
import Derived.Test.YtfpkiomipjmabaaGreatDoorProg
set_option linter.unusedSimpArgs false
set_option linter.unusedVariables false
section
namespace Go.Lv

def rows {α : Type} (cs : α → List V) (L : List α) : List V := L.flatMap cs

section
variable {α : Type} {cs : α → List V} {w : Nat}

theorem je (h : ∀ a, (cs a).length = w) (L : List α) : (rows cs L).length = L.length * w := by
 induction L with
 | nil => simp [rows]
 | cons a L ih => simp [rows, h] at ih ⊢; rw [ih, Nat.succ_mul, Nat.add_comm]

theorem cu (L K : List α) : rows cs (L ++ K) = rows cs L ++ rows cs K := by simp [rows]
theorem adx : rows cs ([] : List α) = [] := rfl
theorem dq (a : α) (L : List α) : rows cs (a :: L) = cs a ++ rows cs L := by simp [rows]
theorem vi (a : α) : rows cs [a] = cs a := by simp [rows]

theorem wa (h : ∀ a, (cs a).length = w) (L : List α) (i : Nat) : (rows cs L).drop (i * w) = rows cs (L.drop i) := by
 induction i generalizing L with
 | zero => simp
 | succ i ih =>
   cases L with
   | nil => simp [rows]
   | cons a L =>
     rw [dq, Nat.succ_mul, Nat.add_comm, ← List.drop_drop, List.drop_append, h a, Nat.sub_self, List.drop_zero]
     rw [show (cs a).drop w = [] by simp [h]]
     simpa using ih L

theorem af9 (h : ∀ a, (cs a).length = w) (L : List α) (i : Nat) : (rows cs L).take (i * w) = rows cs (L.take i) := by
 induction i generalizing L with
 | zero => simp [rows]
 | succ i ih =>
   cases L with
   | nil => simp [rows]
   | cons a L =>
     rw [dq, List.take_succ_cons, dq, Nat.succ_mul, Nat.add_comm, List.take_append, h a, Nat.add_sub_cancel_left, ih]
     rw [List.take_of_length_le (by simp [h])]

theorem bt (h : ∀ a, (cs a).length = w) {L : List α} {i : Nat} (hi : i < L.length) : ((rows cs L).drop (i * w)).take w = cs L[i] := by
 rw [wa h, List.drop_eq_getElem_cons hi, dq, List.take_append, h, Nat.sub_self, List.take_zero, List.append_nil, List.take_of_length_le (by simp [h])]

theorem ia {p : V → Bool} (h : ∀ a, (cs a).all p = true) (L : List α) : (rows cs L).all p = true := by
 induction L with
 | nil => rfl
 | cons a L ih => rw [dq, List.all_append, h a, ih]; rfl

theorem oo (f : Nat → R) {d : Nat} {l : List V} (h : l.all (cc d) = true) : l.map (ren f d) = l := by
 rw [List.map_congr_left (g := id) (fun x hx => afe f d x (List.all_eq_true.1 h x hx)), List.map_id]

theorem y6 {p : V → Bool} {zs : List V} (hz : zs.all p = true) (hn : 0 < zs.length) (n : Nat) : (mo n zs).all p = true := by
 rw [List.all_eq_true]
 intro x hx
 simp only [mo, List.mem_map, List.mem_range] at hx
 obtain ⟨i, _, rfl⟩ := hx
 have hlt := Nat.mod_lt i hn
 rw [List.getD_eq_getElem?_getD, List.getElem?_eq_getElem hlt]
 exact List.all_eq_true.1 hz _ (List.getElem_mem hlt)

theorem aoq (n : Nat) (zs : List V) : (mo n zs).length = n := by simp [mo]

theorem am3 {zs : List V} (hz : zs.length = w) (n : Nat) : (mo n zs).drop w = mo (n - w) zs := by
 apply List.ext_getElem
 · simp [mo]
 · intro i h1 h2
   simp [mo] at h1 h2 ⊢
   rw [hz, Nat.add_mod_left]

def filled (cs : α → List V) (w : Nat) (zs : List V) (L : List α) (i : Nat) : List V := rows cs (L.take i) ++ mo ((L.length - i) * w) zs

theorem xc (h : ∀ a, (cs a).length = w) {zs : List V} {L : List α} {i : Nat} (hi : i ≤ L.length) : (filled cs w zs L i).length = L.length * w := by
 simp only [filled, List.length_append, je h, aoq, List.length_take, Nat.min_eq_left hi]
 rw [← Nat.add_mul, Nat.add_sub_cancel' hi]

theorem ur {zs : List V} {L : List α} : filled cs w zs L 0 = mo (L.length * w) zs := by simp [filled, rows]

theorem xt (h : ∀ a, (cs a).length = w) {zs : List V} {L : List α} {i : Nat} (hi : L.length ≤ i) : filled cs w zs L i = rows cs L := by
 simp [filled, List.take_of_length_le hi, Nat.sub_eq_zero_of_le hi, mo]

theorem ve (h : ∀ a, (cs a).length = w) {zs : List V} (hz : zs.length = w) {L : List α} {i : Nat} (hi : i < L.length) :
   ck (filled cs w zs L i) (i * w) (cs L[i]) = filled cs w zs L (i + 1) := by
 have hl : (rows cs (L.take i)).length = i * w := by rw [je h, List.length_take, Nat.min_eq_left (by omega)]
 unfold filled ck
 rw [List.take_append, hl, Nat.sub_self, List.take_zero, List.append_nil, List.take_of_length_le (by omega), h, ← List.drop_drop, List.drop_append, hl, Nat.sub_self, List.drop_zero,
   show (rows cs (L.take i)).drop (i * w) = [] by simp [hl], List.nil_append, am3 hz, List.take_succ_eq_append_getElem hi, cu, vi]
 rw [show (L.length - i) * w - w = (L.length - (i + 1)) * w by rw [← Nat.sub_one_mul]; congr 1]

theorem gz {n : Nat} {l : List V} (h : l.all (cc 2) = true) : db n (some l) = some l := by
 simp only [db, Option.map_some]
 rw [oo _ h]
theorem ss {zs : List V} {L : List α} {i : Nat} (hz : 0 < zs.length) (hz2 : zs.all (cc 2) = true) (hp : ∀ a, (cs a).all (cc 2) = true) : (filled cs w zs L i).all (cc 2) = true := by
 rw [filled, List.all_append, y6 hz2 hz, Bool.and_true]
 exact ia hp _

theorem wrap_i64 {n : Int} (h0 : -9223372036854775808 ≤ n) (h1 : n ≤ 9223372036854775807) : IntKind.i64.wrap n = n := by
 rw [IntKind.wrap_i64]; omega

def iq (z : Int) : Prop := -9223372036854775808 ≤ z ∧ z ≤ 9223372036854775807
def agl (s : ByteArray) : Prop := s.size ≤ 9223372036854775807
def agn (ok : α → Prop) (L : List α) : Prop := L.length ≤ 9223372036854775807 ∧ ∀ x ∈ L, ok x

class nf (cs : α → List V) (w : outParam Nat) : Prop where
 len : ∀ a, (cs a).length = w
 plain : ∀ a d, (cs a).all (cc d) = true
 cell : ∀ a, (cs a).all bq = true
 noro : ∀ a, (cs a).all (uc 0) = true
class lp (cs : α → List V) (w : outParam Nat) : Prop where
 len : ∀ a, (cs a).length = w
 plain : ∀ a d, (cs a).all (cc d) = true
 cell : ∀ a, (cs a).all bq = true
instance {cs : α → List V} {w : Nat} [h : nf cs w] : lp cs w := ⟨h.len, h.plain, h.cell⟩

theorem ay [lp cs w] (L : List α) : (rows cs L).length = L.length * w := je lp.len L
theorem ae [lp cs w] (f : Nat → R) (d : Nat) (L : List α) : (rows cs L).map (ren f d) = rows cs L := oo f (ia (fun a => lp.plain a d) L)
theorem bb [lp cs w] (L : List α) : (rows cs L).all bq = true := ia lp.cell L
theorem zy [nf cs w] (L : List α) : (rows cs L).all (uc 0) = true := ia nf.noro L
theorem kr [lp cs w] (L : List α) (d : Nat) : (rows cs L).all (cc d) = true := ia (fun a => lp.plain a d) L
theorem af6 [lp cs w] (p : Nat → Bool) (L : List α) (d : Nat) : (rows cs L).all (rl p d) = true := List.all_eq_true.2 fun x hx => w9 p d x (List.all_eq_true.1 (kr (cs := cs) L d) x hx)
theorem acv [nf cs w] (L : List α) : lg [some (rows cs L)] := lg.of (by simp only [ags, List.all_cons, List.all_nil, zy, Bool.and_self])
theorem e9 [lp cs w] (L : List α) : (rows cs L).take (L.length * w) = rows cs L := List.take_of_length_le (by rw [ay]; exact Nat.le_refl _)

theorem amm [lp cs w] {h : Hp} {id : Nat} {L : List α} (hid : h[id]? = some (some (rows cs L))) : LeV (ren (eh h 3) 3 (.osl id 0 L.length w)) (.sl L.length w (rows cs L)) := by
 refine .inl ?_
 simp only [ren, eh, hid, ae, List.drop_zero, e9]
theorem apa [lp cs w] {h : Hp} {id n : Nat} {L : List α} (hid : h[id]? = some (some (rows cs L))) (hn : n = L.length) : LeV (ren (eh h 3) 3 (.osl id 0 n w)) (.sl L.length w (rows cs L)) := by
 subst hn; exact amm hid
theorem le_nil {h : Hp} {w : Nat} : LeV (ren (eh h 3) 3 .nilsl) (.sl 0 w []) := .inr (.inr (.inl ⟨rfl, w, rfl⟩))
theorem LeV.atc {f : Nat → R} {d : Nat} {cs cs' : List V} (h : LeA (cs.map (ren f d)) cs') : LeV (ren f (d + 1) (.agg cs)) (.agg cs') := LeV.agg h
theorem y1 [lp cs w] {h : Hp} {id n n' : Nat} {L : List α} (hid : h[id]? = some (some (rows cs L))) (hn : n = L.length) (hn' : n' = L.length) : LeE (ren (eh h 3) 2 (.osl id 0 n w)) (.sl n' w (rows cs L)) := by
 subst hn hn'
 refine .inl ?_
 simp only [ren, eh, hid, ae, List.drop_zero, e9]
theorem aos [lp cs w] {h : Hp} {id : Nat} {fz : Bool} {L : List α} (hid : h[id]? = some (some (rows cs L))) : bc [id] h fz = [some (rows cs L)] := by
 simp only [bc, List.map_cons, List.map_nil, bh, hid, ae]
theorem pa {l : List V} (h : l.all bq = true) : gr l = false := by
 match l, h with
 | [], _ => rfl
 | _ :: _ :: _, _ => rfl
 | [x], h => cases x <;> first | rfl | (simp [bq] at h)
theorem k9 [lp cs w] (L : List α) : gr (rows cs L) = false := pa (bb L)
theorem jh [lp cs w] {L L' : List α} (h : L.length = L'.length) : grown [some (rows cs L)] [some (rows cs L')] := by
 simp [grown, ay, h, k9]

def tn (w : Nat) (R : Option (List α)) : V := match R with
 | some M => .tup [.osl 0 0 M.length w, .bool true]
 | none => .tup [.osl 0 0 0 w, .bool false]
def lz (cs : α → List V) (R : Option (List α)) : Hp := match R with
 | some M => [some (rows cs M)]
 | none => [some []]
def ri (w : Nat) (R : Option (List α)) : V := match R with
 | some M => .tup [.osl 0 0 M.length w, .bool true]
 | none => .tup [.nilsl, .bool false]
def ki (cs : α → List V) (R : Option (List α)) : Hp := match R with
 | some M => [some (rows cs M)]
 | none => []
theorem dk (L : List α) (a : α) : rows cs L ++ cs a = rows cs (L ++ [a]) := by rw [cu, vi]

theorem kj {f : V → V} : ∀ {l : List V}, l.map f = l → LeL (l.map f) l
 | [], _ => trivial
 | a :: l, h => by
   simp only [List.map_cons, List.cons.injEq] at h
   exact ⟨.inl h.1.symm, kj h.2⟩

theorem tc {A M ns : List V} {n j : Nat} (h : A.length = n) : ck (A ++ M) (n + j) ns = A ++ ck M j ns := by
 subst h
 unfold ck
 rw [List.take_append, List.drop_append, List.take_of_length_le (by omega), List.drop_of_length_le (by omega)]
 simp only [Nat.add_sub_cancel_left, List.nil_append, List.append_assoc]
 congr 3
 congr 1
 omega
theorem qc {A M ns : List V} {n : Nat} (h : A.length = n) : ck (A ++ M) n ns = A ++ ck M 0 ns := by
 have := tc (M := M) (ns := ns) (j := 0) h
 rwa [Nat.add_zero] at this

theorem zd (h : ∀ a, (cs a).length = w) {L : List α} {i : Nat} (hi : i < L.length) (j : Nat) : (rows cs L).drop (i * w + j) = (cs L[i] ++ rows cs (L.drop (i + 1))).drop j := by
 rw [← List.drop_drop, wa h, List.drop_eq_getElem_cons hi, dq]
theorem apart {L : List α} {i : Nat} (hi : i < L.length) : ∃ A B, L = A ++ L[i] :: B ∧ A.length = i ∧ A = L.take i ∧ B = L.drop (i + 1) := by
 refine ⟨L.take i, L.drop (i + 1), ?_, by simp; omega, rfl, rfl⟩
 rw [← List.drop_eq_getElem_cons hi, List.take_append_drop]

def fw (p : α → Bool) (k : α → Int) (L : List α) (i : Nat) : Bool :=
 match L[i]? with
 | none => true
 | some x => p x && match i with
   | 0 => true
   | j + 1 => match L[j]? with
     | none => true
     | some y => decide (k y < k x)

def gh (p : α → Bool) (k : α → Int) (m : Nat) (L : List α) : Bool := (List.range L.length).all (fw p k L) && decide (L.length ≤ m)

theorem abl {q : Nat → Bool} {n i : Nat} (hi : i < n) (h : q i = false) : (List.range n).all q = false := by
 rw [List.all_eq_false]
 exact ⟨i, by simpa using hi, by simp [h]⟩
theorem fo {q : Nat → Bool} {i : Nat} (h : (List.range i).all q = true) (h1 : q i = true) : (List.range (i + 1)).all q = true := by
 rw [List.range_succ, List.all_append, h]
 simp [h1]
theorem jg {p : α → Bool} {k : α → Int} {m : Nat} {L : List α} {i : Nat} (hi : i < L.length) (h : fw p k L i = false) : gh p k m L = false := by
 rw [gh, abl hi h]
 rfl
theorem j3 {p : α → Bool} {k : α → Int} {L : List α} (h0 : 0 < L.length) : fw p k L 0 = p L[0] := by simp [fw, h0]
theorem ga {p : α → Bool} {k : α → Int} {L : List α} {j : Nat} (h : j + 1 < L.length) : fw p k L (j + 1) = (p L[j + 1] && decide (k (L[j]'(by omega)) < k L[j + 1])) := by
 have : j < L.length := by omega
 simp [fw, h, this]
end

theorem leA {x y : V} (h : LeV x y := by first | exact amm rfl | exact .inl rfl | exact le_nil | exact apa rfl (by simp) | exact LeV.atc (by first | ((repeat' (first | exact True.intro | exact y1 rfl (by simp) (by simp) | exact LeE.nil | exact LeE.refl _ | refine And.intro ?_ ?_)); done) | fail)) : LeV x y := h
theorem ak.at {P : Program} {h : Hp} {g : FuncId} {a c args : List V} {K : V → Hp → Prop} {x : Tag K} {as' : List V} {r : V} {hout : Hp} (hs : Ctr P g as' [] r hout) (hle : LeL ((a ++ args ++ c).map (ren (eh h 3) 3)) as') (hk : K r hout)
   (hro : (a ++ args ++ c).all (cc 3) = true ∨ uh r ∧ lg hout := by first | exact .inl rfl | exact .inr ⟨aht 3 rfl, by first | exact lg.nil | exact acv _ | exact lg.of (by simp only [ags, List.all_cons, List.all_nil, zy, Bool.and_self])⟩)
   (hrf : n6 h 4 (.fn (.func g) a c) = true ∧ args.all (n6 h 3) = true := by first | exact ⟨rfl, rfl⟩ | exact ⟨rfl, by simp [n6, rl, alf, cc, kr, af6]⟩ | simp [n6, rl, alf, cc, kr, af6]) : ak P h (.fn (.func g) a c) args K x :=
 ak.intro hs hle hro hrf hk
theorem aj.at {P : Program} {t : List V} {h : Hp} {k : Nat} {dst : Option Tmp} {g : FuncId} {a c args : List V} {K : St → Prop} {x : Tag K} {as' : List V} {r : V} {hout : Hp} (hs : Ctr P g as' [] r hout)
   (hle : LeL ((a ++ args ++ c).map (ren (eh h 3) 3)) as') (hk : K (oz ⟨t, h, k⟩ dst r hout))
   (hro : (a ++ args ++ c).all (cc 3) = true ∨ uh r ∧ lg hout := by first | exact .inl rfl | exact .inr ⟨aht 3 rfl, by first | exact lg.nil | exact acv _ | exact lg.of (by simp only [ags, List.all_cons, List.all_nil, zy, Bool.and_self])⟩) : aj P ⟨t, h, k⟩ dst (.fn (.func g) a c) args K x :=
 aj.intro hs hle hro hk
theorem rr {sel : List Nat} {h hin : Hp} {fz : Bool} (hh : bc sel h fz = hin := by first | exact aos rfl | rfl | (simp only [bc, List.map_cons, List.map_nil, bh, List.getElem?_cons_zero, List.getElem?_cons_succ, ae]; done)) : bc sel h fz = hin := hh
theorem leO {x y : V} (h : LeV x y := by first | exact .inl rfl | exact LeV.atc (by first | ((repeat' (first | exact True.intro | exact LeE.nil | exact LeE.refl _ | refine And.intro ?_ ?_)); done) | fail)) : LeV x y := h
theorem ah {a b : Prop} (hb : b) (ha : a := by first | omega | with_reducible rfl | (show bp _ = true; kernel_rfl) | (simp only [ay, bb, List.length_append, List.length_cons, List.length_nil, List.all_append, List.all_cons, List.all_nil, bq, Nat.mul_one, Nat.one_mul, Bool.and_self]; first | done | omega)) : a ∧ b := ⟨ha, hb⟩
attribute [go_sem] Nat.le_refl Int.toNat_natCast beq_self_eq_true bne_self_eq_false decide_true decide_false eq_self ne_eq Option.some.injEq not_false_eq_true Option.map_some ae
attribute [go_sem] Nat.reduceSub Nat.reduceAdd Nat.reduceMul Nat.reduceLT Nat.reduceLeDiff Nat.reduceEqDiff Nat.reduceDiv Nat.reduceMod Int.reduceToNat Int.reduceLE Int.reduceLT Int.reduceBEq Int.reduceBNe Int.reduceNeg Int.reduceAdd Int.reduceSub Int.reduceMul reduceCtorEq
end Go.Lv
end
section
namespace Go.Lv

def num (n : Int) : ByteArray := ⟨(Lib.itoa n).toArray⟩
theorem yl {n : Int} (h : iq n) : (num n).size ≤ 21 := by
 have := Lib.itoa_length_le n h.1 h.2
 simpa [num, ByteArray.size] using this
theorem j6 {n : Int} (h0 : -9223372036854775808 ≤ n) (h1 : n ≤ 9223372036854775807) : (num n).size ≤ 21 := yl ⟨h0, h1⟩
theorem bo (l : Array UInt8) : (ByteArray.mk l).size = l.size := rfl
theorem aqd (x y : Array UInt8) : (ByteArray.mk x ++ ByteArray.mk y) = ByteArray.mk (x ++ y) := by
 apply ByteArray.ext
 simp
def digits : ByteArray := ⟨#[48, 49, 50, 51, 52, 53, 54, 55, 56, 57]⟩
theorem r4 (d : Nat) (h : d < 10) : digits.extract d (d + 1) = ⟨#[UInt8.ofNat (48 + d)]⟩ := by
 apply ByteArray.ext
 rw [ByteArray.data_extract]
 match d, h with
 | 0, _ => decide
 | 1, _ => decide
 | 2, _ => decide
 | 3, _ => decide
 | 4, _ => decide
 | 5, _ => decide
 | 6, _ => decide
 | 7, _ => decide
 | 8, _ => decide
 | 9, _ => decide
theorem sd (u : Nat) : Lib.itoa (u : Int) = Lib.decDigits u := by unfold Lib.itoa; rw [if_neg (by omega)]; simp
theorem atb {u : Nat} (h : 1 ≤ u) : num (-(u : Int)) = ⟨#[45]⟩ ++ num u := by
 have e : Lib.itoa (-(u : Int)) = 45 :: Lib.decDigits u := by unfold Lib.itoa; rw [if_pos (by omega)]; simp
 unfold num
 rw [e, sd, aqd]
 simp
theorem ah1 {u : Nat} (h : u < 10) : num u = digits.extract u (u + 1) := by
 rw [r4 u h]
 unfold num
 rw [sd, Lib.decDigits, dif_pos h]
theorem aco {u : Nat} (h : ¬ u < 10) : num u = num ((u / 10 : Nat) : Int) ++ digits.extract (u % 10) (u % 10 + 1) := by
 rw [r4 (u % 10) (by omega)]
 unfold num
 rw [sd, sd, Lib.decDigits, dif_neg h, aqd]
 simp

end Go.Lv
end
section
namespace Go.Proofs
open Go.Lv

theorem Tryz.mixed : Tryz.prog.follows .mixedOrders = true := by kernel_rfl
@[go_sem] theorem Tryz.tsz3 : gi Tryz.prog 3 = some (1, false) := by kernel_rfl
theorem Tryz.cz3 : Tryz.prog.cellsOf 3 = 1 := by kernel_rfl
@[go_sem] theorem Tryz.udef3 : (Tryz.prog.underlying 3).isSome = true := by kernel_rfl
@[go_sem] theorem Tryz.zero3 : zeroOf Tryz.prog 3 = some [.int .i64 0] := by kernel_rfl
@[go_sem] theorem Tryz.isInt3 : uo Tryz.prog 3 = some .i64 := by kernel_rfl
@[go_sem] theorem Tryz.tsz4 : gi Tryz.prog 4 = some (1, false) := by kernel_rfl
theorem Tryz.cz4 : Tryz.prog.cellsOf 4 = 1 := by kernel_rfl
@[go_sem] theorem Tryz.a57 : ye Tryz.prog 4 = true := by kernel_rfl
@[go_sem] theorem Tryz.udef5 : (Tryz.prog.underlying 5).isSome = true := by kernel_rfl
@[go_sem] theorem Tryz.zero5 : zeroOf Tryz.prog 5 = some [.int .u8 0] := by kernel_rfl
@[go_sem] theorem Tryz.isInt5 : uo Tryz.prog 5 = some .u8 := by kernel_rfl
@[go_sem] theorem Tryz.tsz9 : gi Tryz.prog 9 = some (1, false) := by kernel_rfl
theorem Tryz.cz9 : Tryz.prog.cellsOf 9 = 1 := by kernel_rfl
@[go_sem] theorem Tryz.zero9 : zeroOf Tryz.prog 9 = some [.str ByteArray.empty] := by kernel_rfl
@[go_sem] theorem Tryz.isStr9 : isStr Tryz.prog 9 = true := by kernel_rfl
@[go_sem] theorem Tryz.el22 : ij Tryz.prog 22 = some (5, 1, 1) := by kernel_rfl
@[go_sem] theorem Tryz.a6l : si Tryz.prog 22 = true := by kernel_rfl
@[go_sem] theorem Tryz.el41 : ij Tryz.prog 41 = some (3, 1, 8) := by kernel_rfl
@[go_sem] theorem Tryz.isSl41 : uk Tryz.prog 41 = true := by kernel_rfl
@[go_sem] theorem Tryz.tsz43 : gi Tryz.prog 43 = some (3, true) := by kernel_rfl
theorem Tryz.aps : Tryz.prog.cellsOf 43 = 3 := by kernel_rfl
@[go_sem] theorem Tryz.fd43_0 : gf Tryz.prog 43 0 = some (0, 1, false) := by kernel_rfl
@[go_sem] theorem Tryz.fd43_1 : gf Tryz.prog 43 1 = some (1, 1, false) := by kernel_rfl
@[go_sem] theorem Tryz.fd43_2 : gf Tryz.prog 43 2 = some (2, 1, false) := by kernel_rfl
@[go_sem] theorem Tryz.tsz47 : gi Tryz.prog 47 = some (3, true) := by kernel_rfl
@[go_sem] theorem Tryz.zero47 : zeroOf Tryz.prog 47 = some [.str ByteArray.empty, .str ByteArray.empty, .int .i64 0] := by kernel_rfl
@[go_sem] theorem Tryz.pl47 : ac4 Tryz.prog 47 = some [(0, 1), (1, 1), (2, 1)] := by kernel_rfl
@[go_sem] theorem Tryz.fd47_0 : gf Tryz.prog 47 0 = some (0, 1, false) := by kernel_rfl
@[go_sem] theorem Tryz.fd47_1 : gf Tryz.prog 47 1 = some (1, 1, false) := by kernel_rfl
@[go_sem] theorem Tryz.fd47_2 : gf Tryz.prog 47 2 = some (2, 1, false) := by kernel_rfl
@[go_sem] theorem Tryz.tsz51 : gi Tryz.prog 51 = some (1, false) := by kernel_rfl
@[go_sem] theorem Tryz.el51 : ij Tryz.prog 51 = some (165, 3, 24) := by kernel_rfl
@[go_sem] theorem Tryz.isSl51 : uk Tryz.prog 51 = true := by kernel_rfl
@[go_sem] theorem Tryz.tsz52 : gi Tryz.prog 52 = some (1, false) := by kernel_rfl
@[go_sem] theorem Tryz.el52 : ij Tryz.prog 52 = some (128, 5, 40) := by kernel_rfl
@[go_sem] theorem Tryz.isSl52 : uk Tryz.prog 52 = true := by kernel_rfl
@[go_sem] theorem Tryz.tsz54 : gi Tryz.prog 54 = some (5, true) := by kernel_rfl
@[go_sem] theorem Tryz.zero54 : zeroOf Tryz.prog 54 = some [.int .i64 0, .nilsl, .nilsl, .int .i64 0, .int .i64 0] := by kernel_rfl
@[go_sem] theorem Tryz.pl54 : ac4 Tryz.prog 54 = some [(0, 1), (1, 1), (2, 1), (3, 1), (4, 1)] := by kernel_rfl
@[go_sem] theorem Tryz.fd54_0 : gf Tryz.prog 54 0 = some (0, 1, false) := by kernel_rfl
@[go_sem] theorem Tryz.fd54_1 : gf Tryz.prog 54 1 = some (1, 1, false) := by kernel_rfl
@[go_sem] theorem Tryz.fd54_2 : gf Tryz.prog 54 2 = some (2, 1, false) := by kernel_rfl
@[go_sem] theorem Tryz.fd54_3 : gf Tryz.prog 54 3 = some (3, 1, false) := by kernel_rfl
@[go_sem] theorem Tryz.fd54_4 : gf Tryz.prog 54 4 = some (4, 1, false) := by kernel_rfl
@[go_sem] theorem Tryz.tsz56 : gi Tryz.prog 56 = some (8, true) := by kernel_rfl
@[go_sem] theorem Tryz.zero56 : zeroOf Tryz.prog 56 = some [.int .i64 0, .nilsl, .nilsl, .int .i64 0, .int .i64 0, .str ByteArray.empty, .str ByteArray.empty, .int .i64 0] := by kernel_rfl
@[go_sem] theorem Tryz.pl56 : ac4 Tryz.prog 56 = some [(0, 5), (5, 3)] := by kernel_rfl
@[go_sem] theorem Tryz.fd56_0 : gf Tryz.prog 56 0 = some (0, 5, true) := by kernel_rfl
@[go_sem] theorem Tryz.fd56_1 : gf Tryz.prog 56 1 = some (5, 3, true) := by kernel_rfl
@[go_sem] theorem Tryz.el62 : ij Tryz.prog 62 = some (66, 2, 32) := by kernel_rfl
@[go_sem] theorem Tryz.isSl62 : uk Tryz.prog 62 = true := by kernel_rfl
@[go_sem] theorem Tryz.tsz66 : gi Tryz.prog 66 = some (2, true) := by kernel_rfl
@[go_sem] theorem Tryz.zero66 : zeroOf Tryz.prog 66 = some [.str ByteArray.empty, .str ByteArray.empty] := by kernel_rfl
@[go_sem] theorem Tryz.pl66 : ac4 Tryz.prog 66 = some [(0, 1), (1, 1)] := by kernel_rfl
@[go_sem] theorem Tryz.fd66_0 : gf Tryz.prog 66 0 = some (0, 1, false) := by kernel_rfl
@[go_sem] theorem Tryz.fd66_1 : gf Tryz.prog 66 1 = some (1, 1, false) := by kernel_rfl
@[go_sem] theorem Tryz.el67 : ij Tryz.prog 67 = some (9, 1, 16) := by kernel_rfl
@[go_sem] theorem Tryz.isSl67 : uk Tryz.prog 67 = true := by kernel_rfl
@[go_sem] theorem Tryz.tsz72 : gi Tryz.prog 72 = some (1, false) := by kernel_rfl
theorem Tryz.cz72 : Tryz.prog.cellsOf 72 = 1 := by kernel_rfl
@[go_sem] theorem Tryz.el72 : ij Tryz.prog 72 = some (223, 3, 24) := by kernel_rfl
@[go_sem] theorem Tryz.isSl72 : uk Tryz.prog 72 = true := by kernel_rfl
@[go_sem] theorem Tryz.tsz73 : gi Tryz.prog 73 = some (1, false) := by kernel_rfl
theorem Tryz.cz73 : Tryz.prog.cellsOf 73 = 1 := by kernel_rfl
@[go_sem] theorem Tryz.el73 : ij Tryz.prog 73 = some (225, 5, 40) := by kernel_rfl
@[go_sem] theorem Tryz.isSl73 : uk Tryz.prog 73 = true := by kernel_rfl
@[go_sem] theorem Tryz.tsz75 : gi Tryz.prog 75 = some (5, true) := by kernel_rfl
theorem Tryz.ar9 : Tryz.prog.cellsOf 75 = 5 := by kernel_rfl
@[go_sem] theorem Tryz.fd75_0 : gf Tryz.prog 75 0 = some (0, 1, false) := by kernel_rfl
@[go_sem] theorem Tryz.fd75_1 : gf Tryz.prog 75 1 = some (1, 1, false) := by kernel_rfl
@[go_sem] theorem Tryz.fd75_2 : gf Tryz.prog 75 2 = some (2, 1, false) := by kernel_rfl
@[go_sem] theorem Tryz.fd75_3 : gf Tryz.prog 75 3 = some (3, 1, false) := by kernel_rfl
@[go_sem] theorem Tryz.fd75_4 : gf Tryz.prog 75 4 = some (4, 1, false) := by kernel_rfl
@[go_sem] theorem Tryz.tsz77 : gi Tryz.prog 77 = some (8, true) := by kernel_rfl
theorem Tryz.cz77 : Tryz.prog.cellsOf 77 = 8 := by kernel_rfl
@[go_sem] theorem Tryz.fd77_0 : gf Tryz.prog 77 0 = some (0, 5, true) := by kernel_rfl
@[go_sem] theorem Tryz.fd77_1 : gf Tryz.prog 77 1 = some (5, 3, true) := by kernel_rfl
@[go_sem] theorem Tryz.tsz128 : gi Tryz.prog 128 = some (5, true) := by kernel_rfl
@[go_sem] theorem Tryz.a6o : zeroOf Tryz.prog 128 = some [.int .i64 0, .int .i64 0, .int .i64 0, .int .i64 0, .int .i64 0] := by kernel_rfl
@[go_sem] theorem Tryz.pl128 : ac4 Tryz.prog 128 = some [(0, 1), (1, 1), (2, 1), (3, 1), (4, 1)] := by kernel_rfl
@[go_sem] theorem Tryz.a67 : gf Tryz.prog 128 0 = some (0, 1, false) := by kernel_rfl
@[go_sem] theorem Tryz.a6c : gf Tryz.prog 128 1 = some (1, 1, false) := by kernel_rfl
@[go_sem] theorem Tryz.a7g : gf Tryz.prog 128 2 = some (2, 1, false) := by kernel_rfl
@[go_sem] theorem Tryz.a6h : gf Tryz.prog 128 3 = some (3, 1, false) := by kernel_rfl
@[go_sem] theorem Tryz.a61 : gf Tryz.prog 128 4 = some (4, 1, false) := by kernel_rfl
@[go_sem] theorem Tryz.tsz160 : gi Tryz.prog 160 = some (3, true) := by kernel_rfl
@[go_sem] theorem Tryz.a6b : zeroOf Tryz.prog 160 = some [.int .i64 0, .int .i64 0, .int .i64 0] := by kernel_rfl
@[go_sem] theorem Tryz.pl160 : ac4 Tryz.prog 160 = some [(0, 1), (1, 1), (2, 1)] := by kernel_rfl
@[go_sem] theorem Tryz.a7n : gf Tryz.prog 160 0 = some (0, 1, false) := by kernel_rfl
@[go_sem] theorem Tryz.a6m : gf Tryz.prog 160 1 = some (1, 1, false) := by kernel_rfl
@[go_sem] theorem Tryz.a7m : gf Tryz.prog 160 2 = some (2, 1, false) := by kernel_rfl
@[go_sem] theorem Tryz.tsz165 : gi Tryz.prog 165 = some (3, true) := by kernel_rfl
@[go_sem] theorem Tryz.a58 : zeroOf Tryz.prog 165 = some [.int .i64 0, .bool false, .int .i64 0] := by kernel_rfl
@[go_sem] theorem Tryz.pl165 : ac4 Tryz.prog 165 = some [(0, 1), (1, 1), (2, 1)] := by kernel_rfl
@[go_sem] theorem Tryz.a7r : gf Tryz.prog 165 0 = some (0, 1, false) := by kernel_rfl
@[go_sem] theorem Tryz.a69 : gf Tryz.prog 165 1 = some (1, 1, false) := by kernel_rfl
@[go_sem] theorem Tryz.a7j : gf Tryz.prog 165 2 = some (2, 1, false) := by kernel_rfl
@[go_sem] theorem Tryz.a4h : mapOf Tryz.prog 211 = some (.string, .int .i64 0) := by kernel_rfl
@[go_sem] theorem Tryz.tsz223 : gi Tryz.prog 223 = some (3, true) := by kernel_rfl
theorem Tryz.als : Tryz.prog.cellsOf 223 = 3 := by kernel_rfl
@[go_sem] theorem Tryz.a6y : gf Tryz.prog 223 0 = some (0, 1, false) := by kernel_rfl
@[go_sem] theorem Tryz.a6w : gf Tryz.prog 223 1 = some (1, 1, false) := by kernel_rfl
@[go_sem] theorem Tryz.a5r : gf Tryz.prog 223 2 = some (2, 1, false) := by kernel_rfl
@[go_sem] theorem Tryz.tsz225 : gi Tryz.prog 225 = some (5, true) := by kernel_rfl
theorem Tryz.al2 : Tryz.prog.cellsOf 225 = 5 := by kernel_rfl
@[go_sem] theorem Tryz.a7a : gf Tryz.prog 225 0 = some (0, 1, false) := by kernel_rfl
@[go_sem] theorem Tryz.a6a : gf Tryz.prog 225 1 = some (1, 1, false) := by kernel_rfl
@[go_sem] theorem Tryz.a64 : gf Tryz.prog 225 2 = some (2, 1, false) := by kernel_rfl
@[go_sem] theorem Tryz.a63 : gf Tryz.prog 225 3 = some (3, 1, false) := by kernel_rfl
@[go_sem] theorem Tryz.a7l : gf Tryz.prog 225 4 = some (4, 1, false) := by kernel_rfl
@[go_sem] theorem Tryz.isPt3 : yo Tryz.prog 3 = false := by kernel_rfl
@[go_sem] theorem Tryz.isPt9 : yo Tryz.prog 9 = false := by kernel_rfl
@[go_sem] theorem Tryz.isPt41 : yo Tryz.prog 41 = false := by kernel_rfl
@[go_sem] theorem Tryz.isPt43 : yo Tryz.prog 43 = false := by kernel_rfl
@[go_sem] theorem Tryz.isPt51 : yo Tryz.prog 51 = false := by kernel_rfl
@[go_sem] theorem Tryz.isPt52 : yo Tryz.prog 52 = false := by kernel_rfl
@[go_sem] theorem Tryz.isPt54 : yo Tryz.prog 54 = false := by kernel_rfl
@[go_sem] theorem Tryz.isPt56 : yo Tryz.prog 56 = false := by kernel_rfl
@[go_sem] theorem Tryz.isPt66 : yo Tryz.prog 66 = false := by kernel_rfl
@[go_sem] theorem Tryz.isPt77 : yo Tryz.prog 77 = false := by kernel_rfl
@[go_sem] theorem Tryz.a6z : yo Tryz.prog 128 = false := by kernel_rfl
@[go_sem] theorem Tryz.a5k : yo Tryz.prog 165 = false := by kernel_rfl
theorem Tryz.okF4 : okF Tryz.prog 4 = true := by kernel_rfl
theorem Tryz.okF7 : okF Tryz.prog 7 = true := by kernel_rfl
theorem Tryz.okF8 : okF Tryz.prog 8 = true := by kernel_rfl
theorem Tryz.api : okF Tryz.prog 25 = true := by kernel_rfl
theorem Tryz.aqv : okF Tryz.prog 26 = true := by kernel_rfl
theorem Tryz.a39 : okF Tryz.prog 27 = true := by kernel_rfl
theorem Tryz.a1v : okF Tryz.prog 28 = true := by kernel_rfl
theorem Tryz.aou : okF Tryz.prog 29 = true := by kernel_rfl
theorem Tryz.a32 : okF Tryz.prog 30 = true := by kernel_rfl
theorem Tryz.aj6 : okF Tryz.prog 33 = true := by kernel_rfl
theorem Tryz.abb : okF Tryz.prog 34 = true := by kernel_rfl
theorem Tryz.a4y : okF Tryz.prog 36 = true := by kernel_rfl
theorem Tryz.al4 : okF Tryz.prog 40 = true := by kernel_rfl
theorem Tryz.amj : okF Tryz.prog 41 = true := by kernel_rfl
theorem Tryz.ao3 : okF Tryz.prog 45 = true := by kernel_rfl
theorem Tryz.a42 : okF Tryz.prog 46 = true := by kernel_rfl
theorem Tryz.a3f : okF Tryz.prog 47 = true := by kernel_rfl
theorem Tryz.avq : okF Tryz.prog 48 = true := by kernel_rfl
theorem Tryz.a5e : okF Tryz.prog 49 = true := by kernel_rfl
theorem Tryz.a3d : okF Tryz.prog 50 = true := by kernel_rfl
theorem Tryz.avl : okF Tryz.prog 51 = true := by kernel_rfl
theorem Tryz.a35 : okF Tryz.prog 52 = true := by kernel_rfl
theorem Tryz.aor : okF Tryz.prog 54 = true := by kernel_rfl
theorem Tryz.at4 : okF Tryz.prog 55 = true := by kernel_rfl
theorem Tryz.a5g : okF Tryz.prog 62 = true := by kernel_rfl
theorem Tryz.a4i : okF Tryz.prog 64 = true := by kernel_rfl
theorem Tryz.a3w : okF Tryz.prog 66 = true := by kernel_rfl
theorem Tryz.a4s : okF Tryz.prog 67 = true := by kernel_rfl
theorem Tryz.a27 : okF Tryz.prog 73 = true := by kernel_rfl
theorem Tryz.a4g : okF Tryz.prog 79 = true := by kernel_rfl
theorem Tryz.a23 : okF Tryz.prog 81 = true := by kernel_rfl
theorem Tryz.at6 : okF Tryz.prog 82 = true := by kernel_rfl
theorem Tryz.a4a : okF Tryz.prog 87 = true := by kernel_rfl
theorem Tryz.a2c : okF Tryz.prog 88 = true := by kernel_rfl
theorem Tryz.a5b : okF Tryz.prog 89 = true := by kernel_rfl
theorem Tryz.a2d : okF Tryz.prog 91 = true := by kernel_rfl
theorem Tryz.a33 : okF Tryz.prog 93 = true := by kernel_rfl
theorem Tryz.a4r : okF Tryz.prog 94 = true := by kernel_rfl
theorem Tryz.au8 : okF Tryz.prog 95 = true := by kernel_rfl
theorem Tryz.a2o : okF Tryz.prog 96 = true := by kernel_rfl
theorem Tryz.auc : okF Tryz.prog 97 = true := by kernel_rfl
theorem Tryz.a4u : okF Tryz.prog 98 = true := by kernel_rfl
theorem Tryz.a17 : okF Tryz.prog 99 = true := by kernel_rfl
theorem Tryz.avx : okF Tryz.prog 100 = true := by kernel_rfl
theorem Tryz.awf : okF Tryz.prog 102 = true := by kernel_rfl
theorem Tryz.ayv : okF Tryz.prog 103 = true := by kernel_rfl
theorem Tryz.av4 : okF Tryz.prog 104 = true := by kernel_rfl
theorem Tryz.av7 : okF Tryz.prog 105 = true := by kernel_rfl
theorem Tryz.akr : okF Tryz.prog 106 = true := by kernel_rfl
theorem Tryz.av2 : okF Tryz.prog 107 = true := by kernel_rfl
theorem Tryz.ay6 : okF Tryz.prog 108 = true := by kernel_rfl
theorem Tryz.axo : okF Tryz.prog 109 = true := by kernel_rfl
theorem Tryz.axi : okF Tryz.prog 110 = true := by kernel_rfl
theorem Tryz.azq : okF Tryz.prog 111 = true := by kernel_rfl
theorem Tryz.azn : okF Tryz.prog 112 = true := by kernel_rfl
theorem Tryz.avy : okF Tryz.prog 115 = true := by kernel_rfl
theorem Tryz.aza : okF Tryz.prog 116 = true := by kernel_rfl
theorem Tryz.azl : okF Tryz.prog 117 = true := by kernel_rfl
theorem Tryz.ay4 : okF Tryz.prog 120 = true := by kernel_rfl
theorem Tryz.axl : okF Tryz.prog 124 = true := by kernel_rfl
theorem Tryz.awq : okF Tryz.prog 134 = true := by kernel_rfl
theorem Tryz.ay5 : okF Tryz.prog 135 = true := by kernel_rfl
theorem Tryz.awe : okF Tryz.prog 138 = true := by kernel_rfl
theorem Tryz.awg : okF Tryz.prog 141 = true := by kernel_rfl
theorem Tryz.awl : okF Tryz.prog 142 = true := by kernel_rfl
theorem Tryz.awx : okF Tryz.prog 143 = true := by kernel_rfl
theorem Tryz.ayi : okF Tryz.prog 144 = true := by kernel_rfl
theorem Tryz.av9 : okF Tryz.prog 145 = true := by kernel_rfl
theorem Tryz.axp : okF Tryz.prog 146 = true := by kernel_rfl
theorem Tryz.u5 : okF Tryz.prog 147 = true := by kernel_rfl
theorem Tryz.ti : okF Tryz.prog 148 = true := by kernel_rfl
theorem Tryz.awa : okF Tryz.prog 149 = true := by kernel_rfl
theorem Tryz.aaj : okF Tryz.prog 150 = true := by kernel_rfl
theorem Tryz.ayu : okF Tryz.prog 151 = true := by kernel_rfl
theorem Tryz.azk : okF Tryz.prog 152 = true := by kernel_rfl
theorem Tryz.awv : okF Tryz.prog 153 = true := by kernel_rfl
theorem Tryz.ax6 : okF Tryz.prog 154 = true := by kernel_rfl
theorem Tryz.ayy : okF Tryz.prog 155 = true := by kernel_rfl
theorem Tryz.azt : okF Tryz.prog 156 = true := by kernel_rfl
theorem Tryz.tv : okF Tryz.prog 157 = true := by kernel_rfl
theorem Tryz.xb : okF Tryz.prog 158 = true := by kernel_rfl
theorem Tryz.xo : okF Tryz.prog 159 = true := by kernel_rfl
theorem Tryz.akj : okF Tryz.prog 160 = true := by kernel_rfl
theorem Tryz.awd : okF Tryz.prog 163 = true := by kernel_rfl
theorem Tryz.ay8 : okF Tryz.prog 164 = true := by kernel_rfl
theorem Tryz.aw1 : okF Tryz.prog 165 = true := by kernel_rfl
theorem Tryz.axf : okF Tryz.prog 166 = true := by kernel_rfl
theorem Tryz.awc : okF Tryz.prog 167 = true := by kernel_rfl
theorem Tryz.axx : okF Tryz.prog 168 = true := by kernel_rfl
theorem Tryz.ay3 : okF Tryz.prog 169 = true := by kernel_rfl
theorem Tryz.awb : okF Tryz.prog 170 = true := by kernel_rfl
theorem Tryz.awh : okF Tryz.prog 171 = true := by kernel_rfl
theorem Tryz.ayb : okF Tryz.prog 172 = true := by kernel_rfl
theorem Tryz.axy : okF Tryz.prog 173 = true := by kernel_rfl
theorem Tryz.av5 : okF Tryz.prog 174 = true := by kernel_rfl
theorem Tryz.axm : okF Tryz.prog 175 = true := by kernel_rfl
theorem Tryz.av8 : okF Tryz.prog 176 = true := by kernel_rfl
theorem Tryz.ay7 : okF Tryz.prog 177 = true := by kernel_rfl
theorem Tryz.ax5 : okF Tryz.prog 178 = true := by kernel_rfl
theorem Tryz.azc : okF Tryz.prog 179 = true := by kernel_rfl
theorem Tryz.ay2 : okF Tryz.prog 180 = true := by kernel_rfl
theorem Tryz.ayd : okF Tryz.prog 181 = true := by kernel_rfl
theorem Tryz.aw7 : okF Tryz.prog 184 = true := by kernel_rfl
theorem Tryz.axj : okF Tryz.prog 194 = true := by kernel_rfl
theorem Tryz.axc : okF Tryz.prog 195 = true := by kernel_rfl
theorem Tryz.awr : okF Tryz.prog 197 = true := by kernel_rfl
theorem Tryz.axa : okF Tryz.prog 199 = true := by kernel_rfl
theorem Tryz.ayx : okF Tryz.prog 200 = true := by kernel_rfl
theorem Tryz.aqc : okF Tryz.prog 201 = true := by kernel_rfl
theorem Tryz.aww : okF Tryz.prog 202 = true := by kernel_rfl
theorem Tryz.ays : okF Tryz.prog 203 = true := by kernel_rfl
theorem Tryz.axw : okF Tryz.prog 204 = true := by kernel_rfl
theorem Tryz.av6 : okF Tryz.prog 205 = true := by kernel_rfl
theorem Tryz.ayr : okF Tryz.prog 206 = true := by kernel_rfl
theorem Tryz.awu : okF Tryz.prog 207 = true := by kernel_rfl
theorem Tryz.ayg : okF Tryz.prog 208 = true := by kernel_rfl
theorem Tryz.awi : okF Tryz.prog 209 = true := by kernel_rfl
theorem Tryz.azi : okF Tryz.prog 210 = true := by kernel_rfl
theorem Tryz.aw2 : okF Tryz.prog 211 = true := by kernel_rfl
theorem Tryz.azm : okF Tryz.prog 212 = true := by kernel_rfl
theorem Tryz.aw5 : okF Tryz.prog 213 = true := by kernel_rfl
theorem Tryz.azs : okF Tryz.prog 214 = true := by kernel_rfl
theorem Tryz.akd : okF Tryz.prog 215 = true := by kernel_rfl
theorem Tryz.ayk : okF Tryz.prog 216 = true := by kernel_rfl
theorem Tryz.ax8 : okF Tryz.prog 217 = true := by kernel_rfl
theorem Tryz.avu : okF Tryz.prog 218 = true := by kernel_rfl
theorem Tryz.avw : okF Tryz.prog 219 = true := by kernel_rfl
theorem Tryz.ax2 : okF Tryz.prog 220 = true := by kernel_rfl
theorem Tryz.av1 : okF Tryz.prog 221 = true := by kernel_rfl
theorem Tryz.xk : okF Tryz.prog 234 = true := by kernel_rfl
theorem Tryz.vq : okF Tryz.prog 235 = true := by kernel_rfl
theorem Tryz.aw9 : okF Tryz.prog 237 = true := by kernel_rfl
theorem Tryz.xe : okF Tryz.prog 242 = true := by kernel_rfl
theorem Tryz.vk : okF Tryz.prog 243 = true := by kernel_rfl
theorem Tryz.avs : okF Tryz.prog 244 = true := by kernel_rfl
theorem Tryz.azp : okF Tryz.prog 245 = true := by kernel_rfl
theorem Tryz.awp : okF Tryz.prog 246 = true := by kernel_rfl
theorem Tryz.aym : okF Tryz.prog 247 = true := by kernel_rfl
theorem Tryz.avv : okF Tryz.prog 248 = true := by kernel_rfl
theorem Tryz.ayw : okF Tryz.prog 249 = true := by kernel_rfl
theorem Tryz.awm : okF Tryz.prog 250 = true := by kernel_rfl
theorem Tryz.aw0 : okF Tryz.prog 251 = true := by kernel_rfl
theorem Tryz.ayc : okF Tryz.prog 252 = true := by kernel_rfl
theorem Tryz.ayl : okF Tryz.prog 253 = true := by kernel_rfl
theorem Tryz.ayt : okF Tryz.prog 254 = true := by kernel_rfl
theorem Tryz.axd : okF Tryz.prog 264 = true := by kernel_rfl
theorem Tryz.azj : okF Tryz.prog 265 = true := by kernel_rfl
theorem Tryz.ayj : okF Tryz.prog 266 = true := by kernel_rfl
theorem Tryz.aye : okF Tryz.prog 267 = true := by kernel_rfl
theorem Tryz.ak0 : okF Tryz.prog 268 = true := by kernel_rfl
theorem Tryz.azb : okF Tryz.prog 271 = true := by kernel_rfl
theorem Tryz.ahn : okF Tryz.prog 272 = true := by kernel_rfl
theorem Tryz.aw4 : okF Tryz.prog 273 = true := by kernel_rfl
theorem Tryz.ayf : okF Tryz.prog 274 = true := by kernel_rfl
theorem Tryz.axe : okF Tryz.prog 282 = true := by kernel_rfl
theorem Tryz.axq : okF Tryz.prog 283 = true := by kernel_rfl
theorem Tryz.axv : okF Tryz.prog 285 = true := by kernel_rfl
end Go.Proofs
end
section
set_option maxRecDepth 100000
namespace Go.Proofs
open Go.Lv
def eb (n a b : Int) : Bool := decide (a ≤ n) && decide (n ≤ b)
theorem fh {n a b : Int} : eb n a b = true ↔ a ≤ n ∧ n ≤ b := by simp [eb]
theorem jy (n a b : Int) : Ctr Tryz.prog 64 [.int .i64 n, .int .i64 a, .int .i64 b] [] (.bool (eb n a b)) [] := by
 refine Ctr.intro Tryz.mixed Tryz.func64 rfl Tryz.a4i ?_
 simp -implicitDefEqProofs -dsimp only [go_sem, Tryz.ntmps64, Tryz.results64]
 refine a8.bu (fun h1 => ?_) (fun h1 => ?_) <;> simp -implicitDefEqProofs -dsimp only [go_sem, h1]
 · exact al.of_eq (by simp [eb, h1])
 · exact al.of_eq (by simp [eb, h1])
theorem ff (n a b : Int) : Ctr Tryz.prog 120 [.int .i64 n, .int .i64 a, .int .i64 b] [] (.bool (eb n a b)) [] := by
 refine Ctr.intro Tryz.mixed Tryz.func120 rfl Tryz.ay4 ?_
 simp -implicitDefEqProofs -dsimp only [go_sem, Tryz.ntmps120, Tryz.results120]
 refine a8.bu (fun h1 => ?_) (fun h1 => ?_) <;> simp -implicitDefEqProofs -dsimp only [go_sem, h1]
 · exact al.of_eq (by simp [eb, h1])
 · exact al.of_eq (by simp [eb, h1])
theorem aa0 {α : Type} {p : α → Bool} {k : α → Int} {m : Nat} {L : List α} (h : gh p k m L = true) : (∀ x ∈ L, p x = true) ∧ L.length ≤ m := by
 simp only [gh, Bool.and_eq_true, decide_eq_true_eq, List.all_eq_true, List.mem_range] at h
 refine ⟨fun x hx => ?_, h.2⟩
 obtain ⟨i, hi, rfl⟩ := List.getElem_of_mem hx
 have := h.1 i hi
 simp only [fw, List.getElem?_eq_getElem hi, Bool.and_eq_true] at this
 exact this.1
theorem ad7 {α : Type} {p : α → Bool} {k : α → Int} {m : Nat} {L : List α} (h : gh p k m L = true) : (L.map k).Pairwise (· < ·) := by
 simp only [gh, Bool.and_eq_true, List.all_eq_true, List.mem_range] at h
 have adj : ∀ j, (hj : j + 1 < L.length) → k (L[j]'(by omega)) < k L[j + 1] := by
   intro j hj
   have := h.1 (j + 1) hj
   rw [ga hj] at this
   simp at this
   exact this.2
 rw [List.pairwise_iff_getElem]
 intro i j hi hj hij
 simp only [List.length_map] at hi hj
 simp only [List.getElem_map]
 induction j with
 | zero => omega
 | succ j ih =>
   have h1 := adj j hj
   rcases Nat.lt_succ_iff_lt_or_eq.1 hij with h2 | h2
   · have := ih (by simpa using (by omega : j < L.length)) h2 (by omega)
     omega
   · subst h2; exact h1
end Go.Proofs
end
section
set_option maxRecDepth 100000
namespace Go.Proofs
open Go.Lv
structure aw where
 Command : ByteArray
 Reply : ByteArray
def aw.cs (r : aw) : List V := [.str r.Command, .str r.Reply]
def aw.v (r : aw) : V := .agg [.str r.Command, .str r.Reply]
theorem aw.csl (a : aw) : a.cs.length = 2 := rfl
theorem aw.csp (a : aw) : a.cs.all (cc 2) = true := rfl
instance : nf aw.cs 2 := ⟨fun _ => rfl, fun _ d => by cases d <;> rfl, fun _ => rfl, fun _ => rfl⟩
def aw.ok (r : aw) : Prop := agl r.Command ∧ agl r.Reply
abbrev aw.rows (L : List aw) : List V := Go.Lv.rows aw.cs L
abbrev aw.sl (L : List aw) : V := .sl L.length 2 (Go.Lv.rows aw.cs L)
abbrev aw.zs : List V := [.str ByteArray.empty, .str ByteArray.empty]
end Go.Proofs
end
