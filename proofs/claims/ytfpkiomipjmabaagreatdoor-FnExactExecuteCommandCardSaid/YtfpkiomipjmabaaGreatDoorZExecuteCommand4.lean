/-
  A part of the proof: texts put together by a program of the prover. Conditions: none.
-/
import Derived.Test.YtfpkiomipjmabaaGreatDoorZExecuteCommand3
import Derived.KernelRfl
import Derived.Lib.ItoaNum
import Derived.Lib.ItoaLen
import Derived.Test.YtfpkiomipjmabaaGreatDoorProg
set_option linter.unusedSimpArgs false
set_option linter.unusedVariables false
section
namespace Go.Lv

def rows {α : Type} (cs : α → List V) (L : List α) : List V := L.flatMap cs

section
variable {α : Type} {cs : α → List V} {w : Nat}

theorem jk (h : ∀ a, (cs a).length = w) (L : List α) : (rows cs L).length = L.length * w := by
 induction L with
 | nil => simp [rows]
 | cons a L ih => simp [rows, h] at ih ⊢; rw [ih, Nat.succ_mul, Nat.add_comm]

theorem c8 (L K : List α) : rows cs (L ++ K) = rows cs L ++ rows cs K := by simp [rows]
theorem abf : rows cs ([] : List α) = [] := rfl
theorem dx (a : α) (L : List α) : rows cs (a :: L) = cs a ++ rows cs L := by simp [rows]
theorem wz (a : α) : rows cs [a] = cs a := by simp [rows]

theorem yi (h : ∀ a, (cs a).length = w) (L : List α) (i : Nat) : (rows cs L).drop (i * w) = rows cs (L.drop i) := by
 induction i generalizing L with
 | zero => simp
 | succ i ih =>
   cases L with
   | nil => simp [rows]
   | cons a L =>
     rw [dx, Nat.succ_mul, Nat.add_comm, ← List.drop_drop, List.drop_append, h a, Nat.sub_self, List.drop_zero]
     rw [show (cs a).drop w = [] by simp [h]]
     simpa using ih L

theorem adn (h : ∀ a, (cs a).length = w) (L : List α) (i : Nat) : (rows cs L).take (i * w) = rows cs (L.take i) := by
 induction i generalizing L with
 | zero => simp [rows]
 | succ i ih =>
   cases L with
   | nil => simp [rows]
   | cons a L =>
     rw [dx, List.take_succ_cons, dx, Nat.succ_mul, Nat.add_comm, List.take_append, h a, Nat.add_sub_cancel_left, ih]
     rw [List.take_of_length_le (by simp [h])]

theorem bu (h : ∀ a, (cs a).length = w) {L : List α} {i : Nat} (hi : i < L.length) : ((rows cs L).drop (i * w)).take w = cs L[i] := by
 rw [yi h, List.drop_eq_getElem_cons hi, dx, List.take_append, h, Nat.sub_self, List.take_zero, List.append_nil, List.take_of_length_le (by simp [h])]

theorem ji {p : V → Bool} (h : ∀ a, (cs a).all p = true) (L : List α) : (rows cs L).all p = true := by
 induction L with
 | nil => rfl
 | cons a L ih => rw [dx, List.all_append, h a, ih]; rfl

theorem oe (f : Nat → R) {d : Nat} {l : List V} (h : l.all (cb d) = true) : l.map (ren f d) = l := by
 rw [List.map_congr_left (g := id) (fun x hx => aef f d x (List.all_eq_true.1 h x hx)), List.map_id]

theorem aba {p : V → Bool} {zs : List V} (hz : zs.all p = true) (hn : 0 < zs.length) (n : Nat) : (ma n zs).all p = true := by
 rw [List.all_eq_true]
 intro x hx
 simp only [ma, List.mem_map, List.mem_range] at hx
 obtain ⟨i, _, rfl⟩ := hx
 have hlt := Nat.mod_lt i hn
 rw [List.getD_eq_getElem?_getD, List.getElem?_eq_getElem hlt]
 exact List.all_eq_true.1 hz _ (List.getElem_mem hlt)

theorem am5 (n : Nat) (zs : List V) : (ma n zs).length = n := by simp [ma]

theorem als {zs : List V} (hz : zs.length = w) (n : Nat) : (ma n zs).drop w = ma (n - w) zs := by
 apply List.ext_getElem
 · simp [ma]
 · intro i h1 h2
   simp [ma] at h1 h2 ⊢
   rw [hz, Nat.add_mod_left]

def filled (cs : α → List V) (w : Nat) (zs : List V) (L : List α) (i : Nat) : List V := rows cs (L.take i) ++ ma ((L.length - i) * w) zs

theorem abv (h : ∀ a, (cs a).length = w) {zs : List V} {L : List α} {i : Nat} (hi : i ≤ L.length) : (filled cs w zs L i).length = L.length * w := by
 simp only [filled, List.length_append, jk h, am5, List.length_take, Nat.min_eq_left hi]
 rw [← Nat.add_mul, Nat.add_sub_cancel' hi]

theorem zg {zs : List V} {L : List α} : filled cs w zs L 0 = ma (L.length * w) zs := by simp [filled, rows]

theorem abu (h : ∀ a, (cs a).length = w) {zs : List V} {L : List α} {i : Nat} (hi : L.length ≤ i) : filled cs w zs L i = rows cs L := by
 simp [filled, List.take_of_length_le hi, Nat.sub_eq_zero_of_le hi, ma]

theorem zw (h : ∀ a, (cs a).length = w) {zs : List V} (hz : zs.length = w) {L : List α} {i : Nat} (hi : i < L.length) :
   ck (filled cs w zs L i) (i * w) (cs L[i]) = filled cs w zs L (i + 1) := by
 have hl : (rows cs (L.take i)).length = i * w := by rw [jk h, List.length_take, Nat.min_eq_left (by omega)]
 unfold filled ck
 rw [List.take_append, hl, Nat.sub_self, List.take_zero, List.append_nil, List.take_of_length_le (by omega), h, ← List.drop_drop, List.drop_append, hl, Nat.sub_self, List.drop_zero,
   show (rows cs (L.take i)).drop (i * w) = [] by simp [hl], List.nil_append, als hz, List.take_succ_eq_append_getElem hi, c8, wz]
 rw [show (L.length - i) * w - w = (L.length - (i + 1)) * w by rw [← Nat.sub_one_mul]; congr 1]

theorem ky {n : Nat} {l : List V} (h : l.all (cb 2) = true) : dd n (some l) = some l := by
 simp only [dd, Option.map_some]
 rw [oe _ h]
theorem xt {zs : List V} {L : List α} {i : Nat} (hz : 0 < zs.length) (hz2 : zs.all (cb 2) = true) (hp : ∀ a, (cs a).all (cb 2) = true) : (filled cs w zs L i).all (cb 2) = true := by
 rw [filled, List.all_append, aba hz2 hz, Bool.and_true]
 exact ji hp _

theorem wrap_i64 {n : Int} (h0 : -9223372036854775808 ≤ n) (h1 : n ≤ 9223372036854775807) : IntKind.i64.wrap n = n := by
 rw [IntKind.wrap_i64]; omega

def gz (z : Int) : Prop := -9223372036854775808 ≤ z ∧ z ≤ 9223372036854775807
def agp (s : ByteArray) : Prop := s.size ≤ 9223372036854775807
def aoi (ok : α → Prop) (L : List α) : Prop := L.length ≤ 9223372036854775807 ∧ ∀ x ∈ L, ok x

class pn (cs : α → List V) (w : outParam Nat) : Prop where
 len : ∀ a, (cs a).length = w
 plain : ∀ a d, (cs a).all (cb d) = true
 cell : ∀ a, (cs a).all bp = true
 noro : ∀ a, (cs a).all (ti 0) = true
class lq (cs : α → List V) (w : outParam Nat) : Prop where
 len : ∀ a, (cs a).length = w
 plain : ∀ a d, (cs a).all (cb d) = true
 cell : ∀ a, (cs a).all bp = true
instance {cs : α → List V} {w : Nat} [h : pn cs w] : lq cs w := ⟨h.len, h.plain, h.cell⟩

theorem aw [lq cs w] (L : List α) : (rows cs L).length = L.length * w := jk lq.len L
theorem ae [lq cs w] (f : Nat → R) (d : Nat) (L : List α) : (rows cs L).map (ren f d) = rows cs L := oe f (ji (fun a => lq.plain a d) L)
theorem a8 [lq cs w] (L : List α) : (rows cs L).all bp = true := ji lq.cell L
theorem za [pn cs w] (L : List α) : (rows cs L).all (ti 0) = true := ji pn.noro L
theorem kp [lq cs w] (L : List α) (d : Nat) : (rows cs L).all (cb d) = true := ji (fun a => lq.plain a d) L
theorem ado [lq cs w] (p : Nat → Bool) (L : List α) (d : Nat) : (rows cs L).all (qv p d) = true := List.all_eq_true.2 fun x hx => vt p d x (List.all_eq_true.1 (kp (cs := cs) L d) x hx)
theorem ab3 [pn cs w] (L : List α) : k9 [some (rows cs L)] := k9.of (by simp only [ae9, List.all_cons, List.all_nil, za, Bool.and_self])
theorem ig [lq cs w] (L : List α) : (rows cs L).take (L.length * w) = rows cs L := List.take_of_length_le (by rw [aw]; exact Nat.le_refl _)

theorem aj3 [lq cs w] {h : Hp} {id : Nat} {L : List α} (hid : h[id]? = some (some (rows cs L))) : LeV (ren (ef h 3) 3 (.osl id 0 L.length w)) (.sl L.length w (rows cs L)) := by
 refine .inl ?_
 simp only [ren, ef, hid, ae, List.drop_zero, ig]
theorem an9 [lq cs w] {h : Hp} {id n : Nat} {L : List α} (hid : h[id]? = some (some (rows cs L))) (hn : n = L.length) : LeV (ren (ef h 3) 3 (.osl id 0 n w)) (.sl L.length w (rows cs L)) := by
 subst hn; exact aj3 hid
theorem le_nil {h : Hp} {w : Nat} : LeV (ren (ef h 3) 3 .nilsl) (.sl 0 w []) := .inr (.inr (.inl ⟨rfl, w, rfl⟩))
theorem LeV.aggR {f : Nat → R} {d : Nat} {cs cs' : List V} (h : LeA (cs.map (ren f d)) cs') : LeV (ren f (d + 1) (.agg cs)) (.agg cs') := LeV.agg h
theorem ao3 [lq cs w] {h : Hp} {id n n' : Nat} {L : List α} (hid : h[id]? = some (some (rows cs L))) (hn : n = L.length) (hn' : n' = L.length) : LeE (ren (ef h 3) 2 (.osl id 0 n w)) (.sl n' w (rows cs L)) := by
 subst hn hn'
 refine .inl ?_
 simp only [ren, ef, hid, ae, List.drop_zero, ig]
theorem amo [lq cs w] {h : Hp} {id : Nat} {fz : Bool} {L : List α} (hid : h[id]? = some (some (rows cs L))) : bb [id] h fz = [some (rows cs L)] := by
 simp only [bb, List.map_cons, List.map_nil, bj, hid, ae]
theorem ph {l : List V} (h : l.all bp = true) : gg l = false := by
 match l, h with
 | [], _ => rfl
 | _ :: _ :: _, _ => rfl
 | [x], h => cases x <;> first | rfl | (simp [bp] at h)
theorem lh [lq cs w] (L : List α) : gg (rows cs L) = false := ph (a8 L)
theorem mq [lq cs w] {L L' : List α} (h : L.length = L'.length) : grown [some (rows cs L)] [some (rows cs L')] := by
 simp [grown, aw, h, lh]

def aar (w : Nat) (R : Option (List α)) : V := match R with
 | some M => .tup [.osl 0 0 M.length w, .bool true]
 | none => .tup [.osl 0 0 0 w, .bool false]
def va (cs : α → List V) (R : Option (List α)) : Hp := match R with
 | some M => [some (rows cs M)]
 | none => [some []]
def tz (w : Nat) (R : Option (List α)) : V := match R with
 | some M => .tup [.osl 0 0 M.length w, .bool true]
 | none => .tup [.nilsl, .bool false]
def nr (cs : α → List V) (R : Option (List α)) : Hp := match R with
 | some M => [some (rows cs M)]
 | none => []
theorem eg (L : List α) (a : α) : rows cs L ++ cs a = rows cs (L ++ [a]) := by rw [c8, wz]

theorem ki {f : V → V} : ∀ {l : List V}, l.map f = l → LeL (l.map f) l
 | [], _ => trivial
 | a :: l, h => by
   simp only [List.map_cons, List.cons.injEq] at h
   exact ⟨.inl h.1.symm, ki h.2⟩

theorem sk {A M ns : List V} {n j : Nat} (h : A.length = n) : ck (A ++ M) (n + j) ns = A ++ ck M j ns := by
 subst h
 unfold ck
 rw [List.take_append, List.drop_append, List.take_of_length_le (by omega), List.drop_of_length_le (by omega)]
 simp only [Nat.add_sub_cancel_left, List.nil_append, List.append_assoc]
 congr 3
 congr 1
 omega
theorem uu {A M ns : List V} {n : Nat} (h : A.length = n) : ck (A ++ M) n ns = A ++ ck M 0 ns := by
 have := sk (M := M) (ns := ns) (j := 0) h
 rwa [Nat.add_zero] at this

theorem apart {L : List α} {i : Nat} (hi : i < L.length) : ∃ A B, L = A ++ L[i] :: B ∧ A.length = i ∧ A = L.take i ∧ B = L.drop (i + 1) := by
 refine ⟨L.take i, L.drop (i + 1), ?_, by simp; omega, rfl, rfl⟩
 rw [← List.drop_eq_getElem_cons hi, List.take_append_drop]

def fj (p : α → Bool) (k : α → Int) (L : List α) (i : Nat) : Bool :=
 match L[i]? with
 | none => true
 | some x => p x && match i with
   | 0 => true
   | j + 1 => match L[j]? with
     | none => true
     | some y => decide (k y < k x)

def ib (p : α → Bool) (k : α → Int) (m : Nat) (L : List α) : Bool := (List.range L.length).all (fj p k L) && decide (L.length ≤ m)

theorem z7 {q : Nat → Bool} {n i : Nat} (hi : i < n) (h : q i = false) : (List.range n).all q = false := by
 rw [List.all_eq_false]
 exact ⟨i, by simpa using hi, by simp [h]⟩
theorem fg {q : Nat → Bool} {i : Nat} (h : (List.range i).all q = true) (h1 : q i = true) : (List.range (i + 1)).all q = true := by
 rw [List.range_succ, List.all_append, h]
 simp [h1]
theorem iy {p : α → Bool} {k : α → Int} {m : Nat} {L : List α} {i : Nat} (hi : i < L.length) (h : fj p k L i = false) : ib p k m L = false := by
 rw [ib, z7 hi h]
 rfl
theorem jy {p : α → Bool} {k : α → Int} {L : List α} (h0 : 0 < L.length) : fj p k L 0 = p L[0] := by simp [fj, h0]
theorem fu {p : α → Bool} {k : α → Int} {L : List α} {j : Nat} (h : j + 1 < L.length) : fj p k L (j + 1) = (p L[j + 1] && decide (k (L[j]'(by omega)) < k L[j + 1])) := by
 have : j < L.length := by omega
 simp [fj, h, this]
end

theorem leA {x y : V} (h : LeV x y := by first | exact aj3 rfl | exact .inl rfl | exact le_nil | exact an9 rfl (by simp) | exact LeV.aggR (by first | ((repeat' (first | exact True.intro | exact ao3 rfl (by simp) (by simp) | exact LeE.nil | exact LeE.refl _ | refine And.intro ?_ ?_)); done) | fail)) : LeV x y := h
theorem al.at {P : Program} {h : Hp} {g : FuncId} {a c args : List V} {K : V → Hp → Prop} {x : Tag K} {as' : List V} {r : V} {hout : Hp} (hs : Ctr P g as' [] r hout) (hle : LeL ((a ++ args ++ c).map (ren (ef h 3) 3)) as') (hk : K r hout)
   (hro : (a ++ args ++ c).all (cb 3) = true ∨ tn r ∧ k9 hout := by first | exact .inl rfl | exact .inr ⟨af0 3 rfl, by first | exact k9.nil | exact ab3 _ | exact k9.of (by simp only [ae9, List.all_cons, List.all_nil, za, Bool.and_self])⟩)
   (hrf : n9 h 4 (.fn (.func g) a c) = true ∧ args.all (n9 h 3) = true := by first | exact ⟨rfl, rfl⟩ | exact ⟨rfl, by simp [n9, qv, aii, cb, kp, ado]⟩ | simp [n9, qv, aii, cb, kp, ado]) : al P h (.fn (.func g) a c) args K x :=
 al.intro hs hle hro hrf hk
theorem ak.at {P : Program} {t : List V} {h : Hp} {k : Nat} {dst : Option Tmp} {g : FuncId} {a c args : List V} {K : St → Prop} {x : Tag K} {as' : List V} {r : V} {hout : Hp} (hs : Ctr P g as' [] r hout)
   (hle : LeL ((a ++ args ++ c).map (ren (ef h 3) 3)) as') (hk : K (ov ⟨t, h, k⟩ dst r hout))
   (hro : (a ++ args ++ c).all (cb 3) = true ∨ tn r ∧ k9 hout := by first | exact .inl rfl | exact .inr ⟨af0 3 rfl, by first | exact k9.nil | exact ab3 _ | exact k9.of (by simp only [ae9, List.all_cons, List.all_nil, za, Bool.and_self])⟩) : ak P ⟨t, h, k⟩ dst (.fn (.func g) a c) args K x :=
 ak.intro hs hle hro hk
theorem xh {sel : List Nat} {h hin : Hp} {fz : Bool} (hh : bb sel h fz = hin := by first | exact amo rfl | rfl | (simp only [bb, List.map_cons, List.map_nil, bj, List.getElem?_cons_zero, List.getElem?_cons_succ, ae]; done)) : bb sel h fz = hin := hh
theorem leO {x y : V} (h : LeV x y := by first | exact .inl rfl | exact LeV.aggR (by first | ((repeat' (first | exact True.intro | exact LeE.nil | exact LeE.refl _ | refine And.intro ?_ ?_)); done) | fail)) : LeV x y := h
theorem ah {a b : Prop} (hb : b) (ha : a := by first | omega | with_reducible rfl | (show bo _ = true; kernel_rfl) | (simp only [aw, a8, List.length_append, List.length_cons, List.length_nil, List.all_append, List.all_cons, List.all_nil, bp, Nat.mul_one, Nat.one_mul, Bool.and_self]; first | done | omega)) : a ∧ b := ⟨ha, hb⟩
attribute [go_sem] Nat.le_refl Int.toNat_natCast beq_self_eq_true bne_self_eq_false decide_true decide_false eq_self ne_eq Option.some.injEq not_false_eq_true Option.map_some ae
attribute [go_sem] Nat.reduceSub Nat.reduceAdd Nat.reduceMul Nat.reduceLT Nat.reduceLeDiff Nat.reduceEqDiff Nat.reduceDiv Nat.reduceMod Int.reduceToNat Int.reduceLE Int.reduceLT Int.reduceBEq Int.reduceBNe Int.reduceNeg Int.reduceAdd Int.reduceSub Int.reduceMul reduceCtorEq
end Go.Lv
end
section
namespace Go.Lv

def num (n : Int) : ByteArray := ⟨(Lib.itoa n).toArray⟩
theorem wy {n : Int} (h : gz n) : (num n).size ≤ 21 := by
 have := Lib.itoa_length_le n h.1 h.2
 simpa [num, ByteArray.size] using this
theorem j0 {n : Int} (h0 : -9223372036854775808 ≤ n) (h1 : n ≤ 9223372036854775807) : (num n).size ≤ 21 := wy ⟨h0, h1⟩
theorem bm (l : Array UInt8) : (ByteArray.mk l).size = l.size := rfl
theorem an8 (x y : Array UInt8) : (ByteArray.mk x ++ ByteArray.mk y) = ByteArray.mk (x ++ y) := by
 apply ByteArray.ext
 simp
def digits : ByteArray := ⟨#[48, 49, 50, 51, 52, 53, 54, 55, 56, 57]⟩
theorem r3 (d : Nat) (h : d < 10) : digits.extract d (d + 1) = ⟨#[UInt8.ofNat (48 + d)]⟩ := by
 apply ByteArray.ext
 rw [ByteArray.data_extract]
 match d, h with
 | 0, _ => decide
 | 1, _ => decide
 | 2, _ => decide
 | 3, _ => decide
 | 4, _ => decide
 | 5, _ => decide
 | 6, _ => decide
 | 7, _ => decide
 | 8, _ => decide
 | 9, _ => decide
theorem rp (u : Nat) : Lib.itoa (u : Int) = Lib.decDigits u := by unfold Lib.itoa; rw [if_neg (by omega)]; simp
theorem aqm {u : Nat} (h : 1 ≤ u) : num (-(u : Int)) = ⟨#[45]⟩ ++ num u := by
 have e : Lib.itoa (-(u : Int)) = 45 :: Lib.decDigits u := by unfold Lib.itoa; rw [if_pos (by omega)]; simp
 unfold num
 rw [e, rp, an8]
 simp
theorem afu {u : Nat} (h : u < 10) : num u = digits.extract u (u + 1) := by
 rw [r3 u h]
 unfold num
 rw [rp, Lib.decDigits, dif_pos h]
theorem aau {u : Nat} (h : ¬ u < 10) : num u = num ((u / 10 : Nat) : Int) ++ digits.extract (u % 10) (u % 10 + 1) := by
 rw [r3 (u % 10) (by omega)]
 unfold num
 rw [rp, rp, Lib.decDigits, dif_neg h, an8]
 simp

end Go.Lv
end
section
namespace Go.Proofs
open Go.Lv

theorem Tryz.mixed : Tryz.prog.follows .mixedOrders = true := by kernel_rfl
@[go_sem] theorem Tryz.tsz1 : bg Tryz.prog 1 = some (1, false) := by kernel_rfl
@[go_sem] theorem Tryz.udef1 : (Tryz.prog.underlying 1).isSome = true := by kernel_rfl
@[go_sem] theorem Tryz.zero1 : zeroOf Tryz.prog 1 = some [.lit ((Go.Value.nilFunc))] := by kernel_rfl
@[go_sem] theorem Tryz.tsz2 : bg Tryz.prog 2 = some (1, false) := by kernel_rfl
@[go_sem] theorem Tryz.udef2 : (Tryz.prog.underlying 2).isSome = true := by kernel_rfl
@[go_sem] theorem Tryz.zero2 : zeroOf Tryz.prog 2 = some [.int .i64 0] := by kernel_rfl
@[go_sem] theorem Tryz.isInt2 : gk Tryz.prog 2 = some .i64 := by kernel_rfl
@[go_sem] theorem Tryz.tsz3 : bg Tryz.prog 3 = some (1, false) := by kernel_rfl
theorem Tryz.cz3 : Tryz.prog.cellsOf 3 = 1 := by kernel_rfl
@[go_sem] theorem Tryz.udef3 : (Tryz.prog.underlying 3).isSome = true := by kernel_rfl
@[go_sem] theorem Tryz.zero3 : zeroOf Tryz.prog 3 = some [.int .i64 0] := by kernel_rfl
@[go_sem] theorem Tryz.isInt3 : gk Tryz.prog 3 = some .i64 := by kernel_rfl
@[go_sem] theorem Tryz.tsz4 : bg Tryz.prog 4 = some (1, false) := by kernel_rfl
theorem Tryz.cz4 : Tryz.prog.cellsOf 4 = 1 := by kernel_rfl
@[go_sem] theorem Tryz.udef4 : (Tryz.prog.underlying 4).isSome = true := by kernel_rfl
@[go_sem] theorem Tryz.zero4 : zeroOf Tryz.prog 4 = some [.bool false] := by kernel_rfl
@[go_sem] theorem Tryz.bci : xd Tryz.prog 4 = true := by kernel_rfl
@[go_sem] theorem Tryz.tsz5 : bg Tryz.prog 5 = some (1, false) := by kernel_rfl
@[go_sem] theorem Tryz.udef5 : (Tryz.prog.underlying 5).isSome = true := by kernel_rfl
@[go_sem] theorem Tryz.zero5 : zeroOf Tryz.prog 5 = some [.int .u8 0] := by kernel_rfl
@[go_sem] theorem Tryz.isInt5 : gk Tryz.prog 5 = some .u8 := by kernel_rfl
@[go_sem] theorem Tryz.tsz6 : bg Tryz.prog 6 = some (1, false) := by kernel_rfl
@[go_sem] theorem Tryz.udef6 : (Tryz.prog.underlying 6).isSome = true := by kernel_rfl
@[go_sem] theorem Tryz.zero6 : zeroOf Tryz.prog 6 = some [.int .u8 0] := by kernel_rfl
@[go_sem] theorem Tryz.isInt6 : gk Tryz.prog 6 = some .u8 := by kernel_rfl
@[go_sem] theorem Tryz.tsz7 : bg Tryz.prog 7 = some (4, true) := by kernel_rfl
@[go_sem] theorem Tryz.udef7 : (Tryz.prog.underlying 7).isSome = true := by kernel_rfl
@[go_sem] theorem Tryz.zero7 : zeroOf Tryz.prog 7 = some [.int .i64 0, .int .i64 0, .bool false, .int .u8 0] := by kernel_rfl
@[go_sem] theorem Tryz.pl7 : fp Tryz.prog 7 = some [(0, 1), (1, 1), (2, 1), (3, 1)] := by kernel_rfl
@[go_sem] theorem Tryz.tsz8 : bg Tryz.prog 8 = some (4, true) := by kernel_rfl
@[go_sem] theorem Tryz.udef8 : (Tryz.prog.underlying 8).isSome = true := by kernel_rfl
@[go_sem] theorem Tryz.zero8 : zeroOf Tryz.prog 8 = some [.int .i64 0, .int .i64 0, .bool false, .int .u8 0] := by kernel_rfl
@[go_sem] theorem Tryz.pl8 : fp Tryz.prog 8 = some [(0, 1), (1, 1), (2, 1), (3, 1)] := by kernel_rfl
@[go_sem] theorem Tryz.tsz9 : bg Tryz.prog 9 = some (1, false) := by kernel_rfl
theorem Tryz.cz9 : Tryz.prog.cellsOf 9 = 1 := by kernel_rfl
@[go_sem] theorem Tryz.udef9 : (Tryz.prog.underlying 9).isSome = true := by kernel_rfl
@[go_sem] theorem Tryz.zero9 : zeroOf Tryz.prog 9 = some [.str ByteArray.empty] := by kernel_rfl
@[go_sem] theorem Tryz.isU8S9 : me Tryz.prog 9 = false := by kernel_rfl
@[go_sem] theorem Tryz.bas : gk Tryz.prog 9 = none := by kernel_rfl
@[go_sem] theorem Tryz.isStr9 : isStr Tryz.prog 9 = true := by kernel_rfl
@[go_sem] theorem Tryz.tsz10 : bg Tryz.prog 10 = some (1, false) := by kernel_rfl
@[go_sem] theorem Tryz.udef10 : (Tryz.prog.underlying 10).isSome = true := by kernel_rfl
@[go_sem] theorem Tryz.zero10 : zeroOf Tryz.prog 10 = some [.str ByteArray.empty] := by kernel_rfl
@[go_sem] theorem Tryz.a73 : me Tryz.prog 10 = false := by kernel_rfl
@[go_sem] theorem Tryz.a6t : gk Tryz.prog 10 = none := by kernel_rfl
@[go_sem] theorem Tryz.baw : isStr Tryz.prog 10 = true := by kernel_rfl
@[go_sem] theorem Tryz.tsz11 : bg Tryz.prog 11 = some (1, false) := by kernel_rfl
@[go_sem] theorem Tryz.udef11 : (Tryz.prog.underlying 11).isSome = true := by kernel_rfl
@[go_sem] theorem Tryz.zero11 : zeroOf Tryz.prog 11 = some [.str ByteArray.empty] := by kernel_rfl
@[go_sem] theorem Tryz.bcf : me Tryz.prog 11 = false := by kernel_rfl
@[go_sem] theorem Tryz.a16 : gk Tryz.prog 11 = none := by kernel_rfl
@[go_sem] theorem Tryz.bcn : isStr Tryz.prog 11 = true := by kernel_rfl
@[go_sem] theorem Tryz.tsz12 : bg Tryz.prog 12 = some (1, false) := by kernel_rfl
@[go_sem] theorem Tryz.udef12 : (Tryz.prog.underlying 12).isSome = true := by kernel_rfl
@[go_sem] theorem Tryz.zero12 : zeroOf Tryz.prog 12 = some [.int .u64 0] := by kernel_rfl
@[go_sem] theorem Tryz.bct : gk Tryz.prog 12 = some .u64 := by kernel_rfl
@[go_sem] theorem Tryz.tsz16 : bg Tryz.prog 16 = some (1, false) := by kernel_rfl
@[go_sem] theorem Tryz.udef16 : (Tryz.prog.underlying 16).isSome = true := by kernel_rfl
@[go_sem] theorem Tryz.zero16 : zeroOf Tryz.prog 16 = some [.lit ((Go.Value.pointer none))] := by kernel_rfl
@[go_sem] theorem Tryz.tsz17 : bg Tryz.prog 17 = some (1, false) := by kernel_rfl
@[go_sem] theorem Tryz.udef17 : (Tryz.prog.underlying 17).isSome = true := by kernel_rfl
@[go_sem] theorem Tryz.zero17 : zeroOf Tryz.prog 17 = some [.lit ((Go.Value.pointer none))] := by kernel_rfl
@[go_sem] theorem Tryz.tsz20 : bg Tryz.prog 20 = some (1, false) := by kernel_rfl
@[go_sem] theorem Tryz.udef20 : (Tryz.prog.underlying 20).isSome = true := by kernel_rfl
@[go_sem] theorem Tryz.zero20 : zeroOf Tryz.prog 20 = some [.lit ((Go.Value.nilIface))] := by kernel_rfl
@[go_sem] theorem Tryz.tsz21 : bg Tryz.prog 21 = some (1, false) := by kernel_rfl
@[go_sem] theorem Tryz.udef21 : (Tryz.prog.underlying 21).isSome = true := by kernel_rfl
@[go_sem] theorem Tryz.zero21 : zeroOf Tryz.prog 21 = some [.int .i32 0] := by kernel_rfl
@[go_sem] theorem Tryz.bbu : gk Tryz.prog 21 = some .i32 := by kernel_rfl
@[go_sem] theorem Tryz.tsz22 : bg Tryz.prog 22 = some (1, false) := by kernel_rfl
@[go_sem] theorem Tryz.udef22 : (Tryz.prog.underlying 22).isSome = true := by kernel_rfl
@[go_sem] theorem Tryz.zero22 : zeroOf Tryz.prog 22 = some [.nilsl] := by kernel_rfl
@[go_sem] theorem Tryz.el22 : gn Tryz.prog 22 = some (5, 1, 1) := by kernel_rfl
@[go_sem] theorem Tryz.isSl22 : r4 Tryz.prog 22 = true := by kernel_rfl
@[go_sem] theorem Tryz.ba6 : me Tryz.prog 22 = true := by kernel_rfl
@[go_sem] theorem Tryz.tsz23 : bg Tryz.prog 23 = some (1, false) := by kernel_rfl
@[go_sem] theorem Tryz.udef23 : (Tryz.prog.underlying 23).isSome = true := by kernel_rfl
@[go_sem] theorem Tryz.zero23 : zeroOf Tryz.prog 23 = some [.lit ((Go.Value.nilFunc))] := by kernel_rfl
@[go_sem] theorem Tryz.tsz24 : bg Tryz.prog 24 = some (7, true) := by kernel_rfl
@[go_sem] theorem Tryz.udef24 : (Tryz.prog.underlying 24).isSome = true := by kernel_rfl
@[go_sem] theorem Tryz.zero24 : zeroOf Tryz.prog 24 = some [.int .i64 0, .int .i64 0, .int .i64 0, .int .i64 0, .int .i64 0, .int .i64 0, .int .i64 0] := by kernel_rfl
@[go_sem] theorem Tryz.pl24 : fp Tryz.prog 24 = some [(0, 1), (1, 1), (2, 1), (3, 1), (4, 1), (5, 1), (6, 1)] := by kernel_rfl
@[go_sem] theorem Tryz.tsz25 : bg Tryz.prog 25 = some (7, true) := by kernel_rfl
@[go_sem] theorem Tryz.udef25 : (Tryz.prog.underlying 25).isSome = true := by kernel_rfl
@[go_sem] theorem Tryz.zero25 : zeroOf Tryz.prog 25 = some [.int .i64 0, .int .i64 0, .int .i64 0, .int .i64 0, .int .i64 0, .int .i64 0, .int .i64 0] := by kernel_rfl
@[go_sem] theorem Tryz.a4n : lr Tryz.prog 25 = some [.int .i64, .int .i64, .int .i64, .int .i64, .int .i64, .int .i64, .int .i64] := by kernel_rfl
@[go_sem] theorem Tryz.pl25 : fp Tryz.prog 25 = some [(0, 1), (1, 1), (2, 1), (3, 1), (4, 1), (5, 1), (6, 1)] := by kernel_rfl
@[go_sem] theorem Tryz.fd25_0 : dy Tryz.prog 25 0 = some (0, 1, false) := by kernel_rfl
@[go_sem] theorem Tryz.fd25_1 : dy Tryz.prog 25 1 = some (1, 1, false) := by kernel_rfl
@[go_sem] theorem Tryz.fd25_2 : dy Tryz.prog 25 2 = some (2, 1, false) := by kernel_rfl
@[go_sem] theorem Tryz.fd25_3 : dy Tryz.prog 25 3 = some (3, 1, false) := by kernel_rfl
@[go_sem] theorem Tryz.fd25_4 : dy Tryz.prog 25 4 = some (4, 1, false) := by kernel_rfl
@[go_sem] theorem Tryz.fd25_5 : dy Tryz.prog 25 5 = some (5, 1, false) := by kernel_rfl
@[go_sem] theorem Tryz.fd25_6 : dy Tryz.prog 25 6 = some (6, 1, false) := by kernel_rfl
@[go_sem] theorem Tryz.tsz29 : bg Tryz.prog 29 = some (1, false) := by kernel_rfl
@[go_sem] theorem Tryz.udef29 : (Tryz.prog.underlying 29).isSome = true := by kernel_rfl
@[go_sem] theorem Tryz.zero29 : zeroOf Tryz.prog 29 = some [.lit ((Go.Value.nilFunc))] := by kernel_rfl
@[go_sem] theorem Tryz.tsz32 : bg Tryz.prog 32 = some (1, false) := by kernel_rfl
@[go_sem] theorem Tryz.udef32 : (Tryz.prog.underlying 32).isSome = true := by kernel_rfl
@[go_sem] theorem Tryz.zero32 : zeroOf Tryz.prog 32 = some [.lit ((Go.Value.nilFunc))] := by kernel_rfl
@[go_sem] theorem Tryz.tsz33 : bg Tryz.prog 33 = some (1, false) := by kernel_rfl
@[go_sem] theorem Tryz.udef33 : (Tryz.prog.underlying 33).isSome = true := by kernel_rfl
@[go_sem] theorem Tryz.zero33 : zeroOf Tryz.prog 33 = some [.nilsl] := by kernel_rfl
@[go_sem] theorem Tryz.el33 : gn Tryz.prog 33 = some (25, 7, 56) := by kernel_rfl
@[go_sem] theorem Tryz.isSl33 : r4 Tryz.prog 33 = true := by kernel_rfl
@[go_sem] theorem Tryz.tsz40 : bg Tryz.prog 40 = some (1, false) := by kernel_rfl
@[go_sem] theorem Tryz.udef40 : (Tryz.prog.underlying 40).isSome = true := by kernel_rfl
@[go_sem] theorem Tryz.zero40 : zeroOf Tryz.prog 40 = some [.lit ((Go.Value.nilFunc))] := by kernel_rfl
@[go_sem] theorem Tryz.tsz41 : bg Tryz.prog 41 = some (1, false) := by kernel_rfl
@[go_sem] theorem Tryz.udef41 : (Tryz.prog.underlying 41).isSome = true := by kernel_rfl
@[go_sem] theorem Tryz.zero41 : zeroOf Tryz.prog 41 = some [.nilsl] := by kernel_rfl
@[go_sem] theorem Tryz.el41 : gn Tryz.prog 41 = some (3, 1, 8) := by kernel_rfl
@[go_sem] theorem Tryz.isSl41 : r4 Tryz.prog 41 = true := by kernel_rfl
@[go_sem] theorem Tryz.tsz42 : bg Tryz.prog 42 = some (3, true) := by kernel_rfl
@[go_sem] theorem Tryz.udef42 : (Tryz.prog.underlying 42).isSome = true := by kernel_rfl
@[go_sem] theorem Tryz.zero42 : zeroOf Tryz.prog 42 = some [.str ByteArray.empty, .str ByteArray.empty, .int .i64 0] := by kernel_rfl
@[go_sem] theorem Tryz.pl42 : fp Tryz.prog 42 = some [(0, 1), (1, 1), (2, 1)] := by kernel_rfl
@[go_sem] theorem Tryz.tsz43 : bg Tryz.prog 43 = some (3, true) := by kernel_rfl
theorem Tryz.cz43 : Tryz.prog.cellsOf 43 = 3 := by kernel_rfl
@[go_sem] theorem Tryz.udef43 : (Tryz.prog.underlying 43).isSome = true := by kernel_rfl
@[go_sem] theorem Tryz.zero43 : zeroOf Tryz.prog 43 = some [.str ByteArray.empty, .str ByteArray.empty, .int .i64 0] := by kernel_rfl
@[go_sem] theorem Tryz.a6m : lr Tryz.prog 43 = some [.string, .string, .int .i64] := by kernel_rfl
@[go_sem] theorem Tryz.pl43 : fp Tryz.prog 43 = some [(0, 1), (1, 1), (2, 1)] := by kernel_rfl
@[go_sem] theorem Tryz.fd43_0 : dy Tryz.prog 43 0 = some (0, 1, false) := by kernel_rfl
@[go_sem] theorem Tryz.fd43_1 : dy Tryz.prog 43 1 = some (1, 1, false) := by kernel_rfl
@[go_sem] theorem Tryz.fd43_2 : dy Tryz.prog 43 2 = some (2, 1, false) := by kernel_rfl
@[go_sem] theorem Tryz.tsz44 : bg Tryz.prog 44 = some (1, false) := by kernel_rfl
@[go_sem] theorem Tryz.udef44 : (Tryz.prog.underlying 44).isSome = true := by kernel_rfl
@[go_sem] theorem Tryz.zero44 : zeroOf Tryz.prog 44 = some [.lit ((Go.Value.nilFunc))] := by kernel_rfl
@[go_sem] theorem Tryz.tsz47 : bg Tryz.prog 47 = some (3, true) := by kernel_rfl
@[go_sem] theorem Tryz.udef47 : (Tryz.prog.underlying 47).isSome = true := by kernel_rfl
@[go_sem] theorem Tryz.zero47 : zeroOf Tryz.prog 47 = some [.str ByteArray.empty, .str ByteArray.empty, .int .i64 0] := by kernel_rfl
@[go_sem] theorem Tryz.a3h : lr Tryz.prog 47 = some [.string, .string, .int .i64] := by kernel_rfl
@[go_sem] theorem Tryz.pl47 : fp Tryz.prog 47 = some [(0, 1), (1, 1), (2, 1)] := by kernel_rfl
@[go_sem] theorem Tryz.fd47_0 : dy Tryz.prog 47 0 = some (0, 1, false) := by kernel_rfl
@[go_sem] theorem Tryz.fd47_1 : dy Tryz.prog 47 1 = some (1, 1, false) := by kernel_rfl
@[go_sem] theorem Tryz.fd47_2 : dy Tryz.prog 47 2 = some (2, 1, false) := by kernel_rfl
@[go_sem] theorem Tryz.tsz48 : bg Tryz.prog 48 = some (1, false) := by kernel_rfl
@[go_sem] theorem Tryz.udef48 : (Tryz.prog.underlying 48).isSome = true := by kernel_rfl
@[go_sem] theorem Tryz.zero48 : zeroOf Tryz.prog 48 = some [.lit ((Go.Value.nilFunc))] := by kernel_rfl
@[go_sem] theorem Tryz.tsz51 : bg Tryz.prog 51 = some (1, false) := by kernel_rfl
@[go_sem] theorem Tryz.udef51 : (Tryz.prog.underlying 51).isSome = true := by kernel_rfl
@[go_sem] theorem Tryz.zero51 : zeroOf Tryz.prog 51 = some [.nilsl] := by kernel_rfl
@[go_sem] theorem Tryz.el51 : gn Tryz.prog 51 = some (165, 3, 24) := by kernel_rfl
@[go_sem] theorem Tryz.isSl51 : r4 Tryz.prog 51 = true := by kernel_rfl
@[go_sem] theorem Tryz.tsz52 : bg Tryz.prog 52 = some (1, false) := by kernel_rfl
@[go_sem] theorem Tryz.udef52 : (Tryz.prog.underlying 52).isSome = true := by kernel_rfl
@[go_sem] theorem Tryz.zero52 : zeroOf Tryz.prog 52 = some [.nilsl] := by kernel_rfl
@[go_sem] theorem Tryz.el52 : gn Tryz.prog 52 = some (128, 5, 40) := by kernel_rfl
@[go_sem] theorem Tryz.isSl52 : r4 Tryz.prog 52 = true := by kernel_rfl
@[go_sem] theorem Tryz.tsz53 : bg Tryz.prog 53 = some (5, true) := by kernel_rfl
@[go_sem] theorem Tryz.udef53 : (Tryz.prog.underlying 53).isSome = true := by kernel_rfl
@[go_sem] theorem Tryz.zero53 : zeroOf Tryz.prog 53 = some [.int .i64 0, .nilsl, .nilsl, .int .i64 0, .int .i64 0] := by kernel_rfl
@[go_sem] theorem Tryz.pl53 : fp Tryz.prog 53 = some [(0, 1), (1, 1), (2, 1), (3, 1), (4, 1)] := by kernel_rfl
@[go_sem] theorem Tryz.tsz54 : bg Tryz.prog 54 = some (5, true) := by kernel_rfl
@[go_sem] theorem Tryz.udef54 : (Tryz.prog.underlying 54).isSome = true := by kernel_rfl
@[go_sem] theorem Tryz.zero54 : zeroOf Tryz.prog 54 = some [.int .i64 0, .nilsl, .nilsl, .int .i64 0, .int .i64 0] := by kernel_rfl
@[go_sem] theorem Tryz.pl54 : fp Tryz.prog 54 = some [(0, 1), (1, 1), (2, 1), (3, 1), (4, 1)] := by kernel_rfl
@[go_sem] theorem Tryz.fd54_0 : dy Tryz.prog 54 0 = some (0, 1, false) := by kernel_rfl
@[go_sem] theorem Tryz.fd54_1 : dy Tryz.prog 54 1 = some (1, 1, false) := by kernel_rfl
@[go_sem] theorem Tryz.fd54_2 : dy Tryz.prog 54 2 = some (2, 1, false) := by kernel_rfl
@[go_sem] theorem Tryz.fd54_3 : dy Tryz.prog 54 3 = some (3, 1, false) := by kernel_rfl
@[go_sem] theorem Tryz.fd54_4 : dy Tryz.prog 54 4 = some (4, 1, false) := by kernel_rfl
@[go_sem] theorem Tryz.tsz55 : bg Tryz.prog 55 = some (8, true) := by kernel_rfl
@[go_sem] theorem Tryz.udef55 : (Tryz.prog.underlying 55).isSome = true := by kernel_rfl
@[go_sem] theorem Tryz.zero55 : zeroOf Tryz.prog 55 = some [.int .i64 0, .nilsl, .nilsl, .int .i64 0, .int .i64 0, .str ByteArray.empty, .str ByteArray.empty, .int .i64 0] := by kernel_rfl
@[go_sem] theorem Tryz.pl55 : fp Tryz.prog 55 = some [(0, 5), (5, 3)] := by kernel_rfl
@[go_sem] theorem Tryz.tsz56 : bg Tryz.prog 56 = some (8, true) := by kernel_rfl
@[go_sem] theorem Tryz.udef56 : (Tryz.prog.underlying 56).isSome = true := by kernel_rfl
@[go_sem] theorem Tryz.zero56 : zeroOf Tryz.prog 56 = some [.int .i64 0, .nilsl, .nilsl, .int .i64 0, .int .i64 0, .str ByteArray.empty, .str ByteArray.empty, .int .i64 0] := by kernel_rfl
@[go_sem] theorem Tryz.pl56 : fp Tryz.prog 56 = some [(0, 5), (5, 3)] := by kernel_rfl
@[go_sem] theorem Tryz.fd56_0 : dy Tryz.prog 56 0 = some (0, 5, true) := by kernel_rfl
@[go_sem] theorem Tryz.fd56_1 : dy Tryz.prog 56 1 = some (5, 3, true) := by kernel_rfl
@[go_sem] theorem Tryz.tsz62 : bg Tryz.prog 62 = some (1, false) := by kernel_rfl
@[go_sem] theorem Tryz.udef62 : (Tryz.prog.underlying 62).isSome = true := by kernel_rfl
@[go_sem] theorem Tryz.zero62 : zeroOf Tryz.prog 62 = some [.nilsl] := by kernel_rfl
@[go_sem] theorem Tryz.el62 : gn Tryz.prog 62 = some (66, 2, 32) := by kernel_rfl
@[go_sem] theorem Tryz.isSl62 : r4 Tryz.prog 62 = true := by kernel_rfl
@[go_sem] theorem Tryz.tsz64 : bg Tryz.prog 64 = some (1, false) := by kernel_rfl
@[go_sem] theorem Tryz.udef64 : (Tryz.prog.underlying 64).isSome = true := by kernel_rfl
@[go_sem] theorem Tryz.zero64 : zeroOf Tryz.prog 64 = some [.lit ((Go.Value.nilFunc))] := by kernel_rfl
@[go_sem] theorem Tryz.tsz65 : bg Tryz.prog 65 = some (2, true) := by kernel_rfl
@[go_sem] theorem Tryz.udef65 : (Tryz.prog.underlying 65).isSome = true := by kernel_rfl
@[go_sem] theorem Tryz.zero65 : zeroOf Tryz.prog 65 = some [.str ByteArray.empty, .str ByteArray.empty] := by kernel_rfl
@[go_sem] theorem Tryz.pl65 : fp Tryz.prog 65 = some [(0, 1), (1, 1)] := by kernel_rfl
@[go_sem] theorem Tryz.tsz66 : bg Tryz.prog 66 = some (2, true) := by kernel_rfl
@[go_sem] theorem Tryz.udef66 : (Tryz.prog.underlying 66).isSome = true := by kernel_rfl
@[go_sem] theorem Tryz.zero66 : zeroOf Tryz.prog 66 = some [.str ByteArray.empty, .str ByteArray.empty] := by kernel_rfl
@[go_sem] theorem Tryz.a15 : lr Tryz.prog 66 = some [.string, .string] := by kernel_rfl
@[go_sem] theorem Tryz.pl66 : fp Tryz.prog 66 = some [(0, 1), (1, 1)] := by kernel_rfl
@[go_sem] theorem Tryz.fd66_0 : dy Tryz.prog 66 0 = some (0, 1, false) := by kernel_rfl
@[go_sem] theorem Tryz.fd66_1 : dy Tryz.prog 66 1 = some (1, 1, false) := by kernel_rfl
@[go_sem] theorem Tryz.tsz67 : bg Tryz.prog 67 = some (1, false) := by kernel_rfl
@[go_sem] theorem Tryz.udef67 : (Tryz.prog.underlying 67).isSome = true := by kernel_rfl
@[go_sem] theorem Tryz.zero67 : zeroOf Tryz.prog 67 = some [.nilsl] := by kernel_rfl
@[go_sem] theorem Tryz.el67 : gn Tryz.prog 67 = some (9, 1, 16) := by kernel_rfl
@[go_sem] theorem Tryz.isSl67 : r4 Tryz.prog 67 = true := by kernel_rfl
@[go_sem] theorem Tryz.tsz72 : bg Tryz.prog 72 = some (1, false) := by kernel_rfl
theorem Tryz.cz72 : Tryz.prog.cellsOf 72 = 1 := by kernel_rfl
@[go_sem] theorem Tryz.udef72 : (Tryz.prog.underlying 72).isSome = true := by kernel_rfl
@[go_sem] theorem Tryz.zero72 : zeroOf Tryz.prog 72 = some [.nilsl] := by kernel_rfl
@[go_sem] theorem Tryz.el72 : gn Tryz.prog 72 = some (223, 3, 24) := by kernel_rfl
@[go_sem] theorem Tryz.isSl72 : r4 Tryz.prog 72 = true := by kernel_rfl
@[go_sem] theorem Tryz.tsz73 : bg Tryz.prog 73 = some (1, false) := by kernel_rfl
theorem Tryz.cz73 : Tryz.prog.cellsOf 73 = 1 := by kernel_rfl
@[go_sem] theorem Tryz.udef73 : (Tryz.prog.underlying 73).isSome = true := by kernel_rfl
@[go_sem] theorem Tryz.zero73 : zeroOf Tryz.prog 73 = some [.nilsl] := by kernel_rfl
@[go_sem] theorem Tryz.el73 : gn Tryz.prog 73 = some (225, 5, 40) := by kernel_rfl
@[go_sem] theorem Tryz.isSl73 : r4 Tryz.prog 73 = true := by kernel_rfl
@[go_sem] theorem Tryz.tsz74 : bg Tryz.prog 74 = some (5, true) := by kernel_rfl
@[go_sem] theorem Tryz.udef74 : (Tryz.prog.underlying 74).isSome = true := by kernel_rfl
@[go_sem] theorem Tryz.zero74 : zeroOf Tryz.prog 74 = some [.int .i64 0, .nilsl, .nilsl, .int .i64 0, .int .i64 0] := by kernel_rfl
@[go_sem] theorem Tryz.pl74 : fp Tryz.prog 74 = some [(0, 1), (1, 1), (2, 1), (3, 1), (4, 1)] := by kernel_rfl
@[go_sem] theorem Tryz.tsz75 : bg Tryz.prog 75 = some (5, true) := by kernel_rfl
theorem Tryz.cz75 : Tryz.prog.cellsOf 75 = 5 := by kernel_rfl
@[go_sem] theorem Tryz.udef75 : (Tryz.prog.underlying 75).isSome = true := by kernel_rfl
@[go_sem] theorem Tryz.zero75 : zeroOf Tryz.prog 75 = some [.int .i64 0, .nilsl, .nilsl, .int .i64 0, .int .i64 0] := by kernel_rfl
@[go_sem] theorem Tryz.pl75 : fp Tryz.prog 75 = some [(0, 1), (1, 1), (2, 1), (3, 1), (4, 1)] := by kernel_rfl
@[go_sem] theorem Tryz.fd75_0 : dy Tryz.prog 75 0 = some (0, 1, false) := by kernel_rfl
@[go_sem] theorem Tryz.fd75_1 : dy Tryz.prog 75 1 = some (1, 1, false) := by kernel_rfl
@[go_sem] theorem Tryz.fd75_2 : dy Tryz.prog 75 2 = some (2, 1, false) := by kernel_rfl
@[go_sem] theorem Tryz.fd75_3 : dy Tryz.prog 75 3 = some (3, 1, false) := by kernel_rfl
@[go_sem] theorem Tryz.fd75_4 : dy Tryz.prog 75 4 = some (4, 1, false) := by kernel_rfl
@[go_sem] theorem Tryz.tsz76 : bg Tryz.prog 76 = some (8, true) := by kernel_rfl
@[go_sem] theorem Tryz.udef76 : (Tryz.prog.underlying 76).isSome = true := by kernel_rfl
@[go_sem] theorem Tryz.zero76 : zeroOf Tryz.prog 76 = some [.int .i64 0, .nilsl, .nilsl, .int .i64 0, .int .i64 0, .str ByteArray.empty, .str ByteArray.empty, .int .i64 0] := by kernel_rfl
@[go_sem] theorem Tryz.pl76 : fp Tryz.prog 76 = some [(0, 5), (5, 3)] := by kernel_rfl
@[go_sem] theorem Tryz.tsz77 : bg Tryz.prog 77 = some (8, true) := by kernel_rfl
theorem Tryz.cz77 : Tryz.prog.cellsOf 77 = 8 := by kernel_rfl
@[go_sem] theorem Tryz.udef77 : (Tryz.prog.underlying 77).isSome = true := by kernel_rfl
@[go_sem] theorem Tryz.zero77 : zeroOf Tryz.prog 77 = some [.int .i64 0, .nilsl, .nilsl, .int .i64 0, .int .i64 0, .str ByteArray.empty, .str ByteArray.empty, .int .i64 0] := by kernel_rfl
@[go_sem] theorem Tryz.pl77 : fp Tryz.prog 77 = some [(0, 5), (5, 3)] := by kernel_rfl
@[go_sem] theorem Tryz.fd77_0 : dy Tryz.prog 77 0 = some (0, 5, true) := by kernel_rfl
@[go_sem] theorem Tryz.fd77_1 : dy Tryz.prog 77 1 = some (5, 3, true) := by kernel_rfl
@[go_sem] theorem Tryz.tsz91 : bg Tryz.prog 91 = some (1, false) := by kernel_rfl
@[go_sem] theorem Tryz.udef91 : (Tryz.prog.underlying 91).isSome = true := by kernel_rfl
@[go_sem] theorem Tryz.zero91 : zeroOf Tryz.prog 91 = some [.lit ((Go.Value.nilFunc))] := by kernel_rfl
@[go_sem] theorem Tryz.tsz103 : bg Tryz.prog 103 = some (1, false) := by kernel_rfl
@[go_sem] theorem Tryz.bcc : (Tryz.prog.underlying 103).isSome = true := by kernel_rfl
@[go_sem] theorem Tryz.a84 : zeroOf Tryz.prog 103 = some [.int .u64 0] := by kernel_rfl
@[go_sem] theorem Tryz.a50 : gk Tryz.prog 103 = some .u64 := by kernel_rfl
@[go_sem] theorem Tryz.tsz113 : bg Tryz.prog 113 = some (1, false) := by kernel_rfl
@[go_sem] theorem Tryz.bc0 : (Tryz.prog.underlying 113).isSome = true := by kernel_rfl
@[go_sem] theorem Tryz.bdx : zeroOf Tryz.prog 113 = some [.lit ((Go.Value.nilFunc))] := by kernel_rfl
@[go_sem] theorem Tryz.tsz127 : bg Tryz.prog 127 = some (5, true) := by kernel_rfl
@[go_sem] theorem Tryz.bc1 : (Tryz.prog.underlying 127).isSome = true := by kernel_rfl
@[go_sem] theorem Tryz.a8g : zeroOf Tryz.prog 127 = some [.int .i64 0, .int .i64 0, .int .i64 0, .int .i64 0, .int .i64 0] := by kernel_rfl
@[go_sem] theorem Tryz.pl127 : fp Tryz.prog 127 = some [(0, 1), (1, 1), (2, 1), (3, 1), (4, 1)] := by kernel_rfl
@[go_sem] theorem Tryz.tsz128 : bg Tryz.prog 128 = some (5, true) := by kernel_rfl
@[go_sem] theorem Tryz.bdk : (Tryz.prog.underlying 128).isSome = true := by kernel_rfl
@[go_sem] theorem Tryz.a8f : zeroOf Tryz.prog 128 = some [.int .i64 0, .int .i64 0, .int .i64 0, .int .i64 0, .int .i64 0] := by kernel_rfl
@[go_sem] theorem Tryz.azd : lr Tryz.prog 128 = some [.int .i64, .int .i64, .int .i64, .int .i64, .int .i64] := by kernel_rfl
@[go_sem] theorem Tryz.pl128 : fp Tryz.prog 128 = some [(0, 1), (1, 1), (2, 1), (3, 1), (4, 1)] := by kernel_rfl
@[go_sem] theorem Tryz.bai : dy Tryz.prog 128 0 = some (0, 1, false) := by kernel_rfl
@[go_sem] theorem Tryz.a8b : dy Tryz.prog 128 1 = some (1, 1, false) := by kernel_rfl
@[go_sem] theorem Tryz.bbk : dy Tryz.prog 128 2 = some (2, 1, false) := by kernel_rfl
@[go_sem] theorem Tryz.a9m : dy Tryz.prog 128 3 = some (3, 1, false) := by kernel_rfl
@[go_sem] theorem Tryz.a9s : dy Tryz.prog 128 4 = some (4, 1, false) := by kernel_rfl
@[go_sem] theorem Tryz.tsz143 : bg Tryz.prog 143 = some (1, false) := by kernel_rfl
@[go_sem] theorem Tryz.bbx : (Tryz.prog.underlying 143).isSome = true := by kernel_rfl
@[go_sem] theorem Tryz.a7k : zeroOf Tryz.prog 143 = some [.lit ((Go.Value.pointer none))] := by kernel_rfl
@[go_sem] theorem Tryz.tsz144 : bg Tryz.prog 144 = some (2, true) := by kernel_rfl
@[go_sem] theorem Tryz.bba : (Tryz.prog.underlying 144).isSome = true := by kernel_rfl
@[go_sem] theorem Tryz.a8n : zeroOf Tryz.prog 144 = some [.lit ((Go.Value.pointer none)), .nilsl] := by kernel_rfl
@[go_sem] theorem Tryz.pl144 : fp Tryz.prog 144 = some [(0, 1), (1, 1)] := by kernel_rfl
@[go_sem] theorem Tryz.tsz145 : bg Tryz.prog 145 = some (2, true) := by kernel_rfl
@[go_sem] theorem Tryz.a8a : (Tryz.prog.underlying 145).isSome = true := by kernel_rfl
@[go_sem] theorem Tryz.a9b : zeroOf Tryz.prog 145 = some [.lit ((Go.Value.pointer none)), .nilsl] := by kernel_rfl
@[go_sem] theorem Tryz.pl145 : fp Tryz.prog 145 = some [(0, 1), (1, 1)] := by kernel_rfl
@[go_sem] theorem Tryz.bdw : dy Tryz.prog 145 0 = some (0, 1, false) := by kernel_rfl
@[go_sem] theorem Tryz.bdp : dy Tryz.prog 145 1 = some (1, 1, false) := by kernel_rfl
@[go_sem] theorem Tryz.tsz147 : bg Tryz.prog 147 = some (1, false) := by kernel_rfl
@[go_sem] theorem Tryz.bax : (Tryz.prog.underlying 147).isSome = true := by kernel_rfl
@[go_sem] theorem Tryz.ba0 : zeroOf Tryz.prog 147 = some [.lit ((Go.Value.nilIface))] := by kernel_rfl
@[go_sem] theorem Tryz.tsz148 : bg Tryz.prog 148 = some (1, false) := by kernel_rfl
@[go_sem] theorem Tryz.bds : (Tryz.prog.underlying 148).isSome = true := by kernel_rfl
@[go_sem] theorem Tryz.a67 : zeroOf Tryz.prog 148 = some [.lit ((Go.Value.nilIface))] := by kernel_rfl
@[go_sem] theorem Tryz.tsz154 : bg Tryz.prog 154 = some (1, false) := by kernel_rfl
@[go_sem] theorem Tryz.a71 : (Tryz.prog.underlying 154).isSome = true := by kernel_rfl
@[go_sem] theorem Tryz.bb0 : zeroOf Tryz.prog 154 = some [.lit ((Go.Value.map none))] := by kernel_rfl
@[go_sem] theorem Tryz.a3y : mapOf Tryz.prog 154 = some (.int .i64, .bool false) := by kernel_rfl
@[go_sem] theorem Tryz.tsz159 : bg Tryz.prog 159 = some (3, true) := by kernel_rfl
@[go_sem] theorem Tryz.bbf : (Tryz.prog.underlying 159).isSome = true := by kernel_rfl
@[go_sem] theorem Tryz.a8q : zeroOf Tryz.prog 159 = some [.int .i64 0, .int .i64 0, .int .i64 0] := by kernel_rfl
@[go_sem] theorem Tryz.pl159 : fp Tryz.prog 159 = some [(0, 1), (1, 1), (2, 1)] := by kernel_rfl
@[go_sem] theorem Tryz.tsz160 : bg Tryz.prog 160 = some (3, true) := by kernel_rfl
@[go_sem] theorem Tryz.bde : (Tryz.prog.underlying 160).isSome = true := by kernel_rfl
@[go_sem] theorem Tryz.bb6 : zeroOf Tryz.prog 160 = some [.int .i64 0, .int .i64 0, .int .i64 0] := by kernel_rfl
@[go_sem] theorem Tryz.azr : lr Tryz.prog 160 = some [.int .i64, .int .i64, .int .i64] := by kernel_rfl
@[go_sem] theorem Tryz.pl160 : fp Tryz.prog 160 = some [(0, 1), (1, 1), (2, 1)] := by kernel_rfl
@[go_sem] theorem Tryz.a7g : dy Tryz.prog 160 0 = some (0, 1, false) := by kernel_rfl
@[go_sem] theorem Tryz.bdb : dy Tryz.prog 160 1 = some (1, 1, false) := by kernel_rfl
@[go_sem] theorem Tryz.a9r : dy Tryz.prog 160 2 = some (2, 1, false) := by kernel_rfl
@[go_sem] theorem Tryz.tsz163 : bg Tryz.prog 163 = some (1, false) := by kernel_rfl
@[go_sem] theorem Tryz.bc5 : (Tryz.prog.underlying 163).isSome = true := by kernel_rfl
@[go_sem] theorem Tryz.bbs : zeroOf Tryz.prog 163 = some [.lit ((Go.Value.nilFunc))] := by kernel_rfl
@[go_sem] theorem Tryz.tsz164 : bg Tryz.prog 164 = some (3, true) := by kernel_rfl
@[go_sem] theorem Tryz.bcx : (Tryz.prog.underlying 164).isSome = true := by kernel_rfl
@[go_sem] theorem Tryz.a83 : zeroOf Tryz.prog 164 = some [.int .i64 0, .bool false, .int .i64 0] := by kernel_rfl
@[go_sem] theorem Tryz.pl164 : fp Tryz.prog 164 = some [(0, 1), (1, 1), (2, 1)] := by kernel_rfl
@[go_sem] theorem Tryz.tsz165 : bg Tryz.prog 165 = some (3, true) := by kernel_rfl
@[go_sem] theorem Tryz.a95 : (Tryz.prog.underlying 165).isSome = true := by kernel_rfl
@[go_sem] theorem Tryz.ba4 : zeroOf Tryz.prog 165 = some [.int .i64 0, .bool false, .int .i64 0] := by kernel_rfl
@[go_sem] theorem Tryz.a0n : lr Tryz.prog 165 = some [.int .i64, .bool, .int .i64] := by kernel_rfl
@[go_sem] theorem Tryz.pl165 : fp Tryz.prog 165 = some [(0, 1), (1, 1), (2, 1)] := by kernel_rfl
@[go_sem] theorem Tryz.a81 : dy Tryz.prog 165 0 = some (0, 1, false) := by kernel_rfl
@[go_sem] theorem Tryz.bdr : dy Tryz.prog 165 1 = some (1, 1, false) := by kernel_rfl
@[go_sem] theorem Tryz.a8i : dy Tryz.prog 165 2 = some (2, 1, false) := by kernel_rfl
@[go_sem] theorem Tryz.tsz169 : bg Tryz.prog 169 = some (1, false) := by kernel_rfl
@[go_sem] theorem Tryz.bbh : (Tryz.prog.underlying 169).isSome = true := by kernel_rfl
@[go_sem] theorem Tryz.a8s : zeroOf Tryz.prog 169 = some [.lit ((Go.Value.pointer none))] := by kernel_rfl
@[go_sem] theorem Tryz.tsz186 : bg Tryz.prog 186 = some (1, false) := by kernel_rfl
@[go_sem] theorem Tryz.a8w : (Tryz.prog.underlying 186).isSome = true := by kernel_rfl
@[go_sem] theorem Tryz.a9l : zeroOf Tryz.prog 186 = some [.lit ((Go.Value.nilFunc))] := by kernel_rfl
@[go_sem] theorem Tryz.tsz187 : bg Tryz.prog 187 = some (1, false) := by kernel_rfl
@[go_sem] theorem Tryz.a9h : (Tryz.prog.underlying 187).isSome = true := by kernel_rfl
@[go_sem] theorem Tryz.bbq : zeroOf Tryz.prog 187 = some [.lit ((Go.Value.nilFunc))] := by kernel_rfl
@[go_sem] theorem Tryz.tsz189 : bg Tryz.prog 189 = some (1, false) := by kernel_rfl
@[go_sem] theorem Tryz.a9z : (Tryz.prog.underlying 189).isSome = true := by kernel_rfl
@[go_sem] theorem Tryz.bdv : zeroOf Tryz.prog 189 = some [.lit ((Go.Value.nilFunc))] := by kernel_rfl
@[go_sem] theorem Tryz.tsz191 : bg Tryz.prog 191 = some (1, false) := by kernel_rfl
@[go_sem] theorem Tryz.bb4 : (Tryz.prog.underlying 191).isSome = true := by kernel_rfl
@[go_sem] theorem Tryz.a8j : zeroOf Tryz.prog 191 = some [.lit ((Go.Value.nilFunc))] := by kernel_rfl
@[go_sem] theorem Tryz.tsz204 : bg Tryz.prog 204 = some (1, false) := by kernel_rfl
@[go_sem] theorem Tryz.bcp : (Tryz.prog.underlying 204).isSome = true := by kernel_rfl
@[go_sem] theorem Tryz.a8u : zeroOf Tryz.prog 204 = some [.lit ((Go.Value.pointer none))] := by kernel_rfl
@[go_sem] theorem Tryz.tsz206 : bg Tryz.prog 206 = some (1, false) := by kernel_rfl
@[go_sem] theorem Tryz.a9a : (Tryz.prog.underlying 206).isSome = true := by kernel_rfl
@[go_sem] theorem Tryz.bda : zeroOf Tryz.prog 206 = some [.int .u64 0] := by kernel_rfl
@[go_sem] theorem Tryz.a5v : gk Tryz.prog 206 = some .u64 := by kernel_rfl
@[go_sem] theorem Tryz.tsz211 : bg Tryz.prog 211 = some (1, false) := by kernel_rfl
@[go_sem] theorem Tryz.bbc : (Tryz.prog.underlying 211).isSome = true := by kernel_rfl
@[go_sem] theorem Tryz.a8x : zeroOf Tryz.prog 211 = some [.lit ((Go.Value.map none))] := by kernel_rfl
@[go_sem] theorem Tryz.a2d : mapOf Tryz.prog 211 = some (.string, .int .i64 0) := by kernel_rfl
@[go_sem] theorem Tryz.tsz213 : bg Tryz.prog 213 = some (1, false) := by kernel_rfl
@[go_sem] theorem Tryz.bco : (Tryz.prog.underlying 213).isSome = true := by kernel_rfl
@[go_sem] theorem Tryz.bdq : zeroOf Tryz.prog 213 = some [.lit ((Go.Value.nilFunc))] := by kernel_rfl
@[go_sem] theorem Tryz.tsz223 : bg Tryz.prog 223 = some (3, true) := by kernel_rfl
theorem Tryz.atk : Tryz.prog.cellsOf 223 = 3 := by kernel_rfl
@[go_sem] theorem Tryz.bah : (Tryz.prog.underlying 223).isSome = true := by kernel_rfl
@[go_sem] theorem Tryz.a90 : zeroOf Tryz.prog 223 = some [.int .i64 0, .bool false, .int .i64 0] := by kernel_rfl
@[go_sem] theorem Tryz.a1e : lr Tryz.prog 223 = some [.int .i64, .bool, .int .i64] := by kernel_rfl
@[go_sem] theorem Tryz.pl223 : fp Tryz.prog 223 = some [(0, 1), (1, 1), (2, 1)] := by kernel_rfl
@[go_sem] theorem Tryz.a7n : dy Tryz.prog 223 0 = some (0, 1, false) := by kernel_rfl
@[go_sem] theorem Tryz.bcr : dy Tryz.prog 223 1 = some (1, 1, false) := by kernel_rfl
@[go_sem] theorem Tryz.a78 : dy Tryz.prog 223 2 = some (2, 1, false) := by kernel_rfl
@[go_sem] theorem Tryz.tsz225 : bg Tryz.prog 225 = some (5, true) := by kernel_rfl
theorem Tryz.asg : Tryz.prog.cellsOf 225 = 5 := by kernel_rfl
@[go_sem] theorem Tryz.a96 : (Tryz.prog.underlying 225).isSome = true := by kernel_rfl
@[go_sem] theorem Tryz.baf : zeroOf Tryz.prog 225 = some [.int .i64 0, .int .i64 0, .int .i64 0, .int .i64 0, .int .i64 0] := by kernel_rfl
@[go_sem] theorem Tryz.azi : lr Tryz.prog 225 = some [.int .i64, .int .i64, .int .i64, .int .i64, .int .i64] := by kernel_rfl
@[go_sem] theorem Tryz.pl225 : fp Tryz.prog 225 = some [(0, 1), (1, 1), (2, 1), (3, 1), (4, 1)] := by kernel_rfl
@[go_sem] theorem Tryz.bdn : dy Tryz.prog 225 0 = some (0, 1, false) := by kernel_rfl
@[go_sem] theorem Tryz.bbn : dy Tryz.prog 225 1 = some (1, 1, false) := by kernel_rfl
@[go_sem] theorem Tryz.bb2 : dy Tryz.prog 225 2 = some (2, 1, false) := by kernel_rfl
@[go_sem] theorem Tryz.bc9 : dy Tryz.prog 225 3 = some (3, 1, false) := by kernel_rfl
@[go_sem] theorem Tryz.a8l : dy Tryz.prog 225 4 = some (4, 1, false) := by kernel_rfl
@[go_sem] theorem Tryz.tsz228 : bg Tryz.prog 228 = some (1, false) := by kernel_rfl
@[go_sem] theorem Tryz.a8r : (Tryz.prog.underlying 228).isSome = true := by kernel_rfl
@[go_sem] theorem Tryz.a92 : zeroOf Tryz.prog 228 = some [.lit ((Go.Value.pointer none))] := by kernel_rfl
@[go_sem] theorem Tryz.tsz231 : bg Tryz.prog 231 = some (256, true) := by kernel_rfl
@[go_sem] theorem Tryz.bay : (Tryz.prog.underlying 231).isSome = true := by kernel_rfl
@[go_sem] theorem Tryz.ar231 : q7 Tryz.prog 231 = some (256, 1, false) := by kernel_rfl
@[go_sem] theorem Tryz.pl231 : fp Tryz.prog 231 = some [(0, 1), (1, 1), (2, 1), (3, 1), (4, 1), (5, 1), (6, 1), (7, 1), (8, 1), (9, 1), (10, 1), (11, 1), (12, 1), (13, 1), (14, 1), (15, 1), (16, 1), (17, 1), (18, 1), (19, 1), (20, 1), (21, 1), (22, 1), (23, 1), (24, 1), (25, 1), (26, 1), (27, 1), (28, 1), (29, 1), (30, 1), (31, 1), (32, 1), (33, 1), (34, 1), (35, 1), (36, 1), (37, 1), (38, 1), (39, 1), (40, 1), (41, 1), (42, 1), (43, 1), (44, 1), (45, 1), (46, 1), (47, 1), (48, 1), (49, 1), (50, 1), (51, 1), (52, 1), (53, 1), (54, 1), (55, 1), (56, 1), (57, 1), (58, 1), (59, 1), (60, 1), (61, 1), (62, 1), (63, 1), (64, 1), (65, 1), (66, 1), (67, 1), (68, 1), (69, 1), (70, 1), (71, 1), (72, 1), (73, 1), (74, 1), (75, 1), (76, 1), (77, 1), (78, 1), (79, 1), (80, 1), (81, 1), (82, 1), (83, 1), (84, 1), (85, 1), (86, 1), (87, 1), (88, 1), (89, 1), (90, 1), (91, 1), (92, 1), (93, 1), (94, 1), (95, 1), (96, 1), (97, 1), (98, 1), (99, 1), (100, 1), (101, 1), (102, 1), (103, 1), (104, 1), (105, 1), (106, 1), (107, 1), (108, 1), (109, 1), (110, 1), (111, 1), (112, 1), (113, 1), (114, 1), (115, 1), (116, 1), (117, 1), (118, 1), (119, 1), (120, 1), (121, 1), (122, 1), (123, 1), (124, 1), (125, 1), (126, 1), (127, 1), (128, 1), (129, 1), (130, 1), (131, 1), (132, 1), (133, 1), (134, 1), (135, 1), (136, 1), (137, 1), (138, 1), (139, 1), (140, 1), (141, 1), (142, 1), (143, 1), (144, 1), (145, 1), (146, 1), (147, 1), (148, 1), (149, 1), (150, 1), (151, 1), (152, 1), (153, 1), (154, 1), (155, 1), (156, 1), (157, 1), (158, 1), (159, 1), (160, 1), (161, 1), (162, 1), (163, 1), (164, 1), (165, 1), (166, 1), (167, 1), (168, 1), (169, 1), (170, 1), (171, 1), (172, 1), (173, 1), (174, 1), (175, 1), (176, 1), (177, 1), (178, 1), (179, 1), (180, 1), (181, 1), (182, 1), (183, 1), (184, 1), (185, 1), (186, 1), (187, 1), (188, 1), (189, 1), (190, 1), (191, 1), (192, 1), (193, 1), (194, 1), (195, 1), (196, 1), (197, 1), (198, 1), (199, 1), (200, 1), (201, 1), (202, 1), (203, 1), (204, 1), (205, 1), (206, 1), (207, 1), (208, 1), (209, 1), (210, 1), (211, 1), (212, 1), (213, 1), (214, 1), (215, 1), (216, 1), (217, 1), (218, 1), (219, 1), (220, 1), (221, 1), (222, 1), (223, 1), (224, 1), (225, 1), (226, 1), (227, 1), (228, 1), (229, 1), (230, 1), (231, 1), (232, 1), (233, 1), (234, 1), (235, 1), (236, 1), (237, 1), (238, 1), (239, 1), (240, 1), (241, 1), (242, 1), (243, 1), (244, 1), (245, 1), (246, 1), (247, 1), (248, 1), (249, 1), (250, 1), (251, 1), (252, 1), (253, 1), (254, 1), (255, 1)] := by kernel_rfl
@[go_sem] theorem Tryz.tsz232 : bg Tryz.prog 232 = some (2, true) := by kernel_rfl
@[go_sem] theorem Tryz.bbr : (Tryz.prog.underlying 232).isSome = true := by kernel_rfl
@[go_sem] theorem Tryz.a99 : zeroOf Tryz.prog 232 = some [.int .u8 0, .int .u8 0] := by kernel_rfl
@[go_sem] theorem Tryz.pl232 : fp Tryz.prog 232 = some [(0, 1), (1, 1)] := by kernel_rfl
@[go_sem] theorem Tryz.tsz233 : bg Tryz.prog 233 = some (2, true) := by kernel_rfl
@[go_sem] theorem Tryz.bcv : (Tryz.prog.underlying 233).isSome = true := by kernel_rfl
@[go_sem] theorem Tryz.a8m : zeroOf Tryz.prog 233 = some [.int .u8 0, .int .u8 0] := by kernel_rfl
@[go_sem] theorem Tryz.pl233 : fp Tryz.prog 233 = some [(0, 1), (1, 1)] := by kernel_rfl
@[go_sem] theorem Tryz.bdm : dy Tryz.prog 233 0 = some (0, 1, false) := by kernel_rfl
@[go_sem] theorem Tryz.bcy : dy Tryz.prog 233 1 = some (1, 1, false) := by kernel_rfl
@[go_sem] theorem Tryz.tsz234 : bg Tryz.prog 234 = some (32, true) := by kernel_rfl
@[go_sem] theorem Tryz.a9f : (Tryz.prog.underlying 234).isSome = true := by kernel_rfl
@[go_sem] theorem Tryz.a98 : zeroOf Tryz.prog 234 = some [.int .u8 0, .int .u8 0, .int .u8 0, .int .u8 0, .int .u8 0, .int .u8 0, .int .u8 0, .int .u8 0, .int .u8 0, .int .u8 0, .int .u8 0, .int .u8 0, .int .u8 0, .int .u8 0, .int .u8 0, .int .u8 0, .int .u8 0, .int .u8 0, .int .u8 0, .int .u8 0, .int .u8 0, .int .u8 0, .int .u8 0, .int .u8 0, .int .u8 0, .int .u8 0, .int .u8 0, .int .u8 0, .int .u8 0, .int .u8 0, .int .u8 0, .int .u8 0] := by kernel_rfl
@[go_sem] theorem Tryz.ar234 : q7 Tryz.prog 234 = some (16, 2, true) := by kernel_rfl
@[go_sem] theorem Tryz.pl234 : fp Tryz.prog 234 = some [(0, 2), (2, 2), (4, 2), (6, 2), (8, 2), (10, 2), (12, 2), (14, 2), (16, 2), (18, 2), (20, 2), (22, 2), (24, 2), (26, 2), (28, 2), (30, 2)] := by kernel_rfl
@[go_sem] theorem Tryz.tsz235 : bg Tryz.prog 235 = some (1, false) := by kernel_rfl
@[go_sem] theorem Tryz.bb7 : (Tryz.prog.underlying 235).isSome = true := by kernel_rfl
@[go_sem] theorem Tryz.a7j : zeroOf Tryz.prog 235 = some [.int .i64 0] := by kernel_rfl
@[go_sem] theorem Tryz.a4b : gk Tryz.prog 235 = some .i64 := by kernel_rfl
@[go_sem] theorem Tryz.tsz238 : bg Tryz.prog 238 = some (1, false) := by kernel_rfl
@[go_sem] theorem Tryz.a7x : (Tryz.prog.underlying 238).isSome = true := by kernel_rfl
@[go_sem] theorem Tryz.a97 : zeroOf Tryz.prog 238 = some [.lit ((Go.Value.pointer none))] := by kernel_rfl
@[go_sem] theorem Tryz.tsz246 : bg Tryz.prog 246 = some (256, true) := by kernel_rfl
@[go_sem] theorem Tryz.bcq : (Tryz.prog.underlying 246).isSome = true := by kernel_rfl
@[go_sem] theorem Tryz.ar246 : q7 Tryz.prog 246 = some (256, 1, false) := by kernel_rfl
@[go_sem] theorem Tryz.pl246 : fp Tryz.prog 246 = some [(0, 1), (1, 1), (2, 1), (3, 1), (4, 1), (5, 1), (6, 1), (7, 1), (8, 1), (9, 1), (10, 1), (11, 1), (12, 1), (13, 1), (14, 1), (15, 1), (16, 1), (17, 1), (18, 1), (19, 1), (20, 1), (21, 1), (22, 1), (23, 1), (24, 1), (25, 1), (26, 1), (27, 1), (28, 1), (29, 1), (30, 1), (31, 1), (32, 1), (33, 1), (34, 1), (35, 1), (36, 1), (37, 1), (38, 1), (39, 1), (40, 1), (41, 1), (42, 1), (43, 1), (44, 1), (45, 1), (46, 1), (47, 1), (48, 1), (49, 1), (50, 1), (51, 1), (52, 1), (53, 1), (54, 1), (55, 1), (56, 1), (57, 1), (58, 1), (59, 1), (60, 1), (61, 1), (62, 1), (63, 1), (64, 1), (65, 1), (66, 1), (67, 1), (68, 1), (69, 1), (70, 1), (71, 1), (72, 1), (73, 1), (74, 1), (75, 1), (76, 1), (77, 1), (78, 1), (79, 1), (80, 1), (81, 1), (82, 1), (83, 1), (84, 1), (85, 1), (86, 1), (87, 1), (88, 1), (89, 1), (90, 1), (91, 1), (92, 1), (93, 1), (94, 1), (95, 1), (96, 1), (97, 1), (98, 1), (99, 1), (100, 1), (101, 1), (102, 1), (103, 1), (104, 1), (105, 1), (106, 1), (107, 1), (108, 1), (109, 1), (110, 1), (111, 1), (112, 1), (113, 1), (114, 1), (115, 1), (116, 1), (117, 1), (118, 1), (119, 1), (120, 1), (121, 1), (122, 1), (123, 1), (124, 1), (125, 1), (126, 1), (127, 1), (128, 1), (129, 1), (130, 1), (131, 1), (132, 1), (133, 1), (134, 1), (135, 1), (136, 1), (137, 1), (138, 1), (139, 1), (140, 1), (141, 1), (142, 1), (143, 1), (144, 1), (145, 1), (146, 1), (147, 1), (148, 1), (149, 1), (150, 1), (151, 1), (152, 1), (153, 1), (154, 1), (155, 1), (156, 1), (157, 1), (158, 1), (159, 1), (160, 1), (161, 1), (162, 1), (163, 1), (164, 1), (165, 1), (166, 1), (167, 1), (168, 1), (169, 1), (170, 1), (171, 1), (172, 1), (173, 1), (174, 1), (175, 1), (176, 1), (177, 1), (178, 1), (179, 1), (180, 1), (181, 1), (182, 1), (183, 1), (184, 1), (185, 1), (186, 1), (187, 1), (188, 1), (189, 1), (190, 1), (191, 1), (192, 1), (193, 1), (194, 1), (195, 1), (196, 1), (197, 1), (198, 1), (199, 1), (200, 1), (201, 1), (202, 1), (203, 1), (204, 1), (205, 1), (206, 1), (207, 1), (208, 1), (209, 1), (210, 1), (211, 1), (212, 1), (213, 1), (214, 1), (215, 1), (216, 1), (217, 1), (218, 1), (219, 1), (220, 1), (221, 1), (222, 1), (223, 1), (224, 1), (225, 1), (226, 1), (227, 1), (228, 1), (229, 1), (230, 1), (231, 1), (232, 1), (233, 1), (234, 1), (235, 1), (236, 1), (237, 1), (238, 1), (239, 1), (240, 1), (241, 1), (242, 1), (243, 1), (244, 1), (245, 1), (246, 1), (247, 1), (248, 1), (249, 1), (250, 1), (251, 1), (252, 1), (253, 1), (254, 1), (255, 1)] := by kernel_rfl
@[go_sem] theorem Tryz.tsz247 : bg Tryz.prog 247 = some (256, true) := by kernel_rfl
@[go_sem] theorem Tryz.a79 : (Tryz.prog.underlying 247).isSome = true := by kernel_rfl
@[go_sem] theorem Tryz.ar247 : q7 Tryz.prog 247 = some (256, 1, false) := by kernel_rfl
@[go_sem] theorem Tryz.pl247 : fp Tryz.prog 247 = some [(0, 1), (1, 1), (2, 1), (3, 1), (4, 1), (5, 1), (6, 1), (7, 1), (8, 1), (9, 1), (10, 1), (11, 1), (12, 1), (13, 1), (14, 1), (15, 1), (16, 1), (17, 1), (18, 1), (19, 1), (20, 1), (21, 1), (22, 1), (23, 1), (24, 1), (25, 1), (26, 1), (27, 1), (28, 1), (29, 1), (30, 1), (31, 1), (32, 1), (33, 1), (34, 1), (35, 1), (36, 1), (37, 1), (38, 1), (39, 1), (40, 1), (41, 1), (42, 1), (43, 1), (44, 1), (45, 1), (46, 1), (47, 1), (48, 1), (49, 1), (50, 1), (51, 1), (52, 1), (53, 1), (54, 1), (55, 1), (56, 1), (57, 1), (58, 1), (59, 1), (60, 1), (61, 1), (62, 1), (63, 1), (64, 1), (65, 1), (66, 1), (67, 1), (68, 1), (69, 1), (70, 1), (71, 1), (72, 1), (73, 1), (74, 1), (75, 1), (76, 1), (77, 1), (78, 1), (79, 1), (80, 1), (81, 1), (82, 1), (83, 1), (84, 1), (85, 1), (86, 1), (87, 1), (88, 1), (89, 1), (90, 1), (91, 1), (92, 1), (93, 1), (94, 1), (95, 1), (96, 1), (97, 1), (98, 1), (99, 1), (100, 1), (101, 1), (102, 1), (103, 1), (104, 1), (105, 1), (106, 1), (107, 1), (108, 1), (109, 1), (110, 1), (111, 1), (112, 1), (113, 1), (114, 1), (115, 1), (116, 1), (117, 1), (118, 1), (119, 1), (120, 1), (121, 1), (122, 1), (123, 1), (124, 1), (125, 1), (126, 1), (127, 1), (128, 1), (129, 1), (130, 1), (131, 1), (132, 1), (133, 1), (134, 1), (135, 1), (136, 1), (137, 1), (138, 1), (139, 1), (140, 1), (141, 1), (142, 1), (143, 1), (144, 1), (145, 1), (146, 1), (147, 1), (148, 1), (149, 1), (150, 1), (151, 1), (152, 1), (153, 1), (154, 1), (155, 1), (156, 1), (157, 1), (158, 1), (159, 1), (160, 1), (161, 1), (162, 1), (163, 1), (164, 1), (165, 1), (166, 1), (167, 1), (168, 1), (169, 1), (170, 1), (171, 1), (172, 1), (173, 1), (174, 1), (175, 1), (176, 1), (177, 1), (178, 1), (179, 1), (180, 1), (181, 1), (182, 1), (183, 1), (184, 1), (185, 1), (186, 1), (187, 1), (188, 1), (189, 1), (190, 1), (191, 1), (192, 1), (193, 1), (194, 1), (195, 1), (196, 1), (197, 1), (198, 1), (199, 1), (200, 1), (201, 1), (202, 1), (203, 1), (204, 1), (205, 1), (206, 1), (207, 1), (208, 1), (209, 1), (210, 1), (211, 1), (212, 1), (213, 1), (214, 1), (215, 1), (216, 1), (217, 1), (218, 1), (219, 1), (220, 1), (221, 1), (222, 1), (223, 1), (224, 1), (225, 1), (226, 1), (227, 1), (228, 1), (229, 1), (230, 1), (231, 1), (232, 1), (233, 1), (234, 1), (235, 1), (236, 1), (237, 1), (238, 1), (239, 1), (240, 1), (241, 1), (242, 1), (243, 1), (244, 1), (245, 1), (246, 1), (247, 1), (248, 1), (249, 1), (250, 1), (251, 1), (252, 1), (253, 1), (254, 1), (255, 1)] := by kernel_rfl
@[go_sem] theorem Tryz.tsz256 : bg Tryz.prog 256 = some (1, false) := by kernel_rfl
@[go_sem] theorem Tryz.a9y : (Tryz.prog.underlying 256).isSome = true := by kernel_rfl
@[go_sem] theorem Tryz.bdi : zeroOf Tryz.prog 256 = some [.lit ((Go.Value.nilFunc))] := by kernel_rfl
@[go_sem] theorem Tryz.tsz258 : bg Tryz.prog 258 = some (1, false) := by kernel_rfl
@[go_sem] theorem Tryz.a9x : (Tryz.prog.underlying 258).isSome = true := by kernel_rfl
@[go_sem] theorem Tryz.bao : zeroOf Tryz.prog 258 = some [.lit ((Go.Value.nilFunc))] := by kernel_rfl
@[go_sem] theorem Tryz.tsz259 : bg Tryz.prog 259 = some (1, false) := by kernel_rfl
@[go_sem] theorem Tryz.bbo : (Tryz.prog.underlying 259).isSome = true := by kernel_rfl
@[go_sem] theorem Tryz.a9j : zeroOf Tryz.prog 259 = some [.int .u32 0] := by kernel_rfl
@[go_sem] theorem Tryz.a36 : gk Tryz.prog 259 = some .u32 := by kernel_rfl
@[go_sem] theorem Tryz.tsz264 : bg Tryz.prog 264 = some (3, true) := by kernel_rfl
@[go_sem] theorem Tryz.bdg : (Tryz.prog.underlying 264).isSome = true := by kernel_rfl
@[go_sem] theorem Tryz.bca : zeroOf Tryz.prog 264 = some [.str ByteArray.empty, .str ByteArray.empty, .lit ((Go.Value.nilIface))] := by kernel_rfl
@[go_sem] theorem Tryz.pl264 : fp Tryz.prog 264 = some [(0, 1), (1, 1), (2, 1)] := by kernel_rfl
@[go_sem] theorem Tryz.tsz265 : bg Tryz.prog 265 = some (3, true) := by kernel_rfl
@[go_sem] theorem Tryz.bbd : (Tryz.prog.underlying 265).isSome = true := by kernel_rfl
@[go_sem] theorem Tryz.bbg : zeroOf Tryz.prog 265 = some [.str ByteArray.empty, .str ByteArray.empty, .lit ((Go.Value.nilIface))] := by kernel_rfl
@[go_sem] theorem Tryz.pl265 : fp Tryz.prog 265 = some [(0, 1), (1, 1), (2, 1)] := by kernel_rfl
@[go_sem] theorem Tryz.tsz267 : bg Tryz.prog 267 = some (24, true) := by kernel_rfl
@[go_sem] theorem Tryz.bd0 : (Tryz.prog.underlying 267).isSome = true := by kernel_rfl
@[go_sem] theorem Tryz.a8k : zeroOf Tryz.prog 267 = some [.int .u8 0, .int .u8 0, .int .u8 0, .int .u8 0, .int .u8 0, .int .u8 0, .int .u8 0, .int .u8 0, .int .u8 0, .int .u8 0, .int .u8 0, .int .u8 0, .int .u8 0, .int .u8 0, .int .u8 0, .int .u8 0, .int .u8 0, .int .u8 0, .int .u8 0, .int .u8 0, .int .u8 0, .int .u8 0, .int .u8 0, .int .u8 0] := by kernel_rfl
@[go_sem] theorem Tryz.ar267 : q7 Tryz.prog 267 = some (24, 1, false) := by kernel_rfl
@[go_sem] theorem Tryz.pl267 : fp Tryz.prog 267 = some [(0, 1), (1, 1), (2, 1), (3, 1), (4, 1), (5, 1), (6, 1), (7, 1), (8, 1), (9, 1), (10, 1), (11, 1), (12, 1), (13, 1), (14, 1), (15, 1), (16, 1), (17, 1), (18, 1), (19, 1), (20, 1), (21, 1), (22, 1), (23, 1)] := by kernel_rfl
@[go_sem] theorem Tryz.tsz277 : bg Tryz.prog 277 = some (1, false) := by kernel_rfl
@[go_sem] theorem Tryz.a7v : (Tryz.prog.underlying 277).isSome = true := by kernel_rfl
@[go_sem] theorem Tryz.a68 : zeroOf Tryz.prog 277 = some [.lit ((Go.Value.pointer none))] := by kernel_rfl
@[go_sem] theorem Tryz.tsz281 : bg Tryz.prog 281 = some (1, false) := by kernel_rfl
@[go_sem] theorem Tryz.baj : (Tryz.prog.underlying 281).isSome = true := by kernel_rfl
@[go_sem] theorem Tryz.bcm : zeroOf Tryz.prog 281 = some [.lit ((Go.Value.pointer none))] := by kernel_rfl
@[go_sem] theorem Tryz.tsz282 : bg Tryz.prog 282 = some (1, true) := by kernel_rfl
@[go_sem] theorem Tryz.bbb : (Tryz.prog.underlying 282).isSome = true := by kernel_rfl
@[go_sem] theorem Tryz.bcl : zeroOf Tryz.prog 282 = some [.str ByteArray.empty] := by kernel_rfl
@[go_sem] theorem Tryz.pl282 : fp Tryz.prog 282 = some [(0, 1)] := by kernel_rfl
@[go_sem] theorem Tryz.tsz283 : bg Tryz.prog 283 = some (1, true) := by kernel_rfl
@[go_sem] theorem Tryz.bck : (Tryz.prog.underlying 283).isSome = true := by kernel_rfl
@[go_sem] theorem Tryz.a9t : zeroOf Tryz.prog 283 = some [.str ByteArray.empty] := by kernel_rfl
@[go_sem] theorem Tryz.pl283 : fp Tryz.prog 283 = some [(0, 1)] := by kernel_rfl
@[go_sem] theorem Tryz.tsz285 : bg Tryz.prog 285 = some (20, true) := by kernel_rfl
@[go_sem] theorem Tryz.a9o : (Tryz.prog.underlying 285).isSome = true := by kernel_rfl
@[go_sem] theorem Tryz.bdj : zeroOf Tryz.prog 285 = some [.int .u64 0, .int .u64 0, .int .u64 0, .int .u64 0, .int .u64 0, .int .u64 0, .int .u64 0, .int .u64 0, .int .u64 0, .int .u64 0, .int .u64 0, .int .u64 0, .int .u64 0, .int .u64 0, .int .u64 0, .int .u64 0, .int .u64 0, .int .u64 0, .int .u64 0, .int .u64 0] := by kernel_rfl
@[go_sem] theorem Tryz.ar285 : q7 Tryz.prog 285 = some (20, 1, false) := by kernel_rfl
@[go_sem] theorem Tryz.pl285 : fp Tryz.prog 285 = some [(0, 1), (1, 1), (2, 1), (3, 1), (4, 1), (5, 1), (6, 1), (7, 1), (8, 1), (9, 1), (10, 1), (11, 1), (12, 1), (13, 1), (14, 1), (15, 1), (16, 1), (17, 1), (18, 1), (19, 1)] := by kernel_rfl
@[go_sem] theorem Tryz.tsz286 : bg Tryz.prog 286 = some (65, true) := by kernel_rfl
@[go_sem] theorem Tryz.bdd : (Tryz.prog.underlying 286).isSome = true := by kernel_rfl
@[go_sem] theorem Tryz.ar286 : q7 Tryz.prog 286 = some (65, 1, false) := by kernel_rfl
@[go_sem] theorem Tryz.pl286 : fp Tryz.prog 286 = some [(0, 1), (1, 1), (2, 1), (3, 1), (4, 1), (5, 1), (6, 1), (7, 1), (8, 1), (9, 1), (10, 1), (11, 1), (12, 1), (13, 1), (14, 1), (15, 1), (16, 1), (17, 1), (18, 1), (19, 1), (20, 1), (21, 1), (22, 1), (23, 1), (24, 1), (25, 1), (26, 1), (27, 1), (28, 1), (29, 1), (30, 1), (31, 1), (32, 1), (33, 1), (34, 1), (35, 1), (36, 1), (37, 1), (38, 1), (39, 1), (40, 1), (41, 1), (42, 1), (43, 1), (44, 1), (45, 1), (46, 1), (47, 1), (48, 1), (49, 1), (50, 1), (51, 1), (52, 1), (53, 1), (54, 1), (55, 1), (56, 1), (57, 1), (58, 1), (59, 1), (60, 1), (61, 1), (62, 1), (63, 1), (64, 1)] := by kernel_rfl
@[go_sem] theorem Tryz.tsz289 : bg Tryz.prog 289 = some (1, false) := by kernel_rfl
@[go_sem] theorem Tryz.a94 : (Tryz.prog.underlying 289).isSome = true := by kernel_rfl
@[go_sem] theorem Tryz.a9e : zeroOf Tryz.prog 289 = some [.lit ((Go.Value.pointer none))] := by kernel_rfl
@[go_sem] theorem Tryz.tsz290 : bg Tryz.prog 290 = some (1, false) := by kernel_rfl
@[go_sem] theorem Tryz.a9i : (Tryz.prog.underlying 290).isSome = true := by kernel_rfl
@[go_sem] theorem Tryz.a7c : zeroOf Tryz.prog 290 = some [.lit ((Go.Value.pointer none))] := by kernel_rfl
@[go_sem] theorem Tryz.tsz295 : bg Tryz.prog 295 = some (32, true) := by kernel_rfl
@[go_sem] theorem Tryz.a8v : (Tryz.prog.underlying 295).isSome = true := by kernel_rfl
@[go_sem] theorem Tryz.ba7 : zeroOf Tryz.prog 295 = some [.int .u8 0, .int .u8 0, .int .u8 0, .int .u8 0, .int .u8 0, .int .u8 0, .int .u8 0, .int .u8 0, .int .u8 0, .int .u8 0, .int .u8 0, .int .u8 0, .int .u8 0, .int .u8 0, .int .u8 0, .int .u8 0, .int .u8 0, .int .u8 0, .int .u8 0, .int .u8 0, .int .u8 0, .int .u8 0, .int .u8 0, .int .u8 0, .int .u8 0, .int .u8 0, .int .u8 0, .int .u8 0, .int .u8 0, .int .u8 0, .int .u8 0, .int .u8 0] := by kernel_rfl
@[go_sem] theorem Tryz.ar295 : q7 Tryz.prog 295 = some (32, 1, false) := by kernel_rfl
@[go_sem] theorem Tryz.pl295 : fp Tryz.prog 295 = some [(0, 1), (1, 1), (2, 1), (3, 1), (4, 1), (5, 1), (6, 1), (7, 1), (8, 1), (9, 1), (10, 1), (11, 1), (12, 1), (13, 1), (14, 1), (15, 1), (16, 1), (17, 1), (18, 1), (19, 1), (20, 1), (21, 1), (22, 1), (23, 1), (24, 1), (25, 1), (26, 1), (27, 1), (28, 1), (29, 1), (30, 1), (31, 1)] := by kernel_rfl
@[go_sem] theorem Tryz.tsz296 : bg Tryz.prog 296 = some (64, true) := by kernel_rfl
@[go_sem] theorem Tryz.a8t : (Tryz.prog.underlying 296).isSome = true := by kernel_rfl
@[go_sem] theorem Tryz.a74 : zeroOf Tryz.prog 296 = some [.int .u8 0, .int .u8 0, .int .u8 0, .int .u8 0, .int .u8 0, .int .u8 0, .int .u8 0, .int .u8 0, .int .u8 0, .int .u8 0, .int .u8 0, .int .u8 0, .int .u8 0, .int .u8 0, .int .u8 0, .int .u8 0, .int .u8 0, .int .u8 0, .int .u8 0, .int .u8 0, .int .u8 0, .int .u8 0, .int .u8 0, .int .u8 0, .int .u8 0, .int .u8 0, .int .u8 0, .int .u8 0, .int .u8 0, .int .u8 0, .int .u8 0, .int .u8 0, .int .u8 0, .int .u8 0, .int .u8 0, .int .u8 0, .int .u8 0, .int .u8 0, .int .u8 0, .int .u8 0, .int .u8 0, .int .u8 0, .int .u8 0, .int .u8 0, .int .u8 0, .int .u8 0, .int .u8 0, .int .u8 0, .int .u8 0, .int .u8 0, .int .u8 0, .int .u8 0, .int .u8 0, .int .u8 0, .int .u8 0, .int .u8 0, .int .u8 0, .int .u8 0, .int .u8 0, .int .u8 0, .int .u8 0, .int .u8 0, .int .u8 0, .int .u8 0] := by kernel_rfl
@[go_sem] theorem Tryz.ar296 : q7 Tryz.prog 296 = some (64, 1, false) := by kernel_rfl
@[go_sem] theorem Tryz.pl296 : fp Tryz.prog 296 = some [(0, 1), (1, 1), (2, 1), (3, 1), (4, 1), (5, 1), (6, 1), (7, 1), (8, 1), (9, 1), (10, 1), (11, 1), (12, 1), (13, 1), (14, 1), (15, 1), (16, 1), (17, 1), (18, 1), (19, 1), (20, 1), (21, 1), (22, 1), (23, 1), (24, 1), (25, 1), (26, 1), (27, 1), (28, 1), (29, 1), (30, 1), (31, 1), (32, 1), (33, 1), (34, 1), (35, 1), (36, 1), (37, 1), (38, 1), (39, 1), (40, 1), (41, 1), (42, 1), (43, 1), (44, 1), (45, 1), (46, 1), (47, 1), (48, 1), (49, 1), (50, 1), (51, 1), (52, 1), (53, 1), (54, 1), (55, 1), (56, 1), (57, 1), (58, 1), (59, 1), (60, 1), (61, 1), (62, 1), (63, 1)] := by kernel_rfl
@[go_sem] theorem Tryz.tsz299 : bg Tryz.prog 299 = some (0, true) := by kernel_rfl
@[go_sem] theorem Tryz.a7o : (Tryz.prog.underlying 299).isSome = true := by kernel_rfl
@[go_sem] theorem Tryz.baq : zeroOf Tryz.prog 299 = some [] := by kernel_rfl
@[go_sem] theorem Tryz.ar299 : q7 Tryz.prog 299 = some (0, 1, false) := by kernel_rfl
@[go_sem] theorem Tryz.pl299 : fp Tryz.prog 299 = some [] := by kernel_rfl
@[go_sem] theorem Tryz.tsz300 : bg Tryz.prog 300 = some (0, true) := by kernel_rfl
@[go_sem] theorem Tryz.bam : (Tryz.prog.underlying 300).isSome = true := by kernel_rfl
@[go_sem] theorem Tryz.a82 : zeroOf Tryz.prog 300 = some [] := by kernel_rfl
@[go_sem] theorem Tryz.pl300 : fp Tryz.prog 300 = some [(0, 0)] := by kernel_rfl
@[go_sem] theorem Tryz.tsz301 : bg Tryz.prog 301 = some (0, true) := by kernel_rfl
@[go_sem] theorem Tryz.ba5 : (Tryz.prog.underlying 301).isSome = true := by kernel_rfl
@[go_sem] theorem Tryz.ba8 : zeroOf Tryz.prog 301 = some [] := by kernel_rfl
@[go_sem] theorem Tryz.pl301 : fp Tryz.prog 301 = some [(0, 0)] := by kernel_rfl
@[go_sem] theorem Tryz.tsz302 : bg Tryz.prog 302 = some (1, false) := by kernel_rfl
@[go_sem] theorem Tryz.bcb : (Tryz.prog.underlying 302).isSome = true := by kernel_rfl
@[go_sem] theorem Tryz.a65 : zeroOf Tryz.prog 302 = some [.int .u8 0] := by kernel_rfl
@[go_sem] theorem Tryz.a2w : gk Tryz.prog 302 = some .u8 := by kernel_rfl
@[go_sem] theorem Tryz.tsz303 : bg Tryz.prog 303 = some (1, false) := by kernel_rfl
@[go_sem] theorem Tryz.a89 : (Tryz.prog.underlying 303).isSome = true := by kernel_rfl
@[go_sem] theorem Tryz.bdf : zeroOf Tryz.prog 303 = some [.int .u8 0] := by kernel_rfl
@[go_sem] theorem Tryz.a2x : gk Tryz.prog 303 = some .u8 := by kernel_rfl
@[go_sem] theorem Tryz.tsz304 : bg Tryz.prog 304 = some (1, false) := by kernel_rfl
@[go_sem] theorem Tryz.a7s : (Tryz.prog.underlying 304).isSome = true := by kernel_rfl
@[go_sem] theorem Tryz.bcj : zeroOf Tryz.prog 304 = some [.lit ((Go.Value.nilFunc))] := by kernel_rfl
@[go_sem] theorem Tryz.tsz305 : bg Tryz.prog 305 = some (1, false) := by kernel_rfl
@[go_sem] theorem Tryz.bap : (Tryz.prog.underlying 305).isSome = true := by kernel_rfl
@[go_sem] theorem Tryz.a7e : zeroOf Tryz.prog 305 = some [.int .i32 0] := by kernel_rfl
@[go_sem] theorem Tryz.a6w : gk Tryz.prog 305 = some .i32 := by kernel_rfl
@[go_sem] theorem Tryz.tsz306 : bg Tryz.prog 306 = some (1, false) := by kernel_rfl
@[go_sem] theorem Tryz.a9p : (Tryz.prog.underlying 306).isSome = true := by kernel_rfl
@[go_sem] theorem Tryz.bab : zeroOf Tryz.prog 306 = some [.int .i32 0] := by kernel_rfl
@[go_sem] theorem Tryz.a6p : gk Tryz.prog 306 = some .i32 := by kernel_rfl
@[go_sem] theorem Tryz.tsz307 : bg Tryz.prog 307 = some (11, true) := by kernel_rfl
@[go_sem] theorem Tryz.bdy : (Tryz.prog.underlying 307).isSome = true := by kernel_rfl
@[go_sem] theorem Tryz.ba3 : zeroOf Tryz.prog 307 = some [.int .u64 0, .int .u64 0, .int .u32 0, .int .u8 0, .int .u8 0, .int .u8 0, .int .u8 0, .lit ((Go.Value.nilFunc)), .lit ((Go.Value.pointer none)), .int .i32 0, .int .i32 0] := by kernel_rfl
@[go_sem] theorem Tryz.pl307 : fp Tryz.prog 307 = some [(0, 1), (1, 1), (2, 1), (3, 1), (4, 1), (5, 1), (6, 1), (7, 1), (8, 1), (9, 1), (10, 1)] := by kernel_rfl
@[go_sem] theorem Tryz.tsz308 : bg Tryz.prog 308 = some (11, true) := by kernel_rfl
@[go_sem] theorem Tryz.a7r : (Tryz.prog.underlying 308).isSome = true := by kernel_rfl
@[go_sem] theorem Tryz.bdc : zeroOf Tryz.prog 308 = some [.int .u64 0, .int .u64 0, .int .u32 0, .int .u8 0, .int .u8 0, .int .u8 0, .int .u8 0, .lit ((Go.Value.nilFunc)), .lit ((Go.Value.pointer none)), .int .i32 0, .int .i32 0] := by kernel_rfl
@[go_sem] theorem Tryz.pl308 : fp Tryz.prog 308 = some [(0, 1), (1, 1), (2, 1), (3, 1), (4, 1), (5, 1), (6, 1), (7, 1), (8, 1), (9, 1), (10, 1)] := by kernel_rfl
@[go_sem] theorem Tryz.isPt2 : ja Tryz.prog 2 = false := by kernel_rfl
@[go_sem] theorem Tryz.isPt3 : ja Tryz.prog 3 = false := by kernel_rfl
@[go_sem] theorem Tryz.isPt4 : ja Tryz.prog 4 = false := by kernel_rfl
@[go_sem] theorem Tryz.isPt5 : ja Tryz.prog 5 = false := by kernel_rfl
@[go_sem] theorem Tryz.isPt9 : ja Tryz.prog 9 = false := by kernel_rfl
@[go_sem] theorem Tryz.isPt21 : ja Tryz.prog 21 = false := by kernel_rfl
@[go_sem] theorem Tryz.isPt22 : ja Tryz.prog 22 = false := by kernel_rfl
@[go_sem] theorem Tryz.isPt25 : ja Tryz.prog 25 = false := by kernel_rfl
@[go_sem] theorem Tryz.isPt33 : ja Tryz.prog 33 = false := by kernel_rfl
@[go_sem] theorem Tryz.isPt41 : ja Tryz.prog 41 = false := by kernel_rfl
@[go_sem] theorem Tryz.isPt43 : ja Tryz.prog 43 = false := by kernel_rfl
@[go_sem] theorem Tryz.isPt47 : ja Tryz.prog 47 = false := by kernel_rfl
@[go_sem] theorem Tryz.isPt51 : ja Tryz.prog 51 = false := by kernel_rfl
@[go_sem] theorem Tryz.isPt52 : ja Tryz.prog 52 = false := by kernel_rfl
@[go_sem] theorem Tryz.isPt54 : ja Tryz.prog 54 = false := by kernel_rfl
@[go_sem] theorem Tryz.isPt56 : ja Tryz.prog 56 = false := by kernel_rfl
@[go_sem] theorem Tryz.isPt66 : ja Tryz.prog 66 = false := by kernel_rfl
@[go_sem] theorem Tryz.isPt67 : ja Tryz.prog 67 = false := by kernel_rfl
@[go_sem] theorem Tryz.isPt72 : ja Tryz.prog 72 = false := by kernel_rfl
@[go_sem] theorem Tryz.isPt73 : ja Tryz.prog 73 = false := by kernel_rfl
@[go_sem] theorem Tryz.isPt75 : ja Tryz.prog 75 = false := by kernel_rfl
@[go_sem] theorem Tryz.isPt77 : ja Tryz.prog 77 = false := by kernel_rfl
@[go_sem] theorem Tryz.a7l : ja Tryz.prog 102 = true := by kernel_rfl
@[go_sem] theorem Tryz.bbi : ja Tryz.prog 103 = false := by kernel_rfl
@[go_sem] theorem Tryz.baa : ja Tryz.prog 128 = false := by kernel_rfl
@[go_sem] theorem Tryz.bcd : ja Tryz.prog 143 = true := by kernel_rfl
@[go_sem] theorem Tryz.bbt : ja Tryz.prog 145 = false := by kernel_rfl
@[go_sem] theorem Tryz.a7a : ja Tryz.prog 165 = false := by kernel_rfl
@[go_sem] theorem Tryz.a7z : ja Tryz.prog 169 = true := by kernel_rfl
@[go_sem] theorem Tryz.bdu : ja Tryz.prog 206 = false := by kernel_rfl
@[go_sem] theorem Tryz.bcu : ja Tryz.prog 223 = false := by kernel_rfl
@[go_sem] theorem Tryz.bbp : ja Tryz.prog 225 = false := by kernel_rfl
@[go_sem] theorem Tryz.a8h : ja Tryz.prog 228 = false := by kernel_rfl
@[go_sem] theorem Tryz.bcg : ja Tryz.prog 247 = false := by kernel_rfl
@[go_sem] theorem Tryz.bb5 : ja Tryz.prog 259 = false := by kernel_rfl
theorem Tryz.okF7 : okF Tryz.prog 7 = true := by kernel_rfl
theorem Tryz.ant : okF Tryz.prog 25 = true := by kernel_rfl
theorem Tryz.a5h : okF Tryz.prog 28 = true := by kernel_rfl
theorem Tryz.agm : okF Tryz.prog 33 = true := by kernel_rfl
theorem Tryz.akd : okF Tryz.prog 34 = true := by kernel_rfl
theorem Tryz.a5y : okF Tryz.prog 36 = true := by kernel_rfl
theorem Tryz.am0 : okF Tryz.prog 45 = true := by kernel_rfl
theorem Tryz.a2c : okF Tryz.prog 46 = true := by kernel_rfl
theorem Tryz.a5q : okF Tryz.prog 47 = true := by kernel_rfl
theorem Tryz.a2j : okF Tryz.prog 48 = true := by kernel_rfl
theorem Tryz.a5w : okF Tryz.prog 49 = true := by kernel_rfl
theorem Tryz.a2y : okF Tryz.prog 62 = true := by kernel_rfl
theorem Tryz.a3l : okF Tryz.prog 64 = true := by kernel_rfl
theorem Tryz.a2g : okF Tryz.prog 66 = true := by kernel_rfl
theorem Tryz.a4t : okF Tryz.prog 67 = true := by kernel_rfl
theorem Tryz.a52 : okF Tryz.prog 73 = true := by kernel_rfl
theorem Tryz.a4i : okF Tryz.prog 79 = true := by kernel_rfl
theorem Tryz.a14 : okF Tryz.prog 81 = true := by kernel_rfl
theorem Tryz.at0 : okF Tryz.prog 82 = true := by kernel_rfl
theorem Tryz.a45 : okF Tryz.prog 87 = true := by kernel_rfl
theorem Tryz.a4m : okF Tryz.prog 89 = true := by kernel_rfl
theorem Tryz.a6v : okF Tryz.prog 91 = true := by kernel_rfl
theorem Tryz.a6s : okF Tryz.prog 93 = true := by kernel_rfl
theorem Tryz.a4q : okF Tryz.prog 94 = true := by kernel_rfl
theorem Tryz.asz : okF Tryz.prog 95 = true := by kernel_rfl
theorem Tryz.a17 : okF Tryz.prog 96 = true := by kernel_rfl
theorem Tryz.atm : okF Tryz.prog 97 = true := by kernel_rfl
theorem Tryz.a25 : okF Tryz.prog 98 = true := by kernel_rfl
theorem Tryz.a5s : okF Tryz.prog 99 = true := by kernel_rfl
theorem Tryz.awm : okF Tryz.prog 100 = true := by kernel_rfl
theorem Tryz.axu : okF Tryz.prog 102 = true := by kernel_rfl
theorem Tryz.av4 : okF Tryz.prog 103 = true := by kernel_rfl
theorem Tryz.awv : okF Tryz.prog 104 = true := by kernel_rfl
theorem Tryz.axl : okF Tryz.prog 105 = true := by kernel_rfl
theorem Tryz.aie : okF Tryz.prog 106 = true := by kernel_rfl
theorem Tryz.awp : okF Tryz.prog 107 = true := by kernel_rfl
theorem Tryz.ax7 : okF Tryz.prog 108 = true := by kernel_rfl
theorem Tryz.ave : okF Tryz.prog 109 = true := by kernel_rfl
theorem Tryz.ayw : okF Tryz.prog 110 = true := by kernel_rfl
theorem Tryz.ayh : okF Tryz.prog 111 = true := by kernel_rfl
theorem Tryz.ay0 : okF Tryz.prog 117 = true := by kernel_rfl
theorem Tryz.ay1 : okF Tryz.prog 120 = true := by kernel_rfl
theorem Tryz.aul : okF Tryz.prog 124 = true := by kernel_rfl
theorem Tryz.axq : okF Tryz.prog 134 = true := by kernel_rfl
theorem Tryz.axr : okF Tryz.prog 135 = true := by kernel_rfl
theorem Tryz.aw6 : okF Tryz.prog 138 = true := by kernel_rfl
theorem Tryz.avw : okF Tryz.prog 141 = true := by kernel_rfl
theorem Tryz.au6 : okF Tryz.prog 142 = true := by kernel_rfl
theorem Tryz.aw5 : okF Tryz.prog 143 = true := by kernel_rfl
theorem Tryz.auj : okF Tryz.prog 144 = true := by kernel_rfl
theorem Tryz.ax2 : okF Tryz.prog 145 = true := by kernel_rfl
theorem Tryz.awn : okF Tryz.prog 146 = true := by kernel_rfl
theorem Tryz.ur : okF Tryz.prog 147 = true := by kernel_rfl
theorem Tryz.ta : okF Tryz.prog 148 = true := by kernel_rfl
theorem Tryz.awf : okF Tryz.prog 149 = true := by kernel_rfl
theorem Tryz.yu : okF Tryz.prog 150 = true := by kernel_rfl
theorem Tryz.ayu : okF Tryz.prog 151 = true := by kernel_rfl
theorem Tryz.axx : okF Tryz.prog 152 = true := by kernel_rfl
theorem Tryz.auk : okF Tryz.prog 153 = true := by kernel_rfl
theorem Tryz.awx : okF Tryz.prog 154 = true := by kernel_rfl
theorem Tryz.ayn : okF Tryz.prog 155 = true := by kernel_rfl
theorem Tryz.av7 : okF Tryz.prog 156 = true := by kernel_rfl
theorem Tryz.s6 : okF Tryz.prog 157 = true := by kernel_rfl
theorem Tryz.wu : okF Tryz.prog 158 = true := by kernel_rfl
theorem Tryz.vy : okF Tryz.prog 159 = true := by kernel_rfl
theorem Tryz.ajj : okF Tryz.prog 160 = true := by kernel_rfl
theorem Tryz.aup : okF Tryz.prog 163 = true := by kernel_rfl
theorem Tryz.awt : okF Tryz.prog 164 = true := by kernel_rfl
theorem Tryz.au4 : okF Tryz.prog 165 = true := by kernel_rfl
theorem Tryz.axn : okF Tryz.prog 166 = true := by kernel_rfl
theorem Tryz.aw9 : okF Tryz.prog 167 = true := by kernel_rfl
theorem Tryz.axg : okF Tryz.prog 168 = true := by kernel_rfl
theorem Tryz.axe : okF Tryz.prog 169 = true := by kernel_rfl
theorem Tryz.awe : okF Tryz.prog 170 = true := by kernel_rfl
theorem Tryz.ayv : okF Tryz.prog 171 = true := by kernel_rfl
theorem Tryz.aw3 : okF Tryz.prog 172 = true := by kernel_rfl
theorem Tryz.ayb : okF Tryz.prog 173 = true := by kernel_rfl
theorem Tryz.avu : okF Tryz.prog 174 = true := by kernel_rfl
theorem Tryz.av8 : okF Tryz.prog 175 = true := by kernel_rfl
theorem Tryz.ayj : okF Tryz.prog 176 = true := by kernel_rfl
theorem Tryz.avv : okF Tryz.prog 177 = true := by kernel_rfl
theorem Tryz.awr : okF Tryz.prog 178 = true := by kernel_rfl
theorem Tryz.aye : okF Tryz.prog 179 = true := by kernel_rfl
theorem Tryz.ay7 : okF Tryz.prog 180 = true := by kernel_rfl
theorem Tryz.axz : okF Tryz.prog 181 = true := by kernel_rfl
theorem Tryz.aum : okF Tryz.prog 184 = true := by kernel_rfl
theorem Tryz.awz : okF Tryz.prog 194 = true := by kernel_rfl
theorem Tryz.avs : okF Tryz.prog 195 = true := by kernel_rfl
theorem Tryz.aww : okF Tryz.prog 197 = true := by kernel_rfl
theorem Tryz.ax8 : okF Tryz.prog 199 = true := by kernel_rfl
theorem Tryz.ayy : okF Tryz.prog 200 = true := by kernel_rfl
theorem Tryz.aop : okF Tryz.prog 201 = true := by kernel_rfl
theorem Tryz.axw : okF Tryz.prog 202 = true := by kernel_rfl
theorem Tryz.awl : okF Tryz.prog 203 = true := by kernel_rfl
theorem Tryz.aw4 : okF Tryz.prog 204 = true := by kernel_rfl
theorem Tryz.av5 : okF Tryz.prog 205 = true := by kernel_rfl
theorem Tryz.aug : okF Tryz.prog 206 = true := by kernel_rfl
theorem Tryz.aw7 : okF Tryz.prog 207 = true := by kernel_rfl
theorem Tryz.awh : okF Tryz.prog 208 = true := by kernel_rfl
theorem Tryz.au1 : okF Tryz.prog 209 = true := by kernel_rfl
theorem Tryz.aw8 : okF Tryz.prog 210 = true := by kernel_rfl
theorem Tryz.avh : okF Tryz.prog 211 = true := by kernel_rfl
theorem Tryz.axf : okF Tryz.prog 212 = true := by kernel_rfl
theorem Tryz.au0 : okF Tryz.prog 213 = true := by kernel_rfl
theorem Tryz.av1 : okF Tryz.prog 214 = true := by kernel_rfl
theorem Tryz.aiv : okF Tryz.prog 215 = true := by kernel_rfl
theorem Tryz.avj : okF Tryz.prog 216 = true := by kernel_rfl
theorem Tryz.ayz : okF Tryz.prog 217 = true := by kernel_rfl
theorem Tryz.ayk : okF Tryz.prog 218 = true := by kernel_rfl
theorem Tryz.awa : okF Tryz.prog 219 = true := by kernel_rfl
theorem Tryz.av9 : okF Tryz.prog 220 = true := by kernel_rfl
theorem Tryz.auo : okF Tryz.prog 221 = true := by kernel_rfl
theorem Tryz.wj : okF Tryz.prog 234 = true := by kernel_rfl
theorem Tryz.uq : okF Tryz.prog 235 = true := by kernel_rfl
theorem Tryz.axy : okF Tryz.prog 237 = true := by kernel_rfl
theorem Tryz.wc : okF Tryz.prog 242 = true := by kernel_rfl
theorem Tryz.ug : okF Tryz.prog 243 = true := by kernel_rfl
theorem Tryz.awi : okF Tryz.prog 244 = true := by kernel_rfl
theorem Tryz.ax4 : okF Tryz.prog 245 = true := by kernel_rfl
theorem Tryz.ay3 : okF Tryz.prog 246 = true := by kernel_rfl
theorem Tryz.aw1 : okF Tryz.prog 247 = true := by kernel_rfl
theorem Tryz.axm : okF Tryz.prog 248 = true := by kernel_rfl
theorem Tryz.avk : okF Tryz.prog 249 = true := by kernel_rfl
theorem Tryz.ax9 : okF Tryz.prog 250 = true := by kernel_rfl
theorem Tryz.avl : okF Tryz.prog 251 = true := by kernel_rfl
theorem Tryz.au3 : okF Tryz.prog 252 = true := by kernel_rfl
theorem Tryz.ayi : okF Tryz.prog 253 = true := by kernel_rfl
theorem Tryz.avt : okF Tryz.prog 254 = true := by kernel_rfl
theorem Tryz.axa : okF Tryz.prog 264 = true := by kernel_rfl
theorem Tryz.awo : okF Tryz.prog 265 = true := by kernel_rfl
theorem Tryz.avy : okF Tryz.prog 266 = true := by kernel_rfl
theorem Tryz.awu : okF Tryz.prog 267 = true := by kernel_rfl
theorem Tryz.ah7 : okF Tryz.prog 268 = true := by kernel_rfl
theorem Tryz.ax5 : okF Tryz.prog 271 = true := by kernel_rfl
theorem Tryz.afr : okF Tryz.prog 272 = true := by kernel_rfl
theorem Tryz.auy : okF Tryz.prog 273 = true := by kernel_rfl
theorem Tryz.au8 : okF Tryz.prog 274 = true := by kernel_rfl
theorem Tryz.ayr : okF Tryz.prog 282 = true := by kernel_rfl
theorem Tryz.awd : okF Tryz.prog 283 = true := by kernel_rfl
theorem Tryz.axs : okF Tryz.prog 285 = true := by kernel_rfl
end Go.Proofs
end
section
set_option maxRecDepth 100000
namespace Go.Proofs
open Go.Lv
def ed (n a b : Int) : Bool := decide (a ≤ n) && decide (n ≤ b)
theorem fe {n a b : Int} : ed n a b = true ↔ a ≤ n ∧ n ≤ b := by simp [ed]
theorem jt (n a b : Int) : Ctr Tryz.prog 64 [.int .i64 n, .int .i64 a, .int .i64 b] [] (.bool (ed n a b)) [] := by
 refine Ctr.intro Tryz.mixed Tryz.func64 rfl Tryz.a3l ?_
 simp -implicitDefEqProofs -dsimp only [go_sem, Tryz.ntmps64, Tryz.results64]
 refine ax.bq (fun h1 => ?_) (fun h1 => ?_) <;> simp -implicitDefEqProofs -dsimp only [go_sem, h1]
 · exact aj.of_eq (by simp [ed, h1])
 · exact aj.of_eq (by simp [ed, h1])
theorem fa (n a b : Int) : Ctr Tryz.prog 120 [.int .i64 n, .int .i64 a, .int .i64 b] [] (.bool (ed n a b)) [] := by
 refine Ctr.intro Tryz.mixed Tryz.func120 rfl Tryz.ay1 ?_
 simp -implicitDefEqProofs -dsimp only [go_sem, Tryz.ntmps120, Tryz.results120]
 refine ax.bq (fun h1 => ?_) (fun h1 => ?_) <;> simp -implicitDefEqProofs -dsimp only [go_sem, h1]
 · exact aj.of_eq (by simp [ed, h1])
 · exact aj.of_eq (by simp [ed, h1])
theorem zu {α : Type} {p : α → Bool} {k : α → Int} {m : Nat} {L : List α} (h : ib p k m L = true) : (∀ x ∈ L, p x = true) ∧ L.length ≤ m := by
 simp only [ib, Bool.and_eq_true, decide_eq_true_eq, List.all_eq_true, List.mem_range] at h
 refine ⟨fun x hx => ?_, h.2⟩
 obtain ⟨i, hi, rfl⟩ := List.getElem_of_mem hx
 have := h.1 i hi
 simp only [fj, List.getElem?_eq_getElem hi, Bool.and_eq_true] at this
 exact this.1
theorem abg {α : Type} {p : α → Bool} {k : α → Int} {m : Nat} {L : List α} (h : ib p k m L = true) : (L.map k).Pairwise (· < ·) := by
 simp only [ib, Bool.and_eq_true, List.all_eq_true, List.mem_range] at h
 have adj : ∀ j, (hj : j + 1 < L.length) → k (L[j]'(by omega)) < k L[j + 1] := by
  intro j hj
  have := h.1 (j + 1) hj
  rw [fu hj] at this
  simp at this
  exact this.2
 rw [List.pairwise_iff_getElem]
 intro i j hi hj hij
 simp only [List.length_map] at hi hj
 simp only [List.getElem_map]
 induction j with
 | zero => omega
 | succ j ih =>
  have h1 := adj j hj
  rcases Nat.lt_succ_iff_lt_or_eq.1 hij with h2 | h2
  · have := ih (by simpa using (by omega : j < L.length)) h2 (by omega)
    omega
  · subst h2; exact h1
end Go.Proofs
end
section
set_option maxRecDepth 100000
namespace Go.Proofs
open Go.Lv
structure az where
 Command : ByteArray
 Reply : ByteArray
def az.cs (r : az) : List V := [.str r.Command, .str r.Reply]
def az.v (r : az) : V := .agg [.str r.Command, .str r.Reply]
theorem az.csl (a : az) : a.cs.length = 2 := rfl
theorem az.csp (a : az) : a.cs.all (cb 2) = true := rfl
instance : pn az.cs 2 := ⟨fun _ => rfl, fun _ d => by cases d <;> rfl, fun _ => rfl, fun _ => rfl⟩
def az.ok (r : az) : Prop := agp r.Command ∧ agp r.Reply
abbrev az.rows (L : List az) : List V := Go.Lv.rows az.cs L
abbrev az.sl (L : List az) : V := .sl L.length 2 (Go.Lv.rows az.cs L)
abbrev az.zs : List V := [.str ByteArray.empty, .str ByteArray.empty]
end Go.Proofs
end
