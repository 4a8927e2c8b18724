/-
  A part of the proof: texts put together by a program of the prover. Conditions: none.
-/
import Derived.Test.YtfdikfpnkgglkaaDoorZParseQuake3
import Derived.Test.YtfdikfpnkgglkaaDoorZParseQuake4
import Derived.Test.YtfdikfpnkgglkaaDoorZParseQuake6
import Derived.Test.YtfdikfpnkgglkaaDoorZParseQuake7
import Derived.WalkKit
import Derived.ProofKit
import Derived.Deep.Slices
set_option linter.unusedSimpArgs false
set_option linter.unusedVariables false
section
set_option maxRecDepth 100000
set_option maxHeartbeats 4000000
namespace Go.Proofs
open Go.Lv Go.RowKit
theorem two_str {w : World} {m : Nat → Nat} {h : Hp} {av : Nat → Prop} {vs : Array Value} {s t : ByteArray} (hsz : vs.size = [V.str s, V.str t].length)
   (ha : ∀ i (hi : i < [V.str s, V.str t].length), RV w m h av true (vs.getD i Go.undef) [V.str s, V.str t][i]) : vs = #[.string s, .string t] := by
 obtain ⟨v, u, rfl⟩ : ∃ v u, vs = #[v, u] := by
   match vs, hsz with
   | ⟨[v, u]⟩, _ => exact ⟨v, u, rfl⟩
 have h0 := ha 0 (by simp)
 have h1 := ha 1 (by simp)
 simp only [List.getElem_cons_zero, List.getElem_cons_succ] at h0 h1
 obtain rfl : v = .string s := by
   simp at h0; cases h0; rfl
 obtain rfl : u = .string t := by
   simp at h1; cases h1; rfl
 rfl
theorem nil_rh {w : World} {m : Nat → Nat} {av : Nat → Prop} : RH w m [] av := ⟨fun i j ci cj h => by simp at h, fun id cs h => by simp at h, fun id cs h => by simp at h⟩
theorem below_ext {O : Nat → Prop} {w w' : World} (hb : Below w.heap.size w w') : Ext O w w' :=
 ⟨hb.os, hb.tape, hb.output, hb.size, fun g hg _ => hb.block g hg, fun g hg => Nat.le_of_eq (rowSize_of_block (hb.block g hg)).symm⟩
theorem split_ok (s : ByteArray) (c : UInt8) (hs : s.size ≤ 16777216) : Ctr Tryd.prog 11 [.str s, .str ⟨#[c]⟩] [] (.osl 0 0 (splS c s).length 1) [some (rows StringS.cs (splS c s))] := by
 refine ⟨Tryd.okF11, fun w vs m av hH hav hgl hsz ha => ?_⟩
 obtain rfl := two_str hsz ha
 obtain ⟨mv, hm, m0, rfl⟩ := hgl.var (g := 0) (e := false) (by simp [gvars])
 refine (Tryd.strings_Split s ⟨#[c]⟩ m0 w (by omega) hm (Nat.le_refl 1)).mono ?_
 rintro e w' ⟨rfl, rfl⟩
 rw [split_eq]
 have hl : Lib.countB s ⟨#[c]⟩ + 1 = (splS c s).length := by
   rw [← split_eq, Lib.splitB_all ⟨#[c]⟩ (Nat.le_refl 1) 0 _ _ rfl]
 rw [hl]
 generalize splS c s = L
 have hrl : (rows StringS.cs L).length = L.length := by rw [rows_length, Nat.mul_one]
 have hrow : ∀ i (hi : i < (rows StringS.cs L).length), ∃ x, (rows StringS.cs L)[i] = .str x ∧ ((L.map Value.string).toArray).getD i Go.undef = .string x := by
   intro i hi
   have hi' : i < L.length := by omega
   refine ⟨L[i], ?_, ?_⟩
   · have := rows_at StringS.csl hi'
     rw [Nat.mul_one] at this
     have h2 : (rows StringS.cs L)[i]? = some (.str L[i]) := by
       have h3 := congrArg (·[0]?) this
       simpa [StringS.cs, List.getElem?_take] using h3
     rw [List.getElem?_eq_getElem hi] at h2
     exact Option.some.inj h2
   · simp [hi']
 have hnew := heap_alloc_new w (.cells (L.map Value.string).toArray 9)
 refine ⟨_, fun _ => w.heap.size, rfl, Ext.alloc _ _ _, ⟨fun i j ci cj h1 h2 _ => ?_, fun id cs h => .inr ⟨id, cs, h, rfl⟩, fun id cs h => ?_⟩, ?_, fun id cs h => .inr ⟨Nat.zero_le _, Nat.le_refl _⟩⟩
 · have e1 : i < 1 := by have := (List.getElem?_eq_some_iff.1 h1).1; simpa using this
   have e2 : j < 1 := by have := (List.getElem?_eq_some_iff.1 h2).1; simpa using this
   omega
 · have e1 : id < 1 := by have := (List.getElem?_eq_some_iff.1 h).1; simpa using this
   obtain rfl : id = 0 := by omega
   simp only [List.getElem?_cons_zero, Option.some.injEq] at h
   subst h
   refine .inl ⟨_, _, _, hnew, FrOk.zero _, by simp [hrl], fun i hi => ?_⟩
   obtain ⟨x, h1, h2⟩ := hrow i hi
   rw [h1, h2]
   exact .str _
 · refine .osl 0 0 L.length L.length 1 _ ⟨rfl, isMb_rows _⟩ (by simp [hrl]) (Nat.le_refl _) ?_
   simp only [rowSize, hnew]
   simp
theorem trimPrefix_ok (s p : ByteArray) : Ctr Tryd.prog 14 [.str s, .str p] [] (.str ⟨(Lib.trimPrefix s.data.toList p.data.toList).toArray⟩) [] := by
 refine ⟨Tryd.okF14, fun w vs m av hH hav hgl hsz ha => ?_⟩
 obtain rfl := two_str hsz ha
 refine (Tryd.strings_TrimPrefix s p w).mono ?_
 rintro e w' ⟨rfl, rfl⟩
 exact ⟨_, m, rfl, Ext.refl _ _, nil_rh, .str _, fun id cs h => by simp at h⟩
theorem replace_ok (s old new : ByteArray) (n : Int) (hs : s.size ≤ 16777216) (h1 : 1 ≤ old.size) (h2 : new.size = 0) : Ctr Tryd.prog 13 [.str s, .str old, .str new, .int .i64 n] [] (.str ⟨(Lib.replace s.data.toList old.data.toList new.data.toList n).toArray⟩) [] := by
 refine ⟨Tryd.okF13, fun w vs m av hH hav hgl hsz ha => ?_⟩
 obtain ⟨a, b, c, d, rfl⟩ : ∃ a b c d, vs = #[a, b, c, d] := by
   match vs, hsz with
   | ⟨[a, b, c, d]⟩, _ => exact ⟨a, b, c, d, rfl⟩
 have h0 := ha 0 (by simp)
 have h1' := ha 1 (by simp)
 have h2' := ha 2 (by simp)
 have h3' := ha 3 (by simp)
 simp at h0 h1' h2' h3'
 obtain rfl : a = .string s := by cases h0; rfl
 obtain rfl : b = .string old := by cases h1'; rfl
 obtain rfl : c = .string new := by cases h2'; rfl
 obtain rfl : d = .int .i64 n := by cases h3'; rfl
 obtain ⟨mv, hm, m0, rfl⟩ := hgl.var (g := 0) (e := false) (by simp [gvars])
 refine (Tryd.strings_Replace s old new n m0 w (by omega) hm h1 (by rw [h2, Nat.mul_zero]; omega)).mono ?_
 rintro e w' ⟨rfl, hb⟩
 exact ⟨_, m, rfl, below_ext hb, nil_rh, .str _, fun id cs h => by simp at h⟩
end Go.Proofs
end
section
set_option maxRecDepth 100000
namespace Go.Proofs
open Go.Lv
def numOf (s : ByteArray) : Int := match Lib.atoiAll s.data.toList with
 | .ok v => v
 | _ => 0
def atoiP (s : ByteArray) (r : V) (hout : Hp) : Prop := hout = [] ∧ ((r = .tup [.int .i64 (numOf s), .lit .nilIface] ∧ i64R (numOf s)) ∨ ∃ t v n, r = .tup [.int .i64 n, .lit (.iface t v)] ∧ numOf s = 0)
theorem atoiP_at {s : ByteArray} {w w' : World} {m : Nat → Nat} {av : Nat → Prop} {n : Int} {e : Value} (hE : Ext (own m []) w w') (hp : atoiP s (.tup [.int .i64 n, .lit e]) []) :
   ∃ v m' r hout, atoiP s r hout ∧ Ending.returned (.tuple #[.int .i64 n, e]) = .returned v ∧ Ext (own m []) w w' ∧ RH w' m' hout (avm av m' hout) ∧ RV w' m' hout (avm av m' hout) true v r ∧ Ids w.heap.size m m' [] hout := by
 refine ⟨_, m, _, _, hp, rfl, hE, nil_rh, ?_, fun id cs h => by simp at h⟩
 refine .tup _ _ rfl (fun i hi => ?_)
 match i, hi with
 | 0, _ => exact .int _ _
 | 1, _ => exact .lit _
theorem atoi_ok (s : ByteArray) (hs : s.size ≤ 281474976710656) : CtrP Tryd.prog 31 [.str s] [] (atoiP s) := by
 refine ⟨Tryd.okF31, fun w vs m av hH hav hgl hsz ha => ?_⟩
 obtain ⟨v, rfl⟩ : ∃ v, vs = #[v] := by
   match vs, hsz with
   | ⟨[v]⟩, _ => exact ⟨v, rfl⟩
 have h0 := ha 0 (by simp)
 simp only [List.getElem_cons_zero] at h0
 obtain rfl : v = .string s := by
   simp at h0; cases h0; rfl
 cases ha : Lib.atoiAll s.data.toList with
 | range =>
   obtain ⟨ev, hv, hev⟩ := hgl.var (g := 4) (e := true) (by simp [gvars])
   refine (Tryd.strconv_Atoi_range s hs ha ev w hv hev).mono ?_
   rintro e w' ⟨N, rfl, hN1, hN2, hb⟩
   exact atoiP_at (below_ext hb) ⟨rfl, .inr ⟨_, _, _, rfl, by simp [numOf, ha]⟩⟩
 | ok v =>
   obtain ⟨vb0, vb1⟩ := Lib.atoiAll_bounds ha
   have hn : numOf s = v := by simp [numOf, ha]
   refine (Tryd.strconv_Atoi_ok s (by omega) v ha w).mono ?_
   rintro e w' ⟨rfl, hw⟩
   refine atoiP_at ?_ ⟨rfl, .inl ⟨by rw [hn], by rw [hn]; exact ⟨vb0, vb1⟩⟩⟩
   rcases hw with rfl | ⟨t, rfl⟩
   · exact Ext.refl _ _
   · exact below_ext (Lib.bytesWorld_below _ _ _)
 | _ =>
   obtain ⟨ev, hv, hev⟩ := hgl.var (g := 3) (e := true) (by simp [gvars])
   refine (Tryd.strconv_Atoi_syntax s hs ha (by intro h; cases h) (by intro v h; cases h) ev w hv hev).mono ?_
   rintro e w' ⟨N, rfl, hN1, hN2, hb⟩
   exact atoiP_at (below_ext hb) ⟨rfl, .inr ⟨_, _, _, rfl, by simp [numOf, ha]⟩⟩
end Go.Proofs
end
section
set_option maxRecDepth 100000
namespace Go.Proofs
open Go.Lv
def IntS.cs (x : Int) : List V := [.int .i64 x]
instance : FlatP IntS.cs 1 := ⟨fun _ => rfl, fun _ d => by cases d <;> rfl, fun _ => rfl, fun _ => rfl⟩
theorem IntS.csl (a : Int) : (IntS.cs a).length = 1 := rfl
abbrev IntS.ok (x : Int) : Prop := i64R x
abbrev IntS.sl (L : List Int) : V := .sl L.length 1 (Go.Lv.rows IntS.cs L)
abbrev IntS.zs : List V := [.int .i64 0]
def IntS.marks (k : Int) (n : Nat) : List Int := (List.range n).map fun i : Nat => k + (i : Int)
@[simp] theorem IntS.marks_len (k : Int) (n : Nat) : (IntS.marks k n).length = n := by simp [IntS.marks]
abbrev IntS.v (x : Int) : V := .int .i64 x
end Go.Proofs
end
section
set_option maxRecDepth 100000
set_option maxHeartbeats 2000000
namespace Go.Proofs
open Go.Lv
theorem numbersIn_ok (L : List ByteArray) (hl : L.length ≤ 16777216) (hs : ∀ x ∈ L, x.size ≤ 281474976710656) : Ctr Tryd.prog 15 [StringS.sl L] [] (.osl 0 0 L.length 1) [some (rows IntS.cs (L.map numOf))] := by
 refine Ctr.intro Tryd.mixed Tryd.func15 rfl Tryd.okF15 ?_
 simp -implicitDefEqProofs -dsimp only [go_sem, Tryd.ntmps15, Tryd.results15]
 (repeat ((repeat1' (first | simp -implicitDefEqProofs -dsimp only [go_sem] | simp -dsimp (disch := omega) only [wrap_i64])); repeat (with_reducible refine sideA ?_)))
 refine LoopT.intro (fun i : Nat => i ≤ L.length) (fun i => ⟨[.undef, .undef, .undef, .osl 0 0 i 1, .undef, .undef, .undef, .undef, .undef, StringS.sl L, .int .i64 L.length, .int .i64 i, .undef, .undef, .undef, .undef, .undef, .undef, .undef, .undef, .undef, .undef, .undef, .undef, .undef, .undef, .undef, .undef], [some (rows IntS.cs ((L.take i).map numOf))], 0⟩) (fun i => L.length - i) 0 (Nat.zero_le _) ?_ (fun i hi => ?_)
 · refine Weak.cut (1) (by simp) (by simp) ?_ ?_
   · simp [LeC, LeV, ren, cutF]
   · rfl
 (repeat ((repeat1' (first | simp -implicitDefEqProofs -dsimp only [go_sem] | simp -dsimp (disch := omega) only [wrap_i64])); repeat (with_reducible refine sideA ?_)))
 refine condT.split (fun g1 => ?_) (fun g1 => ?_)
 · have hi' : i < L.length := by have := of_decide_eq_true g1; omega
   have hr := rows_at StringS.csl hi'
   have hlen : ((L.take i).map numOf).length = i := by simp; omega
   have hnx : (L.take (i + 1)).map numOf = (L.take i).map numOf ++ [numOf L[i]] := by
     rw [List.take_succ_eq_append_getElem hi', List.map_append]; rfl
   (repeat ((repeat1' (first | simp -implicitDefEqProofs -dsimp only [go_sem, g1, hr, StringS.cs] | simp -dsimp (disch := omega) only [wrap_i64])); repeat (with_reducible refine sideA ?_)))
   refine callS.rel [] (atoi_ok L[i] (hs _ (List.getElem_mem hi'))) (by decide) ⟨leO, trivial⟩ rfl rfl (fun r hout hΦ => ?_)
   obtain ⟨rfl, ⟨rfl, hn⟩ | ⟨t, v, n, rfl, h0⟩⟩ := hΦ
   · refine ⟨trivial, ?_⟩
     (repeat ((repeat1' (first | simp -implicitDefEqProofs -dsimp only [go_sem, rows_length, rows_cell, hlen, map_ren_rows, Nat.mul_one] | simp -dsimp (disch := omega) only [wrap_i64])); repeat (with_reducible refine sideA ?_)))
     refine ⟨i + 1, hi', ?_, by omega⟩
     rw [hnx]
     refine Weak.cut (1) (by simp) (by simp) ?_ ?_
     · simp [LeC, LeV, ren, cutF]
     · rw [← rows_snoc]
       simp [cutH, cutB, ren, cutF, map_ren_rows, killC, killF, IntS.cs]
   · refine ⟨trivial, ?_⟩
     (repeat ((repeat1' (first | simp -implicitDefEqProofs -dsimp only [go_sem, rows_length, rows_cell, hlen, map_ren_rows, Nat.mul_one] | simp -dsimp (disch := omega) only [wrap_i64])); repeat (with_reducible refine sideA ?_)))
     refine ⟨i + 1, hi', ?_, by omega⟩
     rw [hnx, h0]
     refine Weak.cut (1) (by simp) (by simp) ?_ ?_
     · simp [LeC, LeV, ren, cutF]
     · rw [← rows_snoc]
       simp [cutH, cutB, ren, cutF, map_ren_rows, killC, killF, IntS.cs]
 · have hi' : i = L.length := by have := of_decide_eq_false g1; omega
   subst hi'
   (repeat ((repeat1' (first | simp -implicitDefEqProofs -dsimp only [go_sem, g1, List.take_length] | simp -dsimp (disch := omega) only [wrap_i64])); repeat (with_reducible refine sideA ?_)))
   exact WeakR.of_eq (by simp)
end Go.Proofs
end
section
set_option maxRecDepth 100000
set_option maxHeartbeats 2000000
namespace Go.Proofs
open Go.Lv
def tp (c : UInt8) (s : ByteArray) : ByteArray := ⟨(Lib.trimPrefix s.data.toList (⟨#[c]⟩ : ByteArray).data.toList).toArray⟩
def rp (s : ByteArray) : ByteArray := ⟨(Lib.replace s.data.toList (⟨#[46]⟩ : ByteArray).data.toList (⟨#[]⟩ : ByteArray).data.toList 1).toArray⟩
theorem tp_pre (c : UInt8) (s : ByteArray) : tp c (⟨#[c]⟩ ++ s) = s := by
 have e : (⟨#[c]⟩ ++ s).data.toList = c :: s.data.toList := by rw [ba_app]; rfl
 apply ba_ext
 rw [tp, e]
 simp [Lib.trimPrefix, Lib.hasPrefix]
theorem numOf_num {n : Int} (h0 : -999999999 ≤ n) (h1 : n ≤ 999999999) : numOf (num n) = n := by rw [numOf, atoi_num h0 h1]
theorem mag_digs {l : List UInt8} (h : l.all isDig = true) (hn : l ≠ []) (hb : valD 0 l < 1000000000000000000) : Lib.parseMag l = .ok (valD 0 l) := by
 rw [Lib.parseMag, if_neg hn, uint_val _ _ h hb]
theorem numOf_size {r : QuakeRow} (h : qrB r = true) : numOf (qSign r ++ (num ((r.Size.natAbs / 100 : Nat) : Int) ++ qHund r.Size.natAbs)) = r.Size := by
 have hq := qrB_iff.1 h
 have e : (num ((r.Size.natAbs / 100 : Nat) : Int) ++ qHund r.Size.natAbs).data.toList = Lib.decDigits (r.Size.natAbs / 100) ++ [UInt8.ofNat (48 + r.Size.natAbs / 10 % 10), UInt8.ofNat (48 + r.Size.natAbs % 10)] := by
   rw [ba_app, num_list, qHund_list]
 have hv := val_two r.Size.natAbs
 obtain ⟨d1, d2, d3⟩ := dec_val (r.Size.natAbs / 100 + 1) (r.Size.natAbs / 100) (by omega)
 have hall : (Lib.decDigits (r.Size.natAbs / 100) ++ [UInt8.ofNat (48 + r.Size.natAbs / 10 % 10), UInt8.ofNat (48 + r.Size.natAbs % 10)]).all isDig = true := by
   simp only [List.all_append, d1, List.all_cons, List.all_nil, dig_of (show r.Size.natAbs / 10 % 10 < 10 by omega), dig_of (show r.Size.natAbs % 10 < 10 by omega)]; rfl
 generalize hl : Lib.decDigits (r.Size.natAbs / 100) ++ [UInt8.ofNat (48 + r.Size.natAbs / 10 % 10), UInt8.ofNat (48 + r.Size.natAbs % 10)] = l at *
 have hne : l ≠ [] := by rw [← hl]; simp
 have hm := mag_digs hall hne (by rw [hv]; omega)
 rw [hv] at hm
 unfold qSign numOf
 by_cases hn : r.Size < 0
 · rw [if_pos hn, ba_app, e]
   show (match Lib.atoiAll (45 :: l) with | .ok v => v | _ => 0) = _
   rw [Lib.atoiAll_minus, hm, Lib.signed, if_neg (by omega)]
   simp only []
   omega
 · rw [if_neg hn, ba_app, e]
   show (match Lib.atoiAll l with | .ok v => v | _ => 0) = _
   cases l with
   | nil => exact absurd rfl hne
   | cons c l =>
     simp only [List.all_cons, Bool.and_eq_true, isDig, decide_eq_true_eq] at hall
     rw [Lib.atoiAll_plain c l (by omega) (by omega), hm, Lib.signless, if_neg (by omega)]
     simp only []
     omega
theorem rp_dot {a b : ByteArray} (h : noB 46 a = true) : rp (a ++ (⟨#[46]⟩ ++ b)) = a ++ b := by
 obtain ⟨h1, h2, h3, h4⟩ := cut_at (y := b) h
 have hm : Lib.indexB (a ++ (⟨#[46]⟩ ++ b)) ⟨#[46]⟩ = (a.size : Int) := (Lib.index_one _ _).trans h1
 have hs : (⟨#[46]⟩ : ByteArray).size = 1 := rfl
 have hc := Lib.countB_hit (a ++ (⟨#[46]⟩ ++ b)) ⟨#[46]⟩ a.size (by rw [hs]; omega) hm
 have hm' : Lib.index (a ++ (⟨#[46]⟩ ++ b)).data.toList [46] = (a.size : Int) := hm
 have hc' : 1 ≤ Lib.count (a ++ (⟨#[46]⟩ ++ b)).data.toList [46] := by
   change Lib.count (a ++ (⟨#[46]⟩ ++ b)).data.toList [46] = _ at hc
   omega
 have e : (a ++ (⟨#[46]⟩ ++ b)).data.toList = a.data.toList ++ 46 :: b.data.toList := by rw [ba_app, ba_app]; rfl
 have hl : a.data.toList.length = a.size := ba_len a
 apply ba_ext
 show Lib.replace (a ++ (⟨#[46]⟩ ++ b)).data.toList [46] [] 1 = _
 have hk : Lib.replaceNum (a ++ (⟨#[46]⟩ ++ b)).data.toList [46] 1 = 1 := by
   rw [Lib.replaceNum, if_neg (by omega)]; rfl
 rw [Lib.replace, if_neg (by decide), hk, Lib.replaceK_hit _ _ _ _ a.size hm', Lib.replaceK, e, ba_app]
 rw [List.take_append_of_le_length (by omega), ← hl, List.take_length, List.drop_append]
 simp
def cand (s : ByteArray) : QuakeRow := ⟨numOf (tp 35 ((splS 32 s).getD 0 ⟨#[]⟩)), numOf (tp 116 ((splS 32 s).getD 1 ⟨#[]⟩)), numOf (bef 44 ((splS 32 s).getD 3 ⟨#[]⟩)), numOf (aft 44 ((splS 32 s).getD 3 ⟨#[]⟩)), numOf ((splS 32 s).getD 5 ⟨#[]⟩), numOf (rp (tp 77 ((splS 32 s).getD 6 ⟨#[]⟩))), (((splS 32 s).getD 7 ⟨#[]⟩).data.toList.headD 0).toNat - 65 + 1⟩
theorem grade_toNat {g : Int} (h : 1 ≤ g ∧ g ≤ 4) : ((((qGrade g).data.toList.headD 0).toNat : Nat) : Int) - 65 + 1 = g := by
 have : g = 1 ∨ g = 2 ∨ g = 3 ∨ g = 4 := by omega
 rcases this with e | e | e | e <;> rw [e] <;> rfl
theorem cand_line {r : QuakeRow} (h : qrB r = true) : cand (quakeLine r) = r := by
 have hq := qrB_iff.1 h
 obtain ⟨_, c2, c3, _⟩ := cut_at (c := 44) (x := num r.X) (y := num r.Y) (num_noB (by decide) (by omega))
 simp only [cand, line_words h, qWords, List.getD_cons_zero, List.getD_cons_succ]
 rw [tp_pre, tp_pre, c2, c3, qW6, tp_pre]
 have e : qSign r ++ (num ((r.Size.natAbs / 100 : Nat) : Int) ++ (⟨#[46]⟩ ++ qHund r.Size.natAbs)) = (qSign r ++ num ((r.Size.natAbs / 100 : Nat) : Int)) ++ (⟨#[46]⟩ ++ qHund r.Size.natAbs) := by rw [ByteArray.append_assoc]
 rw [e, rp_dot (by rw [noB_app, qSign_noB (by decide), num_noB (by decide) (by omega)]; rfl), ByteArray.append_assoc, numOf_size h, numOf_num (by omega) (by omega), numOf_num (by omega) (by omega), numOf_num (by omega) (by omega), numOf_num (by omega) (by omega), numOf_num (by omega) (by omega), grade_toNat hq.2.2.2.2.2]
open Classical in
noncomputable def parseR (s : ByteArray) : Option QuakeRow := if h : ∃ r, qrB r = true ∧ quakeLine r = s then some h.choose else none
theorem line_inj {r q : QuakeRow} (hr : qrB r = true) (hq : qrB q = true) (h : quakeLine r = quakeLine q) : r = q := by
 rw [← cand_line hr, h, cand_line hq]
theorem parseR_some {s : ByteArray} {r : QuakeRow} (hr : qrB r = true) (h : quakeLine r = s) : parseR s = some r := by
 have hx : ∃ r, qrB r = true ∧ quakeLine r = s := ⟨r, hr, h⟩
 rw [parseR, dif_pos hx]
 exact congrArg some (line_inj hx.choose_spec.1 hr (hx.choose_spec.2.trans h.symm))
theorem parseR_none {s : ByteArray} (h : ∀ r, qrB r = true → quakeLine r ≠ s) : parseR s = none := by
 rw [parseR, dif_neg]
 rintro ⟨r, h1, h2⟩
 exact h r h1 h2
theorem parseR_cand (s : ByteArray) : parseR s = if qrB (cand s) = true ∧ quakeLine (cand s) = s then some (cand s) else none := by
 split
 · rename_i h; exact parseR_some h.1 h.2
 · rename_i h
   refine parseR_none (fun r h1 h2 => h ?_)
   rw [← h2, cand_line h1]
   exact ⟨h1, rfl⟩
end Go.Proofs
end
section
set_option maxRecDepth 100000
namespace Go.Proofs
open Go.Lv
theorem num_sz {n : Int} (k : Nat) (h0 : 0 ≤ n) (h1 : n < ((10 ^ (k + 1) : Nat) : Int)) : (num n).size ≤ k + 1 := by
 obtain ⟨u, rfl⟩ : ∃ u : Nat, n = u := ⟨n.toNat, by omega⟩
 have := dec_len k u (by omega)
 rw [← ba_len, num_list]; exact this
theorem words_small {r : QuakeRow} (h : qrB r = true) : (num r.Id).size ≤ 4 ∧ (num r.Tick).size ≤ 7 ∧ (num r.X).size ≤ 3 ∧ (num r.Y).size ≤ 3 ∧ (num r.Deep).size ≤ 3 ∧ 3 ≤ (qW6 r).size ∧ (qW6 r).size ≤ 7 := by
 have hq := qrB_iff.1 h
 refine ⟨num_sz 3 (by omega) (by omega), num_sz 6 (by omega) (by omega), num_sz 2 (by omega) (by omega), num_sz 2 (by omega) (by omega), num_sz 2 (by omega) (by omega), ?_, ?_⟩
 · have h2 : (qHund r.Size.natAbs).size = 2 := by rw [← ba_len, qHund_list]; rfl
   rw [qW6]; simp only [ByteArray.size_append, ba_size, List.size_toArray, List.length_cons, List.length_nil, h2]; omega
 · have h2 : (qHund r.Size.natAbs).size = 2 := by rw [← ba_len, qHund_list]; rfl
   have h3 := num_sz (n := ((r.Size.natAbs / 100 : Nat) : Int)) 1 (by omega) (by omega)
   have h4 := qSign_size r
   rw [qW6]; simp only [ByteArray.size_append, ba_size, List.size_toArray, List.length_cons, List.length_nil, h2]; omega
theorem line_small {r : QuakeRow} (h : qrB r = true) : (quakeLine r).size ≤ 60 := by
 have := words_small h
 rw [line_eq]
 simp only [ByteArray.size_append, ba_size, List.size_toArray, List.length_cons, List.length_nil, qGrade]; omega
theorem qWords_small {r : QuakeRow} (h : qrB r = true) : ∀ w ∈ qWords r, w.size ≤ 9 := by
 have := words_small h
 intro w hw
 simp only [qWords, List.mem_cons, List.not_mem_nil, or_false] at hw
 rcases hw with rfl | rfl | rfl | rfl | rfl | rfl | rfl | rfl <;> first | omega | (simp only [ByteArray.size_append, ba_size, List.size_toArray, List.length_cons, List.length_nil, qGrade]; first | done | omega)
theorem parse_long {s : ByteArray} (h : 60 < s.size) : parseR s = none :=
 parseR_none (fun r h1 h2 => by have := line_small h1; rw [h2] at this; omega)
theorem parse_words {s : ByteArray} (h : (splS 32 s).length ≠ 8) : parseR s = none :=
 parseR_none (fun r h1 h2 => by rw [← h2, line_words h1] at h; exact h rfl)
theorem parse_six {s a0 a1 a2 a3 a4 a5 a6 a7 : ByteArray} (hw : splS 32 s = [a0, a1, a2, a3, a4, a5, a6, a7]) (h : a6.size < 2) : parseR s = none :=
 parseR_none (fun r h1 h2 => by
   have h3 := words_small h1
   rw [← h2, line_words h1, qWords] at hw
   simp only [List.cons.injEq] at hw
   rw [← hw.2.2.2.2.2.2.1] at h; omega)
theorem parse_wide {s w : ByteArray} (hw : w ∈ splS 32 s) (h : 9 < w.size) : parseR s = none :=
 parseR_none (fun r h1 h2 => by
   rw [← h2, line_words h1] at hw
   have := qWords_small h1 w hw; omega)
theorem parse_place {s a0 a1 a2 a3 a4 a5 a6 a7 : ByteArray} (hw : splS 32 s = [a0, a1, a2, a3, a4, a5, a6, a7]) (h : (splS 44 a3).length ≠ 2) : parseR s = none :=
 parseR_none (fun r h1 h2 => by
   rw [← h2, line_words h1, qWords] at hw
   simp only [List.cons.injEq] at hw
   rw [← hw.2.2.2.1, place_words h1] at h; exact h rfl)
def rdG (a0 a1 a5 a6 p0 p1 : ByteArray) (g : Int) : QuakeRow := ⟨digs a0, digs a1, digs p0, digs p1, digs a5, if a6.data.toList[1]? = some 45 then -(digs a6 : Int) else digs a6, g⟩
theorem parse_end {s a0 a1 a2 a3 a4 a5 a6 a7 p0 p1 : ByteArray} (hw : splS 32 s = [a0, a1, a2, a3, a4, a5, a6, a7]) (hp : splS 44 a3 = [p0, p1])
   (h : ∀ g : Int, 1 ≤ g → g < 5 → ¬ (qrB (rdG a0 a1 a5 a6 p0 p1 g) = true ∧ quakeLine (rdG a0 a1 a5 a6 p0 p1 g) = s)) : parseR s = none :=
 parseR_none (fun r h1 h2 => by
   have hq := qrB_iff.1 h1
   have e := rdQ_line h1
   have hw' := hw
   rw [← h2, line_words h1] at hw
   have e3 : a3 = num r.X ++ (⟨#[44]⟩ ++ num r.Y) := by
     rw [qWords] at hw
     simp only [List.cons.injEq] at hw
     exact hw.2.2.2.1.symm
   rw [e3, place_words h1] at hp
   rw [hw, hp] at e
   refine h r.Grade (by omega) (by omega) ?_
   have e' : rdG a0 a1 a5 a6 p0 p1 r.Grade = r := e
   rw [e']; exact ⟨h1, h2⟩)
theorem digL_snoc (l : List UInt8) (c : UInt8) : digL (l ++ [c]) = if isDig c = true then digL l * 10 + (c.toNat - 48) else digL l := by
 unfold digL
 rw [List.filter_append]
 cases h : isDig c with
 | true => rw [List.filter_cons, h, List.filter_nil, valD_app, if_pos rfl, if_pos rfl, valD_cons, valD_nil, stepD_eq]
 | false => rw [List.filter_cons, h, List.filter_nil, if_neg (by simp), if_neg (by simp), List.append_nil]
theorem valD_lt (l : List UInt8) : ∀ n : Nat, l.all isDig = true → valD n l < (n + 1) * 10 ^ l.length := by
 induction l with
 | nil => intro n _; rw [valD_nil]; simp
 | cons c l ih =>
   intro n h
   simp only [List.all_cons, Bool.and_eq_true, isDig, decide_eq_true_eq] at h
   have h2 := ih (stepD n c) (by simpa [isDig] using h.2)
   rw [valD_cons, List.length_cons, Nat.pow_succ]
   refine Nat.lt_of_lt_of_le h2 ?_
   have h3 : stepD n c + 1 ≤ (n + 1) * 10 := by rw [stepD_eq]; omega
   calc (stepD n c + 1) * 10 ^ l.length ≤ ((n + 1) * 10) * 10 ^ l.length := Nat.mul_le_mul_right _ h3
     _ = (n + 1) * (10 ^ l.length * 10) := by rw [Nat.mul_assoc, Nat.mul_comm 10]
theorem digL_lt (l : List UInt8) {k : Nat} (h : l.length ≤ k) : digL l < 10 ^ k := by
 have h1 := valD_lt (l.filter isDig) 0 (by simp)
 rw [Nat.zero_add, Nat.one_mul] at h1
 exact Nat.lt_of_lt_of_le h1 (Nat.pow_le_pow_right (by omega) (Nat.le_trans (List.length_filter_le _ _) h))
def digTo (s : ByteArray) (i : Nat) : Nat := digL (s.data.toList.take i)
theorem digTo_all (s : ByteArray) : digTo s s.size = digs s := by
 rw [digTo, ← ba_len, List.take_length]; rfl
theorem digTo_lt {s : ByteArray} {i : Nat} (h : s.size ≤ 9) : digTo s i < 1000000000 :=
 digL_lt (k := 9) _ (by simp only [List.length_take]; rw [ba_len]; omega)
theorem digTo_lt' {s : ByteArray} {i : Nat} (h : i ≤ 8) : digTo s i < 100000000 :=
 digL_lt (k := 8) _ (by simp only [List.length_take]; omega)
theorem digTo_succ {s : ByteArray} {i : Nat} (h : i < s.size) : (digTo s (i + 1) : Int) = if 48 ≤ (s[i].toNat : Int) ∧ (s[i].toNat : Int) ≤ 57 then 10 * (digTo s i : Int) + s[i].toNat - 48 else digTo s i := by
 have h' : i < s.data.toList.length := by rw [Array.length_toList]; exact h
 have e : s.data.toList[i] = s[i] := by rw [Array.getElem_toList]; rfl
 rw [digTo, List.take_succ_eq_append_getElem h', e, digL_snoc, ← digTo]
 have hb : isDig s[i] = true ↔ (48 ≤ (s[i].toNat : Int) ∧ (s[i].toNat : Int) ≤ 57) := by
   simp only [isDig, Bool.and_eq_true, decide_eq_true_eq]; omega
 by_cases hd : isDig s[i] = true
 · rw [if_pos hd, if_pos (hb.1 hd)]
   have := hb.1 hd
   omega
 · rw [if_neg hd, if_neg (fun h => hd (hb.2 h))]
end Go.Proofs
end
section
namespace Go.Lv
theorem Ctr.weak {P : Program} {f : FuncId} {args : List V} {r r' : V} {hout hout' : Hp} (h : Ctr P f args [] r hout) (hw : WeakR 0 r hout r' hout') : Ctr P f args [] r' hout' :=
 ⟨h.1, fun w vs m av h1 h2 h3 h4 h5 => (h.2 w vs m av h1 h2 h3 h4 h5).mono fun e w' ⟨v, m', g1, g2, g3, g4, g5⟩ => by
   obtain ⟨m2, k1, k2, k3⟩ := hw w m [] av w' m' v rfl (Nat.zero_le _) h2 g2.size g3 g4 g5
   exact ⟨v, m2, g1, g2, k1, k2, k3⟩⟩
section
variable {α : Type} {cs : α → List V} {w : Nat} [FlatQ cs w]
end
end Go.Lv
end
section
set_option maxRecDepth 100000
namespace Go.Proofs
open Go.Lv
theorem splTo_size (c : UInt8) (s : ByteArray) : ∀ (i : Nat) (x : ByteArray), x ∈ (splTo c s i).1 → x.size ≤ s.size
 | 0, x, h => by simp [splTo] at h
 | i + 1, x, h => by
   by_cases hi : i < s.size
   · cases hc : (s[i]'hi == c) with
     | true =>
       rw [splTo_yes hi hc] at h
       rcases List.mem_append.1 h with h | h
       · exact splTo_size c s i x h
       · simp only [List.mem_singleton] at h
         subst h
         rw [ByteArray.size_extract]; omega
     | false =>
       rw [splTo_no hi hc] at h
       exact splTo_size c s i x h
   · rw [splTo, dif_neg hi] at h
     exact splTo_size c s i x h
theorem splS_size (c : UInt8) (s : ByteArray) {x : ByteArray} (h : x ∈ splS c s) : x.size ≤ s.size := by
 rw [splS] at h
 rcases List.mem_append.1 h with h | h
 · exact splTo_size c s _ x h
 · simp only [List.mem_singleton] at h
   subst h
   rw [ByteArray.size_extract]; omega
theorem splitF_ok (s : ByteArray) (c : UInt8) (hs : s.size ≤ 16777216) : Ctr Tryd.prog 11 [.str s, .str ⟨#[c]⟩] [] (StringS.sl (splS c s)) [] :=
 (split_ok s c hs).weak (by
   refine WeakR.pick [] (by decide) (fun j hj => by omega) (.inl ?_) rfl
   have e := take_rows (cs := StringS.cs) (splS c s)
   simp [ren, pickF, posOf, frzR, map_ren_rows] at e ⊢
   exact e.symm)
theorem l1SplitF_ok (s : ByteArray) (c : UInt8) (hs : s.size ≤ 16777216) : Ctr Tryd.prog 7 [.str s, .int .u8 c.toNat] [] (StringS.sl (splS c s)) [] :=
 (l1Split_ok s c hs).weak (by
   refine WeakR.pick [] (by decide) (fun j hj => by omega) (.inl ?_) rfl
   have e := take_rows (cs := StringS.cs) (splS c s)
   simp [ren, pickF, posOf, frzR, map_ren_rows] at e ⊢
   exact e.symm)
end Go.Proofs
end
section
set_option maxRecDepth 100000
set_option maxHeartbeats 1000000
namespace Go.Proofs
open Go.Lv
noncomputable def parseV (s : ByteArray) : V := match parseR s with
 | some r => .tup [r.v, .bool true]
 | none => .tup [QuakeRow.v ⟨0, 0, 0, 0, 0, 0, 0⟩, .bool false]
theorem tp_size (c : UInt8) (s : ByteArray) : (tp c s).size ≤ s.size := by
 show (Lib.trimPrefix s.data.toList _).toArray.size ≤ _
 rw [List.size_toArray, ← ba_len s, Lib.trimPrefix]
 split <;> simp
theorem repK_len (o : List UInt8) : ∀ (k : Nat) (l : List UInt8), (Lib.replaceK o [] k l).length ≤ l.length
 | 0, l => Nat.le_refl _
 | k + 1, l => by
   rw [Lib.replaceK]
   split
   · exact Nat.le_refl _
   · have := repK_len o k (l.drop ((Lib.index l o).toNat + o.length))
     simp only [List.length_append, List.length_take, List.length_drop, List.length_nil] at this ⊢
     omega
theorem rp_size (s : ByteArray) : (rp s).size ≤ s.size := by
 show (Lib.replace s.data.toList [46] [] 1).toArray.size ≤ _
 rw [List.size_toArray, ← ba_len s, Lib.replace, if_neg (by decide)]
 exact repK_len _ _ _
theorem befaft_size (c : UInt8) (s : ByteArray) : (bef c s).size ≤ s.size ∧ (aft c s).size ≤ s.size := by
 unfold bef aft
 split
 · simp only [ByteArray.size_extract]; omega
 · exact ⟨Nat.le_refl _, Nat.zero_le _⟩
theorem words_not {s : ByteArray} (h : (splS 32 s).length ≠ 8 ∨ ((splS 32 s).getD 7 ⟨#[]⟩).size ≠ 1) : parseR s = none := by
 refine parseR_none (fun r h1 h2 => ?_)
 rw [← h2, line_words h1] at h
 rcases h with h | h
 · exact h rfl
 · exact h rfl
theorem iParseQuake_ok (s : ByteArray) (hs : s.size ≤ 4194304) : Ctr Tryd.prog 5 [.str s] [] (parseV s) [] := by
 have hsp := splitF_ok s 32 (by omega)
 have hsz : ∀ y ∈ splS 32 s, y.size ≤ s.size := fun y hy => splS_size 32 s hy
 have hno := words_not (s := s)
 have hcand := parseR_cand s
 unfold cand at hcand
 generalize splS 32 s = L at *
 by_cases h8 : L.length = 8
 rotate_left
 · rw [parseV, hno (.inl h8)]
   have d : ((L.length : Int) != 8) = true := by simp; omega
   refine Ctr.intro Tryd.mixed Tryd.func5 rfl Tryd.okF5 ?_
   simp -implicitDefEqProofs -dsimp only [go_sem, Nat.reduceSub, Nat.reduceAdd, Nat.reduceMul, Nat.reduceLT, Nat.reduceLeDiff, Nat.reduceEqDiff, Nat.reduceDiv, Nat.reduceMod, Int.reduceToNat, Int.reduceLE, Int.reduceLT, Int.reduceBEq, Int.reduceBNe, Int.reduceNeg, Int.reduceAdd, Int.reduceSub, Int.reduceMul, reduceCtorEq, Tryd.ntmps5, Tryd.results5]
   (repeat ((repeat1' (first | simp -implicitDefEqProofs -dsimp only [go_sem, Nat.reduceSub, Nat.reduceAdd, Nat.reduceMul, Nat.reduceLT, Nat.reduceLeDiff, Nat.reduceEqDiff, Nat.reduceDiv, Nat.reduceMod, Int.reduceToNat, Int.reduceLE, Int.reduceLT, Int.reduceBEq, Int.reduceBNe, Int.reduceNeg, Int.reduceAdd, Int.reduceSub, Int.reduceMul, reduceCtorEq] | simp -dsimp (disch := omega) only [wrap_i64])); repeat (with_reducible refine sideA ?_)))
   (first | refine callT.at (hsp) ⟨leA, leA, trivial⟩ ?_ | refine callS.at (hsp) ⟨leA, leA, trivial⟩ ?_)
   (repeat ((repeat1' (first | simp -implicitDefEqProofs -dsimp only [go_sem, Nat.reduceSub, Nat.reduceAdd, Nat.reduceMul, Nat.reduceLT, Nat.reduceLeDiff, Nat.reduceEqDiff, Nat.reduceDiv, Nat.reduceMod, Int.reduceToNat, Int.reduceLE, Int.reduceLT, Int.reduceBEq, Int.reduceBNe, Int.reduceNeg, Int.reduceAdd, Int.reduceSub, Int.reduceMul, reduceCtorEq, d] | simp -dsimp (disch := omega) only [wrap_i64])); repeat (with_reducible refine sideA ?_)))
   exact WeakR.drop' rfl (by rfl)
 have h8' := h8
 match L, h8' with
 | [a0, a1, a2, a3, a4, a5, a6, a7], _ =>
 simp only [List.getD_cons_zero, List.getD_cons_succ] at hno hcand
 have hsp : Ctr Tryd.prog 11 [.str s, .str ⟨#[32]⟩] [] (.sl 8 1 [.str a0, .str a1, .str a2, .str a3, .str a4, .str a5, .str a6, .str a7]) [] := hsp
 have d8 : (((8 : Nat) : Int) != 8) = false := rfl
 by_cases h7 : a7.size = 1
 rotate_left
 · rw [parseV, hno (.inr h7)]
   have d : ((a7.size : Int) != 1) = true := by simp; omega
   refine Ctr.intro Tryd.mixed Tryd.func5 rfl Tryd.okF5 ?_
   simp -implicitDefEqProofs -dsimp only [go_sem, Nat.reduceSub, Nat.reduceAdd, Nat.reduceMul, Nat.reduceLT, Nat.reduceLeDiff, Nat.reduceEqDiff, Nat.reduceDiv, Nat.reduceMod, Int.reduceToNat, Int.reduceLE, Int.reduceLT, Int.reduceBEq, Int.reduceBNe, Int.reduceNeg, Int.reduceAdd, Int.reduceSub, Int.reduceMul, reduceCtorEq, Tryd.ntmps5, Tryd.results5]
   (repeat ((repeat1' (first | simp -implicitDefEqProofs -dsimp only [go_sem, Nat.reduceSub, Nat.reduceAdd, Nat.reduceMul, Nat.reduceLT, Nat.reduceLeDiff, Nat.reduceEqDiff, Nat.reduceDiv, Nat.reduceMod, Int.reduceToNat, Int.reduceLE, Int.reduceLT, Int.reduceBEq, Int.reduceBNe, Int.reduceNeg, Int.reduceAdd, Int.reduceSub, Int.reduceMul, reduceCtorEq] | simp -dsimp (disch := omega) only [wrap_i64])); repeat (with_reducible refine sideA ?_)))
   (first | refine callT.at (hsp) ⟨leA, leA, trivial⟩ ?_ | refine callS.at (hsp) ⟨leA, leA, trivial⟩ ?_)
   (repeat ((repeat1' (first | simp -implicitDefEqProofs -dsimp only [go_sem, Nat.reduceSub, Nat.reduceAdd, Nat.reduceMul, Nat.reduceLT, Nat.reduceLeDiff, Nat.reduceEqDiff, Nat.reduceDiv, Nat.reduceMod, Int.reduceToNat, Int.reduceLE, Int.reduceLT, Int.reduceBEq, Int.reduceBNe, Int.reduceNeg, Int.reduceAdd, Int.reduceSub, Int.reduceMul, reduceCtorEq, d, d8] | simp -dsimp (disch := omega) only [wrap_i64])); repeat (with_reducible refine sideA ?_)))
   exact WeakR.drop' rfl (by rfl)
 have d7 : ((a7.size : Int) != 1) = false := by simp; omega
 have z : ∀ y ∈ [a0, a1, a2, a3, a4, a5, a6, a7], y.size ≤ 4194304 := fun y hy => Nat.le_trans (hsz y hy) hs
 have hcut := cut_ok a3 44 (by have := z a3 (by simp); omega)
 have y3 := befaft_size 44 a3
 have y6 := rp_size (tp 77 a6)
 have x6 := tp_size 77 a6
 have x0 := tp_size 35 a0
 have x1 := tp_size 116 a1
 have z0 := z a0 (by simp)
 have z1 := z a1 (by simp)
 have z3 := z a3 (by simp)
 have z5 := z a5 (by simp)
 have z6 := z a6 (by simp)
 have t6 : Ctr Tryd.prog 14 [.str a6, .str ⟨#[77]⟩] [] (.str (tp 77 a6)) [] := trimPrefix_ok a6 ⟨#[77]⟩
 have t0 : Ctr Tryd.prog 14 [.str a0, .str ⟨#[35]⟩] [] (.str (tp 35 a0)) [] := trimPrefix_ok a0 ⟨#[35]⟩
 have t1 : Ctr Tryd.prog 14 [.str a1, .str ⟨#[116]⟩] [] (.str (tp 116 a1)) [] := trimPrefix_ok a1 ⟨#[116]⟩
 have r6 : Ctr Tryd.prog 13 [.str (tp 77 a6), .str ⟨#[46]⟩, .str ⟨#[]⟩, .int .i64 1] [] (.str (rp (tp 77 a6))) [] := replace_ok (tp 77 a6) ⟨#[46]⟩ ⟨#[]⟩ 1 (by omega) (by decide) (by decide)
 have hn := numbersIn_ok [tp 35 a0, tp 116 a1, bef 44 a3, aft 44 a3, a5, rp (tp 77 a6)] (by simp) (by
   intro x hx
   simp only [List.mem_cons, List.not_mem_nil, or_false] at hx
   rcases hx with rfl | rfl | rfl | rfl | rfl | rfl <;> omega)
 generalize rp (tp 77 a6) = v6 at *
 generalize tp 77 a6 = u6 at *
 generalize tp 35 a0 = v0 at *
 generalize tp 116 a1 = v1 at *
 generalize bef 44 a3 = vx at *
 generalize aft 44 a3 = vy at *
 generalize fnd 44 a3 = vb at *
 have hn : Ctr Tryd.prog 15 [StringS.sl [v0, v1, vx, vy, a5, v6]] [] (.osl 0 0 6 1) [some [.int .i64 (numOf v0), .int .i64 (numOf v1), .int .i64 (numOf vx), .int .i64 (numOf vy), .int .i64 (numOf a5), .int .i64 (numOf v6)]] := hn
 generalize numOf v0 = n0 at *
 generalize numOf v1 = n1 at *
 generalize numOf vx = n2 at *
 generalize numOf vy = n3 at *
 generalize numOf a5 = n4 at *
 generalize numOf v6 = n5 at *
 refine Ctr.intro Tryd.mixed Tryd.func5 rfl Tryd.okF5 ?_
 simp -implicitDefEqProofs -dsimp only [go_sem, Nat.reduceSub, Nat.reduceAdd, Nat.reduceMul, Nat.reduceLT, Nat.reduceLeDiff, Nat.reduceEqDiff, Nat.reduceDiv, Nat.reduceMod, Int.reduceToNat, Int.reduceLE, Int.reduceLT, Int.reduceBEq, Int.reduceBNe, Int.reduceNeg, Int.reduceAdd, Int.reduceSub, Int.reduceMul, reduceCtorEq, Tryd.ntmps5, Tryd.results5]
 (repeat ((repeat1' (first | simp -implicitDefEqProofs -dsimp only [go_sem, Nat.reduceSub, Nat.reduceAdd, Nat.reduceMul, Nat.reduceLT, Nat.reduceLeDiff, Nat.reduceEqDiff, Nat.reduceDiv, Nat.reduceMod, Int.reduceToNat, Int.reduceLE, Int.reduceLT, Int.reduceBEq, Int.reduceBNe, Int.reduceNeg, Int.reduceAdd, Int.reduceSub, Int.reduceMul, reduceCtorEq] | simp -dsimp (disch := omega) only [wrap_i64])); repeat (with_reducible refine sideA ?_)))
 (first | refine callT.at (hsp) ⟨leA, leA, trivial⟩ ?_ | refine callS.at (hsp) ⟨leA, leA, trivial⟩ ?_)
 (repeat ((repeat1' (first | simp -implicitDefEqProofs -dsimp only [go_sem, Nat.reduceSub, Nat.reduceAdd, Nat.reduceMul, Nat.reduceLT, Nat.reduceLeDiff, Nat.reduceEqDiff, Nat.reduceDiv, Nat.reduceMod, Int.reduceToNat, Int.reduceLE, Int.reduceLT, Int.reduceBEq, Int.reduceBNe, Int.reduceNeg, Int.reduceAdd, Int.reduceSub, Int.reduceMul, reduceCtorEq, d7, d8] | simp -dsimp (disch := omega) only [wrap_i64])); repeat (with_reducible refine sideA ?_)))
 (first | refine callT.at (hcut) ⟨leA, leA, trivial⟩ ?_ | refine callS.at (hcut) ⟨leA, leA, trivial⟩ ?_)
 (repeat ((repeat1' (first | simp -implicitDefEqProofs -dsimp only [go_sem, Nat.reduceSub, Nat.reduceAdd, Nat.reduceMul, Nat.reduceLT, Nat.reduceLeDiff, Nat.reduceEqDiff, Nat.reduceDiv, Nat.reduceMod, Int.reduceToNat, Int.reduceLE, Int.reduceLT, Int.reduceBEq, Int.reduceBNe, Int.reduceNeg, Int.reduceAdd, Int.reduceSub, Int.reduceMul, reduceCtorEq] | simp -dsimp (disch := omega) only [wrap_i64])); repeat (with_reducible refine sideA ?_)))
 (first | refine callT.at (t6) ⟨leA, leA, trivial⟩ ?_ | refine callS.at (t6) ⟨leA, leA, trivial⟩ ?_)
 (repeat ((repeat1' (first | simp -implicitDefEqProofs -dsimp only [go_sem, Nat.reduceSub, Nat.reduceAdd, Nat.reduceMul, Nat.reduceLT, Nat.reduceLeDiff, Nat.reduceEqDiff, Nat.reduceDiv, Nat.reduceMod, Int.reduceToNat, Int.reduceLE, Int.reduceLT, Int.reduceBEq, Int.reduceBNe, Int.reduceNeg, Int.reduceAdd, Int.reduceSub, Int.reduceMul, reduceCtorEq] | simp -dsimp (disch := omega) only [wrap_i64])); repeat (with_reducible refine sideA ?_)))
 (first | refine callT.at (r6) ⟨leA, leA, leA, leA, trivial⟩ ?_ | refine callS.at (r6) ⟨leA, leA, leA, leA, trivial⟩ ?_)
 (repeat ((repeat1' (first | simp -implicitDefEqProofs -dsimp only [go_sem, Nat.reduceSub, Nat.reduceAdd, Nat.reduceMul, Nat.reduceLT, Nat.reduceLeDiff, Nat.reduceEqDiff, Nat.reduceDiv, Nat.reduceMod, Int.reduceToNat, Int.reduceLE, Int.reduceLT, Int.reduceBEq, Int.reduceBNe, Int.reduceNeg, Int.reduceAdd, Int.reduceSub, Int.reduceMul, reduceCtorEq, ↓gop_move, ↓gop_indexAddr, ↓gop_load, ↓gop_call, ↓gop_buildSlice, ↓gop_index, ↓gop_convert, ↓gop_binOp, ↓gop_build, ↓gop_alloc, ↓gop_assign] | simp -dsimp (disch := omega) only [wrap_i64])); repeat (with_reducible refine sideA ?_)))
 (first | refine callT.at (t0) ⟨leA, leA, trivial⟩ ?_ | refine callS.at (t0) ⟨leA, leA, trivial⟩ ?_)
 (repeat ((repeat1' (first | simp -implicitDefEqProofs -dsimp only [go_sem, Nat.reduceSub, Nat.reduceAdd, Nat.reduceMul, Nat.reduceLT, Nat.reduceLeDiff, Nat.reduceEqDiff, Nat.reduceDiv, Nat.reduceMod, Int.reduceToNat, Int.reduceLE, Int.reduceLT, Int.reduceBEq, Int.reduceBNe, Int.reduceNeg, Int.reduceAdd, Int.reduceSub, Int.reduceMul, reduceCtorEq, ↓gop_move, ↓gop_indexAddr, ↓gop_load, ↓gop_call, ↓gop_buildSlice, ↓gop_index, ↓gop_convert, ↓gop_binOp, ↓gop_build, ↓gop_alloc, ↓gop_assign] | simp -dsimp (disch := omega) only [wrap_i64])); repeat (with_reducible refine sideA ?_)))
 (first | refine callT.at (t1) ⟨leA, leA, trivial⟩ ?_ | refine callS.at (t1) ⟨leA, leA, trivial⟩ ?_)
 (repeat ((repeat1' (first | simp -implicitDefEqProofs -dsimp only [go_sem, Nat.reduceSub, Nat.reduceAdd, Nat.reduceMul, Nat.reduceLT, Nat.reduceLeDiff, Nat.reduceEqDiff, Nat.reduceDiv, Nat.reduceMod, Int.reduceToNat, Int.reduceLE, Int.reduceLT, Int.reduceBEq, Int.reduceBNe, Int.reduceNeg, Int.reduceAdd, Int.reduceSub, Int.reduceMul, reduceCtorEq, ↓gop_move, ↓gop_indexAddr, ↓gop_load, ↓gop_call, ↓gop_buildSlice, ↓gop_index, ↓gop_convert, ↓gop_binOp, ↓gop_build, ↓gop_alloc, ↓gop_assign] | simp -dsimp (disch := omega) only [wrap_i64])); repeat (with_reducible refine sideA ?_)))
 refine callT.at hn ⟨leA, trivial⟩ ?_ (.inr ⟨noRo_ok 3 rfl, NoRoH.of (by rfl)⟩)
 (repeat ((repeat1' (first | simp -implicitDefEqProofs -dsimp only [go_sem, Nat.reduceSub, Nat.reduceAdd, Nat.reduceMul, Nat.reduceLT, Nat.reduceLeDiff, Nat.reduceEqDiff, Nat.reduceDiv, Nat.reduceMod, Int.reduceToNat, Int.reduceLE, Int.reduceLT, Int.reduceBEq, Int.reduceBNe, Int.reduceNeg, Int.reduceAdd, Int.reduceSub, Int.reduceMul, reduceCtorEq, ↓gop_move, ↓gop_indexAddr, ↓gop_load, ↓gop_call, ↓gop_buildSlice, ↓gop_index, ↓gop_convert, ↓gop_binOp, ↓gop_build, ↓gop_alloc, ↓gop_assign] | simp -dsimp (disch := omega) only [wrap_i64])); repeat (with_reducible refine sideA ?_)))
 refine ⟨by omega, ?_⟩
 have hch : (a7.data.toList.headD 0) = a7[0]'(by omega) := by
   obtain ⟨⟨l⟩⟩ := a7
   match l, h7 with
   | [c], _ => rfl
 rw [hch] at hcand
 have hlt : (a7[0]'(by omega)).toNat < 256 := (a7[0]'(by omega)).toNat_lt
 generalize (a7[0]'(by omega)).toNat = ch at *
 have hw : IntKind.i64.wrap (IntKind.i64.wrap (IntKind.i64.wrap (ch : Int) - 65) + 1) = (ch : Int) - 65 + 1 := by
   have w1 : IntKind.i64.wrap (ch : Int) = ch := wrap_i64 (by omega) (by omega)
   have w2 : IntKind.i64.wrap ((ch : Int) - 65) = (ch : Int) - 65 := wrap_i64 (by omega) (by omega)
   rw [w1, w2, wrap_i64 (by omega) (by omega)]
 rw [hw]
 have hql := iQuakeLine_ok ⟨n0, n1, n2, n3, n4, n5, (ch : Int) - 65 + 1⟩
 obtain ⟨q, hq⟩ : ∃ q : QuakeRow, q = ⟨n0, n1, n2, n3, n4, n5, (ch : Int) - 65 + 1⟩ := ⟨_, rfl⟩
 have hqv : V.agg [.int .i64 n0, .int .i64 n1, .int .i64 n2, .int .i64 n3, .int .i64 n4, .int .i64 n5, .int .i64 ((ch : Int) - 65 + 1)] = q.v := by rw [hq]; rfl
 rw [← hq] at hql hcand
 unfold qlineR at hql
 rw [parseV]
 by_cases hv : qrB q = true
 rotate_left
 · rw [hcand, if_neg (fun h => hv h.1)]
   rw [if_neg hv] at hql
   rw [hqv]
   (first | refine callT.at (hql) ⟨leA, trivial⟩ ?_ | refine callS.at (hql) ⟨leA, trivial⟩ ?_)
   (repeat ((repeat1' (first | simp -implicitDefEqProofs -dsimp only [go_sem, Nat.reduceSub, Nat.reduceAdd, Nat.reduceMul, Nat.reduceLT, Nat.reduceLeDiff, Nat.reduceEqDiff, Nat.reduceDiv, Nat.reduceMod, Int.reduceToNat, Int.reduceLE, Int.reduceLT, Int.reduceBEq, Int.reduceBNe, Int.reduceNeg, Int.reduceAdd, Int.reduceSub, Int.reduceMul, reduceCtorEq] | simp -dsimp (disch := omega) only [wrap_i64])); repeat (with_reducible refine sideA ?_)))
   exact WeakR.drop' rfl (by rfl)
 rw [if_pos hv] at hql
 by_cases he : quakeLine q = s
 rotate_left
 · have hne : ((quakeLine q).toList == s.toList) = false := by rw [ba_beq]; exact decide_eq_false he
   rw [hcand, if_neg (fun h => he h.2)]
   rw [hqv]
   (first | refine callT.at (hql) ⟨leA, trivial⟩ ?_ | refine callS.at (hql) ⟨leA, trivial⟩ ?_)
   (repeat ((repeat1' (first | simp -implicitDefEqProofs -dsimp only [go_sem, Nat.reduceSub, Nat.reduceAdd, Nat.reduceMul, Nat.reduceLT, Nat.reduceLeDiff, Nat.reduceEqDiff, Nat.reduceDiv, Nat.reduceMod, Int.reduceToNat, Int.reduceLE, Int.reduceLT, Int.reduceBEq, Int.reduceBNe, Int.reduceNeg, Int.reduceAdd, Int.reduceSub, Int.reduceMul, reduceCtorEq, hne] | simp -dsimp (disch := omega) only [wrap_i64])); repeat (with_reducible refine sideA ?_)))
   exact WeakR.drop' rfl (by rfl)
 · have hne : ((quakeLine q).toList == s.toList) = true := by rw [ba_beq]; exact decide_eq_true he
   rw [hcand, if_pos ⟨hv, he⟩]
   rw [hqv]
   (first | refine callT.at (hql) ⟨leA, trivial⟩ ?_ | refine callS.at (hql) ⟨leA, trivial⟩ ?_)
   (repeat ((repeat1' (first | simp -implicitDefEqProofs -dsimp only [go_sem, Nat.reduceSub, Nat.reduceAdd, Nat.reduceMul, Nat.reduceLT, Nat.reduceLeDiff, Nat.reduceEqDiff, Nat.reduceDiv, Nat.reduceMod, Int.reduceToNat, Int.reduceLE, Int.reduceLT, Int.reduceBEq, Int.reduceBNe, Int.reduceNeg, Int.reduceAdd, Int.reduceSub, Int.reduceMul, reduceCtorEq, hne] | simp -dsimp (disch := omega) only [wrap_i64])); repeat (with_reducible refine sideA ?_)))
   rw [← hqv]
   exact WeakR.drop' rfl (by rfl)
end Go.Proofs
end
section
set_option maxRecDepth 100000
set_option maxHeartbeats 4000000
namespace Go.Proofs
open Go.Lv
theorem l24Digits_ok (s : ByteArray) (hs : s.size ≤ 9) : Ctr Tryd.prog 8 [.str s] [] (.int .i64 (digs s : Int)) [] := by
 refine Ctr.intro Tryd.mixed Tryd.func8 rfl Tryd.okF8 ?_
 simp -implicitDefEqProofs -dsimp only [go_sem, Tryd.ntmps8, Tryd.results8]
 refine LoopT.intro (fun i : Nat => i ≤ s.size) (fun i => ⟨[.str s, .undef, .undef, .int .i64 (digTo s i : Int), .int .i64 i, .undef, .undef, .undef, .undef, .undef, .undef, .undef, .undef, .undef, .undef, .undef, .undef, .undef, .undef, .undef, .undef, .undef, .undef, .undef, .undef, .undef, .undef, .undef, .undef, .undef], [], 0⟩) (fun i => s.size - i) 0 (Nat.zero_le _) ?_ (fun i hi => ?_)
 · refine Weak.cut (0) (by simp) (by simp) ?_ ?_
   · simp [LeC, LeV, ren, cutF]
     rfl
   · rfl
 simp -implicitDefEqProofs -dsimp only [go_sem]
 refine condT.split (fun g1 => ?_) (fun g1 => ?_)
 · have hi' : i < s.size := by simpa using g1
   have hsc := digTo_succ hi'
   have hb := digTo_lt (i := i) hs
   have hb8 := digTo_lt' (s := s) (i := i) (by omega)
   have hc : s[i].toNat < 256 := s[i].toNat_lt
   have hwc : IntKind.i64.wrap (s[i].toNat : Int) = (s[i].toNat : Int) := wrap_i64 (by omega) (by omega)
   have hwm : IntKind.i64.wrap (10 * (digTo s i : Int)) = 10 * (digTo s i : Int) := wrap_i64 (by omega) (by omega)
   have hwa : IntKind.i64.wrap (10 * (digTo s i : Int) + (s[i].toNat : Int)) = 10 * (digTo s i : Int) + (s[i].toNat : Int) := wrap_i64 (by omega) (by omega)
   have hws : IntKind.i64.wrap (10 * (digTo s i : Int) + (s[i].toNat : Int) - 48) = 10 * (digTo s i : Int) + (s[i].toNat : Int) - 48 := wrap_i64 (by omega) (by omega)
   have hw1 : IntKind.i64.wrap ((i : Int) + 1) = ((i + 1 : Nat) : Int) := by rw [wrap_i64 (by omega) (by omega)]; omega
   (repeat ((repeat1' (first | simp -implicitDefEqProofs -dsimp only [go_sem, g1] | simp -dsimp (disch := omega) only [wrap_i64])); repeat (with_reducible refine sideA ?_)))
   refine ⟨⟨by omega, by omega⟩, ?_⟩
   refine guardT.splitT (fun h2 => ?_) (fun h2 => ?_) <;> (repeat ((repeat1' (first | simp -implicitDefEqProofs -dsimp only [go_sem, h2] | simp -dsimp (disch := omega) only [wrap_i64])); repeat (with_reducible refine sideA ?_)))
   · refine ⟨⟨by omega, by omega⟩, ?_⟩
     refine condT.split (fun h3 => ?_) (fun h3 => ?_) <;> (repeat ((repeat1' (first | simp -implicitDefEqProofs -dsimp only [go_sem, h3] | simp -dsimp (disch := omega) only [wrap_i64])); repeat (with_reducible refine sideA ?_)))
     · refine ⟨⟨by omega, by omega⟩, ?_⟩
       rw [if_pos (by simp at h2 h3; omega)] at hsc
       (repeat ((repeat1' (first | simp -implicitDefEqProofs -dsimp only [go_sem, hwc, hwm, hwa, hws, hw1] | simp -dsimp (disch := omega) only [wrap_i64])); repeat (with_reducible refine sideA ?_)))
       refine ⟨i + 1, hi', ?_, by omega⟩
       refine Weak.cut (0) (by simp) (by simp) ?_ ?_
       · simp [LeC, LeV, ren, cutF, hsc]
       · rfl
     · rw [if_neg (by simp at h2 h3; omega)] at hsc
       (repeat ((repeat1' (first | simp -implicitDefEqProofs -dsimp only [go_sem, hw1] | simp -dsimp (disch := omega) only [wrap_i64])); repeat (with_reducible refine sideA ?_)))
       refine ⟨i + 1, hi', ?_, by omega⟩
       refine Weak.cut (0) (by simp) (by simp) ?_ ?_
       · simp [LeC, LeV, ren, cutF, hsc]
       · rfl
   · rw [if_neg (by simp at h2; omega)] at hsc
     (repeat ((repeat1' (first | simp -implicitDefEqProofs -dsimp only [go_sem, hw1] | simp -dsimp (disch := omega) only [wrap_i64])); repeat (with_reducible refine sideA ?_)))
     refine ⟨i + 1, hi', ?_, by omega⟩
     refine Weak.cut (0) (by simp) (by simp) ?_ ?_
     · simp [LeC, LeV, ren, cutF, hsc]
     · rfl
 · have hi' : i = s.size := by simp at g1; omega
   subst hi'
   rw [digTo_all]
   (repeat ((repeat1' (first | simp -implicitDefEqProofs -dsimp only [go_sem, g1] | simp -dsimp (disch := omega) only [wrap_i64])); repeat (with_reducible refine sideA ?_)))
   exact WeakR.drop' rfl (by rfl)
theorem sParseQuake_ok (s : ByteArray) (hs : s.size ≤ 4194304) : Ctr Tryd.prog 4 [.str s] [] (parseV s) [] := by
 have hsp := l1SplitF_ok s 32 (by omega)
 have hsz : ∀ y ∈ splS 32 s, y.size ≤ s.size := fun y hy => splS_size 32 s hy
 by_cases h60 : 60 < s.size
 · have d : decide (60 < (s.size : Int)) = true := decide_eq_true (by omega)
   rw [parseV, parse_long h60]
   refine Ctr.intro Tryd.mixed Tryd.func4 rfl Tryd.okF4 ?_
   simp -implicitDefEqProofs -dsimp only [go_sem, Tryd.ntmps4, Tryd.results4]
   (repeat ((repeat1' (first | simp -implicitDefEqProofs -dsimp only [go_sem] | simp -dsimp (disch := omega) only [wrap_i64])); repeat (with_reducible refine sideA ?_)))
   (first | refine callT.at (hsp) ⟨leA, leA, trivial⟩ ?_ | refine callS.at (hsp) ⟨leA, leA, trivial⟩ ?_)
   (repeat ((repeat1' (first | simp -implicitDefEqProofs -dsimp only [go_sem, d] | simp -dsimp (disch := omega) only [wrap_i64])); repeat (with_reducible refine sideA ?_)))
   exact WeakR.drop' rfl (by rfl)
 have d60 : decide (60 < (s.size : Int)) = false := decide_eq_false (by omega)
 by_cases h8 : (splS 32 s).length = 8
 rotate_left
 · have d : (((splS 32 s).length : Int) != 8) = true := by simp; omega
   rw [parseV, parse_words h8]
   refine Ctr.intro Tryd.mixed Tryd.func4 rfl Tryd.okF4 ?_
   simp -implicitDefEqProofs -dsimp only [go_sem, Tryd.ntmps4, Tryd.results4]
   (repeat ((repeat1' (first | simp -implicitDefEqProofs -dsimp only [go_sem] | simp -dsimp (disch := omega) only [wrap_i64])); repeat (with_reducible refine sideA ?_)))
   (first | refine callT.at (hsp) ⟨leA, leA, trivial⟩ ?_ | refine callS.at (hsp) ⟨leA, leA, trivial⟩ ?_)
   (repeat ((repeat1' (first | simp -implicitDefEqProofs -dsimp only [go_sem, d60, d] | simp -dsimp (disch := omega) only [wrap_i64])); repeat (with_reducible refine sideA ?_)))
   exact WeakR.drop' rfl (by rfl)
 have hsix := @parse_six s
 have hplace := @parse_place s
 have hwide := fun w => @parse_wide s w
 have hend := @parse_end s
 generalize splS 32 s = L at *
 have h8' := h8
 match L, h8' with
 | [a0, a1, a2, a3, a4, a5, a6, a7], _ =>
 have hsix := hsix (a0 := a0) (a6 := a6) (a7 := a7) rfl
 have hplace := hplace (a3 := a3) rfl
 have hend := fun p0 p1 => hend (p0 := p0) (p1 := p1) (a3 := a3) rfl
 have hsp : Ctr Tryd.prog 7 [.str s, .int .u8 32] [] (.sl 8 1 [.str a0, .str a1, .str a2, .str a3, .str a4, .str a5, .str a6, .str a7]) [] := hsp
 have d8 : (((8 : Nat) : Int) != 8) = false := rfl
 by_cases h6 : a6.size < 2
 · have d : decide ((a6.size : Int) < 2) = true := decide_eq_true (by omega)
   rw [parseV, hsix h6]
   refine Ctr.intro Tryd.mixed Tryd.func4 rfl Tryd.okF4 ?_
   simp -implicitDefEqProofs -dsimp only [go_sem, Tryd.ntmps4, Tryd.results4]
   (repeat ((repeat1' (first | simp -implicitDefEqProofs -dsimp only [go_sem] | simp -dsimp (disch := omega) only [wrap_i64])); repeat (with_reducible refine sideA ?_)))
   (first | refine callT.at (hsp) ⟨leA, leA, trivial⟩ ?_ | refine callS.at (hsp) ⟨leA, leA, trivial⟩ ?_)
   (repeat ((repeat1' (first | simp -implicitDefEqProofs -dsimp only [go_sem, d60, d8, d] | simp -dsimp (disch := omega) only [wrap_i64])); repeat (with_reducible refine sideA ?_)))
   exact WeakR.drop' rfl (by rfl)
 have d6 : decide ((a6.size : Int) < 2) = false := decide_eq_false (by omega)
 have hsp3 := l1SplitF_ok a3 44 (by have := hsz a3 (by simp); omega)
 have hpsz : ∀ y ∈ splS 44 a3, y.size ≤ a3.size := fun y hy => splS_size 44 a3 hy
 generalize splS 44 a3 = Q at *
 refine Ctr.intro Tryd.mixed Tryd.func4 rfl Tryd.okF4 ?_
 simp -implicitDefEqProofs -dsimp only [go_sem, Tryd.ntmps4, Tryd.results4]
 (repeat ((repeat1' (first | simp -implicitDefEqProofs -dsimp only [go_sem] | simp -dsimp (disch := omega) only [wrap_i64])); repeat (with_reducible refine sideA ?_)))
 (first | refine callT.at (hsp) ⟨leA, leA, trivial⟩ ?_ | refine callS.at (hsp) ⟨leA, leA, trivial⟩ ?_)
 (repeat ((repeat1' (first | simp -implicitDefEqProofs -dsimp only [go_sem, d60, d8, d6] | simp -dsimp (disch := omega) only [wrap_i64])); repeat (with_reducible refine sideA ?_)))
 (first | refine callT.at (hsp3) ⟨leA, leA, trivial⟩ ?_ | refine callS.at (hsp3) ⟨leA, leA, trivial⟩ ?_)
 (repeat ((repeat1' (first | simp -implicitDefEqProofs -dsimp only [go_sem] | simp -dsimp (disch := omega) only [wrap_i64])); repeat (with_reducible refine sideA ?_)))
 obtain ⟨W, hW⟩ : ∃ W, W = [a0, a1, a2, a3, a4, a5, a6, a7] := ⟨_, rfl⟩
 have hWl : W.length = 8 := by rw [hW]; rfl
 have hWs : StringS.sl W = .sl 8 1 [.str a0, .str a1, .str a2, .str a3, .str a4, .str a5, .str a6, .str a7] := by rw [hW]; rfl
 rw [← hW] at hsz hwide
 refine LoopT.intro (fun i : Nat => i ≤ 8 ∧ ∀ j (hj : j < W.length), j < i → (W[j]).size ≤ 9) (fun i => ⟨[.str s, .undef, .ptr 0 0, .undef, StringS.sl W, StringS.sl Q, .int .i64 i, .undef, .undef, .undef, .undef, .undef, .undef, .undef, .undef, .undef, .undef, .undef, .undef, .undef, .undef, .undef, .undef, .undef, .undef, .undef, .undef, .undef, .undef, .undef, .undef, .undef, .undef, .undef, .undef, .undef, .undef, .undef, .undef, .undef, .undef, .undef, .undef, .undef, .undef, .undef, .undef, .undef, .undef, .undef, .undef, .undef, .undef, .undef, .undef, .undef, .undef, .undef, .undef, .undef, .undef, .undef, .undef, .undef, .undef, .undef, .undef, .undef, .undef, .undef, .undef, .undef, .undef, .undef, .undef, .undef, .undef, .undef, .undef, .undef, .undef, .undef, .undef, .undef, .undef, .undef, .undef, .undef, .undef, .undef, .undef, .undef, .undef, .undef, .undef, .undef, .undef, .undef], [some [.int .i64 0, .int .i64 0, .int .i64 0, .int .i64 0, .int .i64 0, .int .i64 0, .int .i64 0]], 0⟩) (fun i => 8 - i) 0 ⟨Nat.zero_le _, fun j hj h => by omega⟩ ?_ (fun i hi => ?_)
 · refine Weak.cut (1) (by simp) (by simp) ?_ ?_
   · rw [hWs]; simp [LeC, LeV, ren, cutF, StringS.sl]
   · rfl
 obtain ⟨hi8, hi9⟩ := hi
 have hw1 : IntKind.i64.wrap ((i : Int) + 1) = ((i + 1 : Nat) : Int) := by rw [wrap_i64 (by omega) (by omega)]; omega
 by_cases hlt : i < 8
 · have hi' : i < W.length := by omega
   have hd : decide ((i : Int) < (W.length : Int)) = true := decide_eq_true (by omega)
   have hr := rows_at StringS.csl hi'
   simp -implicitDefEqProofs -dsimp only [go_sem, StringS.sl]
   (repeat ((repeat1' (first | simp -implicitDefEqProofs -dsimp only [go_sem, hd, hr, StringS.cs] | simp -dsimp (disch := omega) only [wrap_i64])); repeat (with_reducible refine sideA ?_)))
   refine condT.split (fun h2 => ?_) (fun h2 => ?_) <;> (repeat ((repeat1' (first | simp -implicitDefEqProofs -dsimp only [go_sem, h2] | simp -dsimp (disch := omega) only [wrap_i64])); repeat (with_reducible refine sideA ?_)))
   · rw [parseV, hwide W[i] (List.getElem_mem hi') (by simp at h2; omega)]
     exact WeakR.drop' rfl (by rfl)
   · refine ⟨i + 1, ⟨hlt, fun j hj hji => ?_⟩, ?_, by omega⟩
     · rcases Nat.lt_or_ge j i with h | h
       · exact hi9 j hj h
       · obtain rfl : j = i := by omega
         simp at h2; omega
     · refine Weak.cut (1) (by simp) (by simp) ?_ ?_
       · simp [LeC, LeV, ren, cutF, StringS.sl, hw1]
       · rfl
 obtain rfl : i = 8 := by omega
 have hd : decide (((8 : Nat) : Int) < (W.length : Int)) = false := decide_eq_false (by omega)
 simp -implicitDefEqProofs -dsimp only [go_sem, StringS.sl]
 (repeat ((repeat1' (first | simp -implicitDefEqProofs -dsimp only [go_sem, hd] | simp -dsimp (disch := omega) only [wrap_i64])); repeat (with_reducible refine sideA ?_)))
 by_cases hq2 : Q.length = 2
 rotate_left
 · have d : ((Q.length : Int) != 2) = true := by simp; omega
   (repeat ((repeat1' (first | simp -implicitDefEqProofs -dsimp only [go_sem, d] | simp -dsimp (disch := omega) only [wrap_i64])); repeat (with_reducible refine sideA ?_)))
   rw [parseV, hplace hq2]
   exact WeakR.drop' rfl (by rfl)
 have d2 : ((Q.length : Int) != 2) = false := by simp; omega
 have hq2' := hq2
 match Q, hq2' with
 | [p0, p1], _ =>
 have hend := hend p0 p1 rfl
 have n0 : a0.size ≤ 9 := by subst hW; exact hi9 0 (by simp) (by omega)
 have n1 : a1.size ≤ 9 := by subst hW; exact hi9 1 (by simp) (by omega)
 have n3 : a3.size ≤ 9 := by subst hW; exact hi9 3 (by simp) (by omega)
 have n5 : a5.size ≤ 9 := by subst hW; exact hi9 5 (by simp) (by omega)
 have n6 : a6.size ≤ 9 := by subst hW; exact hi9 6 (by simp) (by omega)
 have m0 : p0.size ≤ 9 := by have := hpsz p0 (by simp); omega
 have m1 : p1.size ≤ 9 := by have := hpsz p1 (by simp); omega
 have c0 := l24Digits_ok a0 n0
 have c1 := l24Digits_ok a1 n1
 have c5 := l24Digits_ok a5 n5
 have c6 := l24Digits_ok a6 n6
 have e0 := l24Digits_ok p0 m0
 have e1 := l24Digits_ok p1 m1
 have b6 : (digs a6 : Int) < 1000000000 := by have := digL_lt (k := 9) a6.data.toList (by rw [ba_len]; omega); simp only [digs]; omega
 unfold rdG at hend
 generalize (digs a0 : Int) = x0 at *
 generalize (digs a1 : Int) = x1 at *
 generalize (digs p0 : Int) = y0 at *
 generalize (digs p1 : Int) = y1 at *
 generalize (digs a5 : Int) = x5 at *
 have b6' : (0 : Int) ≤ (digs a6 : Int) := by omega
 generalize (digs a6 : Int) = x6 at *
 have d22 : (((2 : Nat) : Int) != 2) = false := rfl
 have hQr : rows StringS.cs [p0, p1] = [.str p0, .str p1] := rfl
 have hWr : rows StringS.cs W = [.str a0, .str a1, .str a2, .str a3, .str a4, .str a5, .str a6, .str a7] := by rw [hW]; rfl
 (repeat ((repeat1' (first | simp -implicitDefEqProofs -dsimp only [go_sem, d2, d22, hQr, hWr, hWl, List.length_cons, List.length_nil, ↓gop_move, ↓gop_indexAddr, ↓gop_load, ↓gop_call, ↓gop_build, ↓gop_alloc] | simp -dsimp (disch := omega) only [wrap_i64])); repeat (with_reducible refine sideA ?_)))
 (first | refine callT.at (c0) ⟨leA, trivial⟩ ?_ | refine callS.at (c0) ⟨leA, trivial⟩ ?_)
 (repeat ((repeat1' (first | simp -implicitDefEqProofs -dsimp only [go_sem, ↓gop_move, ↓gop_indexAddr, ↓gop_load, ↓gop_call, ↓gop_build, ↓gop_alloc] | simp -dsimp (disch := omega) only [wrap_i64])); repeat (with_reducible refine sideA ?_)))
 (first | refine callT.at (c1) ⟨leA, trivial⟩ ?_ | refine callS.at (c1) ⟨leA, trivial⟩ ?_)
 (repeat ((repeat1' (first | simp -implicitDefEqProofs -dsimp only [go_sem, ↓gop_move, ↓gop_indexAddr, ↓gop_load, ↓gop_call, ↓gop_build, ↓gop_alloc] | simp -dsimp (disch := omega) only [wrap_i64])); repeat (with_reducible refine sideA ?_)))
 (first | refine callT.at (e0) ⟨leA, trivial⟩ ?_ | refine callS.at (e0) ⟨leA, trivial⟩ ?_)
 (repeat ((repeat1' (first | simp -implicitDefEqProofs -dsimp only [go_sem, ↓gop_move, ↓gop_indexAddr, ↓gop_load, ↓gop_call, ↓gop_build, ↓gop_alloc] | simp -dsimp (disch := omega) only [wrap_i64])); repeat (with_reducible refine sideA ?_)))
 (first | refine callT.at (e1) ⟨leA, trivial⟩ ?_ | refine callS.at (e1) ⟨leA, trivial⟩ ?_)
 (repeat ((repeat1' (first | simp -implicitDefEqProofs -dsimp only [go_sem, ↓gop_move, ↓gop_indexAddr, ↓gop_load, ↓gop_call, ↓gop_build, ↓gop_alloc] | simp -dsimp (disch := omega) only [wrap_i64])); repeat (with_reducible refine sideA ?_)))
 (first | refine callT.at (c5) ⟨leA, trivial⟩ ?_ | refine callS.at (c5) ⟨leA, trivial⟩ ?_)
 (repeat ((repeat1' (first | simp -implicitDefEqProofs -dsimp only [go_sem, ↓gop_move, ↓gop_indexAddr, ↓gop_load, ↓gop_call, ↓gop_build, ↓gop_alloc] | simp -dsimp (disch := omega) only [wrap_i64])); repeat (with_reducible refine sideA ?_)))
 (first | refine callT.at (c6) ⟨leA, trivial⟩ ?_ | refine callS.at (c6) ⟨leA, trivial⟩ ?_)
 (repeat ((repeat1' (first | simp -implicitDefEqProofs -dsimp only [go_sem, ↓gop_move, ↓gop_indexAddr, ↓gop_load, ↓gop_call, ↓gop_build, ↓gop_alloc] | simp -dsimp (disch := omega) only [wrap_i64])); repeat (with_reducible refine sideA ?_)))
 refine ⟨by omega, ?_⟩
 have h1l : 1 < a6.size := by omega
 have hsg : (a6.data.toList[1]? = some 45) ↔ (a6[1]'h1l).toNat = 45 := by
   rw [List.getElem?_eq_getElem (by rw [ba_len]; exact h1l), ba_get a6 h1l, Option.some.injEq, ← UInt8.toNat_inj]
   rfl
 refine condT.split (fun hm => ?_) (fun hm => ?_)
 · have hs1 : a6.data.toList[1]? = some 45 := hsg.2 (by simp at hm; omega)
   simp only [if_pos hs1] at hend
   have hwn : IntKind.i64.wrap (0 - x6) = -x6 := by rw [wrap_i64 (by omega) (by omega)]; omega
   obtain ⟨sz, hsz⟩ : ∃ sz, sz = -x6 := ⟨_, rfl⟩
   rw [← hsz] at hend hwn
   (repeat ((repeat1' (first | simp -implicitDefEqProofs -dsimp only [go_sem, hm, hwn] | simp -dsimp (disch := omega) only [wrap_i64])); repeat (with_reducible refine sideA ?_)))
   refine LoopT.intro (fun g : Nat => 1 ≤ g ∧ g ≤ 5 ∧ ∀ j : Int, 1 ≤ j → j < g → ¬ (qrB ⟨x0, x1, y0, y1, x5, sz, j⟩ = true ∧ quakeLine ⟨x0, x1, y0, y1, x5, sz, j⟩ = s)) (fun g => ⟨[.str s, .undef, .ptr 0 0, .undef, .undef, .undef, .undef, .ptr 1 0, .int .i64 g, .undef, .undef, .undef, .undef, .undef, .undef, .undef, .undef, .undef, .undef, .undef, .undef, .undef, .undef, .undef, .undef, .undef, .undef, .undef, .undef, .undef, .undef, .undef, .undef, .undef, .undef, .undef, .undef, .undef, .undef, .undef, .undef, .undef, .undef, .undef, .undef, .undef, .undef, .undef, .undef, .undef, .undef, .undef, .undef, .undef, .undef, .undef, .undef, .undef, .undef, .undef, .undef, .undef, .undef, .undef, .undef, .undef, .undef, .undef, .undef, .undef, .undef, .undef, .undef, .undef, .undef, .undef, .undef, .undef, .undef, .undef, .undef, .undef, .undef, .undef, .undef, .undef, .undef, .undef, .undef, .undef, .undef, .undef, .undef, .undef, .undef, .undef, .undef, .undef], [some [.int .i64 0, .int .i64 0, .int .i64 0, .int .i64 0, .int .i64 0, .int .i64 0, .int .i64 0], some [.int .i64 x0, .int .i64 x1, .int .i64 y0, .int .i64 y1, .int .i64 x5, .int .i64 sz, .int .i64 ((g : Int) - 1)]], 0⟩) (fun g => 5 - g) 1 ⟨by omega, by omega, fun j h1 h2 => by omega⟩ ?_ (fun g hg => ?_)
   · refine Weak.cut (2) (by simp) (by simp) ?_ ?_
     · simp [LeC, LeV, ren, cutF]
     · simp [cutH, cutB, ren]
   obtain ⟨hg1, hg5, hgn⟩ := hg
   have hwg : IntKind.i64.wrap ((g : Int) + 1) = ((g + 1 : Nat) : Int) := by rw [wrap_i64 (by omega) (by omega)]; omega
   by_cases hg4 : g ≤ 4
   · have hd4 : decide ((g : Int) ≤ 4) = true := decide_eq_true (by omega)
     (repeat ((repeat1' (first | simp -implicitDefEqProofs -dsimp only [go_sem, hd4] | simp -dsimp (disch := omega) only [wrap_i64])); repeat (with_reducible refine sideA ?_)))
     have h1 := l24One_ok ⟨x0, x1, y0, y1, x5, sz, g⟩
     have h2 := l24Line_ok ⟨x0, x1, y0, y1, x5, sz, g⟩
     by_cases hv : qrB ⟨x0, x1, y0, y1, x5, sz, g⟩ = true
     · have h2 := h2 hv
       rw [hv] at h1
       by_cases he : quakeLine ⟨x0, x1, y0, y1, x5, sz, g⟩ = s
       · have hne : ((quakeLine ⟨x0, x1, y0, y1, x5, sz, g⟩).toList == s.toList) = true := by rw [ba_beq]; exact decide_eq_true he
         rw [parseV, parseR_some hv he]
         generalize quakeLine ⟨x0, x1, y0, y1, x5, sz, g⟩ = ln at *
         (first | refine callT.at (h1) ⟨leA, trivial⟩ ?_ | refine callS.at (h1) ⟨leA, trivial⟩ ?_)
         (repeat ((repeat1' (first | simp -implicitDefEqProofs -dsimp only [go_sem] | simp -dsimp (disch := omega) only [wrap_i64])); repeat (with_reducible refine sideA ?_)))
         (first | refine callT.at (h2) ⟨leA, trivial⟩ ?_ | refine callS.at (h2) ⟨leA, trivial⟩ ?_)
         (repeat ((repeat1' (first | simp -implicitDefEqProofs -dsimp only [go_sem, hne] | simp -dsimp (disch := omega) only [wrap_i64])); repeat (with_reducible refine sideA ?_)))
         exact WeakR.drop' rfl (by rfl)
       · have hne : ((quakeLine ⟨x0, x1, y0, y1, x5, sz, g⟩).toList == s.toList) = false := by rw [ba_beq]; exact decide_eq_false he
         have hnx : ∀ j : Int, 1 ≤ j → j < ((g + 1 : Nat) : Int) → ¬ (qrB ⟨x0, x1, y0, y1, x5, sz, j⟩ = true ∧ quakeLine ⟨x0, x1, y0, y1, x5, sz, j⟩ = s) := by
           intro j h3 h4
           by_cases e : j = g
           · rw [e]; exact fun h => he h.2
           · exact hgn j h3 (by omega)
         generalize quakeLine ⟨x0, x1, y0, y1, x5, sz, g⟩ = ln at *
         (first | refine callT.at (h1) ⟨leA, trivial⟩ ?_ | refine callS.at (h1) ⟨leA, trivial⟩ ?_)
         (repeat ((repeat1' (first | simp -implicitDefEqProofs -dsimp only [go_sem] | simp -dsimp (disch := omega) only [wrap_i64])); repeat (with_reducible refine sideA ?_)))
         (first | refine callT.at (h2) ⟨leA, trivial⟩ ?_ | refine callS.at (h2) ⟨leA, trivial⟩ ?_)
         (repeat ((repeat1' (first | simp -implicitDefEqProofs -dsimp only [go_sem, hne] | simp -dsimp (disch := omega) only [wrap_i64])); repeat (with_reducible refine sideA ?_)))
         refine ⟨g + 1, ⟨by omega, by omega, hnx⟩, ?_, by omega⟩
         refine Weak.cut (2) (by simp) (by simp) ?_ ?_
         · simp [LeC, LeV, ren, cutF, hwg]
         · simp [cutH, cutB, ren]
     · have hv' : qrB ⟨x0, x1, y0, y1, x5, sz, g⟩ = false := by simpa using hv
       rw [hv'] at h1
       (first | refine callT.at (h1) ⟨leA, trivial⟩ ?_ | refine callS.at (h1) ⟨leA, trivial⟩ ?_)
       (repeat ((repeat1' (first | simp -implicitDefEqProofs -dsimp only [go_sem] | simp -dsimp (disch := omega) only [wrap_i64])); repeat (with_reducible refine sideA ?_)))
       refine ⟨g + 1, ⟨by omega, by omega, fun j h3 h4 => ?_⟩, ?_, by omega⟩
       · by_cases e : j = g
         · rw [e]; exact fun h => hv h.1
         · exact hgn j h3 (by omega)
       · refine Weak.cut (2) (by simp) (by simp) ?_ ?_
         · simp [LeC, LeV, ren, cutF, hwg]
         · simp [cutH, cutB, ren]
   · have hd4 : decide ((g : Int) ≤ 4) = false := decide_eq_false (by omega)
     (repeat ((repeat1' (first | simp -implicitDefEqProofs -dsimp only [go_sem, hd4] | simp -dsimp (disch := omega) only [wrap_i64])); repeat (with_reducible refine sideA ?_)))
     rw [parseV, hend (fun j h3 h4 => hgn j h3 (by omega))]
     exact WeakR.drop' rfl (by rfl)
 · have hs1 : ¬ a6.data.toList[1]? = some 45 := fun h => by have := hsg.1 h; simp at hm; omega
   simp only [if_neg hs1] at hend
   obtain ⟨sz, hsz⟩ : ∃ sz, sz = x6 := ⟨_, rfl⟩
   rw [← hsz] at hend
   rw [← hsz]
   (repeat ((repeat1' (first | simp -implicitDefEqProofs -dsimp only [go_sem, hm] | simp -dsimp (disch := omega) only [wrap_i64])); repeat (with_reducible refine sideA ?_)))
   refine LoopT.intro (fun g : Nat => 1 ≤ g ∧ g ≤ 5 ∧ ∀ j : Int, 1 ≤ j → j < g → ¬ (qrB ⟨x0, x1, y0, y1, x5, sz, j⟩ = true ∧ quakeLine ⟨x0, x1, y0, y1, x5, sz, j⟩ = s)) (fun g => ⟨[.str s, .undef, .ptr 0 0, .undef, .undef, .undef, .undef, .ptr 1 0, .int .i64 g, .undef, .undef, .undef, .undef, .undef, .undef, .undef, .undef, .undef, .undef, .undef, .undef, .undef, .undef, .undef, .undef, .undef, .undef, .undef, .undef, .undef, .undef, .undef, .undef, .undef, .undef, .undef, .undef, .undef, .undef, .undef, .undef, .undef, .undef, .undef, .undef, .undef, .undef, .undef, .undef, .undef, .undef, .undef, .undef, .undef, .undef, .undef, .undef, .undef, .undef, .undef, .undef, .undef, .undef, .undef, .undef, .undef, .undef, .undef, .undef, .undef, .undef, .undef, .undef, .undef, .undef, .undef, .undef, .undef, .undef, .undef, .undef, .undef, .undef, .undef, .undef, .undef, .undef, .undef, .undef, .undef, .undef, .undef, .undef, .undef, .undef, .undef, .undef, .undef], [some [.int .i64 0, .int .i64 0, .int .i64 0, .int .i64 0, .int .i64 0, .int .i64 0, .int .i64 0], some [.int .i64 x0, .int .i64 x1, .int .i64 y0, .int .i64 y1, .int .i64 x5, .int .i64 sz, .int .i64 ((g : Int) - 1)]], 0⟩) (fun g => 5 - g) 1 ⟨by omega, by omega, fun j h1 h2 => by omega⟩ ?_ (fun g hg => ?_)
   · refine Weak.cut (2) (by simp) (by simp) ?_ ?_
     · simp [LeC, LeV, ren, cutF]
     · simp [cutH, cutB, ren]
   obtain ⟨hg1, hg5, hgn⟩ := hg
   have hwg : IntKind.i64.wrap ((g : Int) + 1) = ((g + 1 : Nat) : Int) := by rw [wrap_i64 (by omega) (by omega)]; omega
   by_cases hg4 : g ≤ 4
   · have hd4 : decide ((g : Int) ≤ 4) = true := decide_eq_true (by omega)
     (repeat ((repeat1' (first | simp -implicitDefEqProofs -dsimp only [go_sem, hd4] | simp -dsimp (disch := omega) only [wrap_i64])); repeat (with_reducible refine sideA ?_)))
     have h1 := l24One_ok ⟨x0, x1, y0, y1, x5, sz, g⟩
     have h2 := l24Line_ok ⟨x0, x1, y0, y1, x5, sz, g⟩
     by_cases hv : qrB ⟨x0, x1, y0, y1, x5, sz, g⟩ = true
     · have h2 := h2 hv
       rw [hv] at h1
       by_cases he : quakeLine ⟨x0, x1, y0, y1, x5, sz, g⟩ = s
       · have hne : ((quakeLine ⟨x0, x1, y0, y1, x5, sz, g⟩).toList == s.toList) = true := by rw [ba_beq]; exact decide_eq_true he
         rw [parseV, parseR_some hv he]
         generalize quakeLine ⟨x0, x1, y0, y1, x5, sz, g⟩ = ln at *
         (first | refine callT.at (h1) ⟨leA, trivial⟩ ?_ | refine callS.at (h1) ⟨leA, trivial⟩ ?_)
         (repeat ((repeat1' (first | simp -implicitDefEqProofs -dsimp only [go_sem] | simp -dsimp (disch := omega) only [wrap_i64])); repeat (with_reducible refine sideA ?_)))
         (first | refine callT.at (h2) ⟨leA, trivial⟩ ?_ | refine callS.at (h2) ⟨leA, trivial⟩ ?_)
         (repeat ((repeat1' (first | simp -implicitDefEqProofs -dsimp only [go_sem, hne] | simp -dsimp (disch := omega) only [wrap_i64])); repeat (with_reducible refine sideA ?_)))
         exact WeakR.drop' rfl (by rfl)
       · have hne : ((quakeLine ⟨x0, x1, y0, y1, x5, sz, g⟩).toList == s.toList) = false := by rw [ba_beq]; exact decide_eq_false he
         have hnx : ∀ j : Int, 1 ≤ j → j < ((g + 1 : Nat) : Int) → ¬ (qrB ⟨x0, x1, y0, y1, x5, sz, j⟩ = true ∧ quakeLine ⟨x0, x1, y0, y1, x5, sz, j⟩ = s) := by
           intro j h3 h4
           by_cases e : j = g
           · rw [e]; exact fun h => he h.2
           · exact hgn j h3 (by omega)
         generalize quakeLine ⟨x0, x1, y0, y1, x5, sz, g⟩ = ln at *
         (first | refine callT.at (h1) ⟨leA, trivial⟩ ?_ | refine callS.at (h1) ⟨leA, trivial⟩ ?_)
         (repeat ((repeat1' (first | simp -implicitDefEqProofs -dsimp only [go_sem] | simp -dsimp (disch := omega) only [wrap_i64])); repeat (with_reducible refine sideA ?_)))
         (first | refine callT.at (h2) ⟨leA, trivial⟩ ?_ | refine callS.at (h2) ⟨leA, trivial⟩ ?_)
         (repeat ((repeat1' (first | simp -implicitDefEqProofs -dsimp only [go_sem, hne] | simp -dsimp (disch := omega) only [wrap_i64])); repeat (with_reducible refine sideA ?_)))
         refine ⟨g + 1, ⟨by omega, by omega, hnx⟩, ?_, by omega⟩
         refine Weak.cut (2) (by simp) (by simp) ?_ ?_
         · simp [LeC, LeV, ren, cutF, hwg]
         · simp [cutH, cutB, ren]
     · have hv' : qrB ⟨x0, x1, y0, y1, x5, sz, g⟩ = false := by simpa using hv
       rw [hv'] at h1
       (first | refine callT.at (h1) ⟨leA, trivial⟩ ?_ | refine callS.at (h1) ⟨leA, trivial⟩ ?_)
       (repeat ((repeat1' (first | simp -implicitDefEqProofs -dsimp only [go_sem] | simp -dsimp (disch := omega) only [wrap_i64])); repeat (with_reducible refine sideA ?_)))
       refine ⟨g + 1, ⟨by omega, by omega, fun j h3 h4 => ?_⟩, ?_, by omega⟩
       · by_cases e : j = g
         · rw [e]; exact fun h => hv h.1
         · exact hgn j h3 (by omega)
       · refine Weak.cut (2) (by simp) (by simp) ?_ ?_
         · simp [LeC, LeV, ren, cutF, hwg]
         · simp [cutH, cutB, ren]
   · have hd4 : decide ((g : Int) ≤ 4) = false := decide_eq_false (by omega)
     (repeat ((repeat1' (first | simp -implicitDefEqProofs -dsimp only [go_sem, hd4] | simp -dsimp (disch := omega) only [wrap_i64])); repeat (with_reducible refine sideA ?_)))
     rw [parseV, hend (fun j h3 h4 => hgn j h3 (by omega))]
     exact WeakR.drop' rfl (by rfl)
end Go.Proofs
end
section
set_option maxRecDepth 100000
set_option maxHeartbeats 2000000
namespace Go.Proofs
open Go.Lv
theorem fnParseQuake_ok (s : ByteArray) (hs : strR s) : Ctr Tryd.prog 3 [.str s] [] (.bool true) [] := by
 refine Ctr.intro Tryd.mixed Tryd.func3 rfl Tryd.okF3 ?_
 simp -implicitDefEqProofs -dsimp only [go_sem, Tryd.ntmps3, Tryd.results3]
 (repeat ((repeat1' (first | simp -implicitDefEqProofs -dsimp only [go_sem] | simp -dsimp (disch := omega) only [wrap_i64])); repeat (with_reducible refine sideA ?_)))
 refine condT.split (fun h1 => ?_) (fun h1 => ?_) <;> (repeat ((repeat1' (first | simp -implicitDefEqProofs -dsimp only [go_sem, h1] | simp -dsimp (disch := omega) only [wrap_i64])); repeat (with_reducible refine sideA ?_)))
 · exact WeakR.drop' rfl (by rfl)
 have hsz : s.size ≤ 4194304 := by simp at h1; omega
 have hi := iParseQuake_ok s hsz
 have hsp := sParseQuake_ok s hsz
 obtain ⟨q, b, e⟩ : ∃ (q : QuakeRow) (b : Bool), parseV s = .tup [q.v, .bool b] := by
   unfold parseV
   split <;> exact ⟨_, _, rfl⟩
 rw [e] at hi hsp
 (first | refine callT.at (hsp) ⟨leA, trivial⟩ ?_ | refine callS.at (hsp) ⟨leA, trivial⟩ ?_)
 (repeat ((repeat1' (first | simp -implicitDefEqProofs -dsimp only [go_sem, QuakeRow.v] | simp -dsimp (disch := omega) only [wrap_i64])); repeat (with_reducible refine sideA ?_)))
 (first | refine callT.at (hi) ⟨leA, trivial⟩ ?_ | refine callS.at (hi) ⟨leA, trivial⟩ ?_)
 (repeat ((repeat1' (first | simp -implicitDefEqProofs -dsimp only [go_sem, QuakeRow.v] | simp -dsimp (disch := omega) only [wrap_i64])); repeat (with_reducible refine sideA ?_)))
 (first | refine callT.at (eqQuakeRow_ok q) ⟨leA, leA, trivial⟩ ?_ | refine callS.at (eqQuakeRow_ok q) ⟨leA, leA, trivial⟩ ?_)
 (repeat ((repeat1' (first | simp -implicitDefEqProofs -dsimp only [go_sem] | simp -dsimp (disch := omega) only [wrap_i64])); repeat (with_reducible refine sideA ?_)))
 exact WeakR.drop' (by simp) (by rfl)
end Go.Proofs
end
section
open Go.ChangeShapes Go.WideShapes
namespace Go.Lv

def ShC (P : Program) : Nat → TypeId → List V → Prop
 | 0, _, _ => False
 | n + 1, t, xs =>
   match P.underlying t with
   | some .bool => ∃ b, xs = [.bool b]
   | some (.int k) => ∃ z, xs = [.int k z] ∧ (Lit.int k z).wf = true
   | some .string => ∃ s : ByteArray, xs = [.str s] ∧ s.size ≤ maxLen
   | some (.slice e) => ∃ l cs, xs = [.sl l (P.cellsOf e) cs] ∧ l ≤ maxLen ∧ cs.length = l * P.cellsOf e ∧ ∀ i, i < l → ShC P n e ((cs.drop (i * P.cellsOf e)).take (P.cellsOf e))
   | some (.struct fs) => xs.length = P.cellsOf t ∧ ∀ f ∈ fs.toList, ShC P n f.type ((xs.drop f.offset).take (P.cellsOf f.type))
   | _ => False

def tiled (P : Program) : List Field → Nat → Nat → Bool
 | [], off, n => off == n
 | f :: fs, off, n => f.offset == off && tiled P fs (off + P.cellsOf f.type) n

def plainT (P : Program) : Nat → TypeId → Bool
 | 0, _ => false
 | n + 1, t =>
   match P.underlying t with
   | some .bool => true
   | some (.int _) => true
   | some .string => true
   | some (.slice e) => decide (0 < P.cellsOf e) && plainT P n e
   | some (.struct fs) => tiled P fs.toList 0 (P.cellsOf t) && fs.toList.all fun f => plainT P n f.type
   | _ => false

section
variable {P : Program} {w : World} {m : Nat → Nat}

def Rds (w : World) (m : Nat → Nat) (cs : List Value) (xs : List V) : Prop :=
 cs.length = xs.length ∧ ∀ i (hi : i < xs.length), RV w m [] (fun _ => False) false (cs.getD i Go.undef) xs[i]

theorem Rds.append {a b : List Value} {x y : List V} (h : Rds w m a x) (k : Rds w m b y) : Rds w m (a ++ b) (x ++ y) := by
 refine ⟨by simp [h.1, k.1], fun i hi => ?_⟩
 by_cases hlt : i < x.length
 · rw [List.getElem_append_left hlt]
   have := h.2 i hlt
   rw [List.getD_eq_getElem?_getD, List.getElem?_append_left (by rw [h.1]; exact hlt), ← List.getD_eq_getElem?_getD]
   exact this
 · rw [List.getElem_append_right (by omega)]
   have := k.2 (i - x.length) (by simp at hi; omega)
   rw [List.getD_eq_getElem?_getD, List.getElem?_append_right (by rw [h.1]; omega), ← List.getD_eq_getElem?_getD, h.1]
   exact this

theorem Rds.one {v : Value} {x : V} (h : RV w m [] (fun _ => False) false v x) : Rds w m [v] [x] :=
 ⟨rfl, fun i hi => by have : i = 0 := by simp at hi; omega
                      subst this; exact h⟩

theorem Rds.nil : Rds w m [] [] := ⟨rfl, fun i hi => by simp at hi⟩

theorem fields_sh {n : Nat} {cs : List Value} : ∀ (fs : List Field) (off : Nat), tiled P fs off cs.length = true → off ≤ cs.length →
   (∀ f ∈ fs, ∃ xs, Rds w m ((cs.drop f.offset).take (P.cellsOf f.type)) xs ∧ ShC P n f.type xs) →
   ∃ ys, Rds w m (cs.drop off) ys ∧ ∀ f ∈ fs, off ≤ f.offset ∧ ShC P n f.type ((ys.drop (f.offset - off)).take (P.cellsOf f.type))
 | [], off, ht, _, _ => by
   simp [tiled] at ht
   subst ht
   refine ⟨[], ?_, fun f hf => by simp at hf⟩
   rw [List.drop_of_length_le (Nat.le_refl _)]
   exact Rds.nil
 | f :: fs, off, ht, hle, h => by
   simp only [tiled, Bool.and_eq_true, beq_iff_eq] at ht
   obtain ⟨rfl, ht⟩ := ht
   have hlen : ∀ (fs : List Field) (o : Nat), tiled P fs o cs.length = true → o ≤ cs.length := by
     intro fs
     induction fs with
     | nil => intro o ht; simp [tiled] at ht; omega
     | cons g fs ih =>
       intro o ht
       simp only [tiled, Bool.and_eq_true, beq_iff_eq] at ht
       have := ih _ ht.2; omega
   have hk := hlen fs _ ht
   obtain ⟨x, hx1, hx2⟩ := h f (by simp)
   obtain ⟨ys, hy1, hy2⟩ := fields_sh fs _ ht hk (fun g hg => h g (by simp [hg]))
   have hxl : x.length = P.cellsOf f.type := by rw [← hx1.1]; simp; omega
   refine ⟨x ++ ys, ?_, fun g hg => ?_⟩
   · have : cs.drop f.offset = (cs.drop f.offset).take (P.cellsOf f.type) ++ cs.drop (f.offset + P.cellsOf f.type) := by
       rw [← List.drop_drop, List.take_append_drop]
     rw [this]
     exact hx1.append hy1
   · rcases List.mem_cons.1 hg with rfl | hg
     · refine ⟨Nat.le_refl _, ?_⟩
       rw [Nat.sub_self, List.drop_zero, List.take_append_of_le_length (by omega), List.take_of_length_le (by omega)]
       exact hx2
     · obtain ⟨h1, h2⟩ := hy2 g hg
       refine ⟨by omega, ?_⟩
       have : (x ++ ys).drop (g.offset - f.offset) = ys.drop (g.offset - (f.offset + P.cellsOf f.type)) := by
         rw [List.drop_append, List.drop_of_length_le (by omega), List.nil_append]
         congr 1
         omega
       rw [this]
       exact h2

theorem elems_sh {n e : Nat} {b off len : Nat} (h : ∀ i, i < len → ∃ cs xs, cs.length = P.cellsOf e ∧ (∀ j, j < P.cellsOf e → w.cell? ⟨b, off + (i * P.cellsOf e + j), none⟩ = cs[j]?) ∧ Rds w m cs xs ∧ ShC P n e xs) :
   ∀ k, k ≤ len → ∃ xs : List V, xs.length = k * P.cellsOf e ∧ (∀ j (hj : j < xs.length), ∃ v, w.cell? ⟨b, off + j, none⟩ = some v ∧ RV w m [] (fun _ => False) false v xs[j]) ∧
     ∀ i, i < k → ShC P n e ((xs.drop (i * P.cellsOf e)).take (P.cellsOf e))
 | 0, _ => ⟨[], by simp, fun j hj => by simp at hj, fun i hi => by omega⟩
 | k + 1, hk => by
   obtain ⟨xs, h1, h2, h3⟩ := elems_sh h k (by omega)
   obtain ⟨cs, ys, g1, g2, g3, g4⟩ := h k (by omega)
   have hyl : ys.length = P.cellsOf e := by rw [← g3.1, g1]
   refine ⟨xs ++ ys, by simp [h1, hyl, Nat.add_mul], fun j hj => ?_, fun i hi => ?_⟩
   · by_cases hlt : j < xs.length
     · rw [List.getElem_append_left hlt]
       exact h2 j hlt
     · rw [List.getElem_append_right (by omega)]
       have hj' : j - xs.length < ys.length := by simp at hj; omega
       have hr := g3.2 _ hj'
       have hc := g2 (j - xs.length) (by omega)
       have e1 : off + (k * P.cellsOf e + (j - xs.length)) = off + j := by omega
       rw [e1] at hc
       have hcl : j - xs.length < cs.length := by omega
       rw [List.getElem?_eq_getElem hcl] at hc
       refine ⟨_, hc, ?_⟩
       simpa [List.getD_eq_getElem?_getD, hcl] using hr
   · by_cases e2 : i = k
     · subst e2
       rw [← h1, List.drop_left, List.take_of_length_le (by omega)]
       exact g4
     · have hm : i * P.cellsOf e + P.cellsOf e ≤ xs.length := mul_room (n := k) (by omega) h1
       rw [List.drop_append_of_le_length (by omega), List.take_append_of_le_length (by simp; omega)]
       exact h3 i (by omega)

theorem trod_sh {H : Type} {enc : TypeId × Value → H} {spare : Nat → Bool} {held : Bool} : ∀ (n : Nat) (fuel : Nat) (t : TypeId) (cs : List Value) (x : DataW H × List MemPlace),
   DataW.trod enc P w 0 spare held fuel t cs = some x → plainT P n t = true → ∃ xs, Rds w m cs xs ∧ ShC P n t xs
 | 0, fuel, t, cs, x, _, hp => by simp [plainT] at hp
 | n + 1, fuel, t, cs, x, hx, hp => by
   unfold plainT at hp
   split at hp
   · rename_i hu
     obtain ⟨b, rfl, _⟩ := DataW.trod_bool hu hx
     exact ⟨[.bool b], Rds.one (.bool b), by unfold ShC; rw [hu]; exact ⟨b, rfl⟩⟩
   · rename_i k hu
     obtain ⟨z, rfl, _, hw⟩ := DataW.trod_int hu hx
     exact ⟨[.int k z], Rds.one (.int k z), by unfold ShC; rw [hu]; exact ⟨z, rfl, hw⟩⟩
   · rename_i hu
     obtain ⟨s, rfl, _, hs⟩ := DataW.trod_string hu hx
     exact ⟨[.str s], Rds.one (.str s), by unfold ShC; rw [hu]; exact ⟨s, rfl, hs⟩⟩
   · rename_i e hu
     simp only [Bool.and_eq_true, decide_eq_true_eq] at hp
     obtain ⟨hpos, hp⟩ := hp
     rcases Deep.open_slice hu hx with ⟨rfl, _⟩ | ⟨a, len, cap, mm, f, D, Pl, rfl, _, hle, hcap, hmm, _, hel⟩
     · refine ⟨[.sl 0 (P.cellsOf e) []], Rds.one (.slz _ _ _), ?_⟩
       unfold ShC; rw [hu]
       exact ⟨0, [], rfl, Nat.zero_le _, by simp, fun i hi => by omega⟩
     · by_cases h0 : len = 0
       · subst h0
         refine ⟨[.sl 0 (P.cellsOf e) []], Rds.one (.slz _ _ _), ?_⟩
         unfold ShC; rw [hu]
         exact ⟨0, [], rfl, Nat.zero_le _, by simp, fun i hi => by omega⟩
       · have hml : len ≤ mm := by rw [hmm]; split <;> omega
         obtain ⟨b, off, spot⟩ := a
         have hspot : spot = none := by
           obtain ⟨cs', hc, _⟩ := hel 0 (by omega)
           obtain ⟨_, hcl, hat⟩ := World.cells?_some hc
           have h1 := hat 0 hpos
           rw [List.getElem?_eq_getElem (by omega)] at h1
           simpa [Addr.add] using World.cell?_spot h1
         subst hspot
         have hall : ∀ i, i < len → ∃ cs xs, cs.length = P.cellsOf e ∧ (∀ j, j < P.cellsOf e → w.cell? ⟨b, off + (i * P.cellsOf e + j), none⟩ = cs[j]?) ∧ Rds w m cs xs ∧ ShC P n e xs := by
           intro i hi
           obtain ⟨cs', hc, ht⟩ := hel i (by omega)
           obtain ⟨_, hcl, hat⟩ := World.cells?_some hc
           obtain ⟨xs, h1, h2⟩ := trod_sh n _ e cs' _ ht hp
           refine ⟨cs', xs, hcl, fun j hj => ?_, h1, h2⟩
           have := hat j hj
           rw [Addr.add_lit, Addr.add_lit] at this
           rw [← this, Nat.add_assoc]
         obtain ⟨xs, h1, h2, h3⟩ := elems_sh hall len (Nat.le_refl _)
         refine ⟨[.sl len (P.cellsOf e) xs], Rds.one (.sl b off len cap (P.cellsOf e) xs (fun j => (w.cell? ⟨b, off + j, none⟩).getD Go.undef) h1 (fun _ h => h) hle (fun j hj => ?_) (fun j hj => ?_)), ?_⟩
         · obtain ⟨v, hv, _⟩ := h2 j hj
           simp [hv]
         · obtain ⟨v, hv, hr⟩ := h2 j hj
           simpa [hv] using hr
         · unfold ShC; rw [hu]
           exact ⟨len, xs, rfl, by omega, h1, h3⟩
   · rename_i fs hu
     simp only [Bool.and_eq_true, List.all_eq_true] at hp
     obtain ⟨xs, f, _, _, hl, hxl, hf⟩ := DataW.trod_struct hu hx
     have hfs : ∀ g ∈ fs.toList, ∃ ys, Rds w m ((cs.drop g.offset).take (P.cellsOf g.type)) ys ∧ ShC P n g.type ys := by
       intro g hg
       obtain ⟨i, hi, rfl⟩ := List.getElem_of_mem hg
       have hi' : i < fs.size := by simpa using hi
       have h1 := hf i fs[i] (Array.getElem?_eq_getElem hi')
       rw [List.getElem?_eq_getElem (by omega)] at h1
       exact trod_sh n _ _ _ _ (by simpa using h1) (hp.2 _ hg)
     obtain ⟨ys, h1, h2⟩ := fields_sh fs.toList 0 (by rw [hl]; exact hp.1) (Nat.zero_le _) hfs
     rw [List.drop_zero] at h1
     refine ⟨ys, h1, ?_⟩
     unfold ShC; rw [hu]
     exact ⟨by rw [← h1.1, hl], fun g hg => by simpa using (h2 g hg).2⟩
   · cases hp

end
section
variable {P : Program} {W : World}

theorem Rds.get {m : Nat → Nat} {a : List Value} {x : List V} (h : Rds W m a x) : a.length = x.length := h.1

theorem arg_one {H : Type} {enc : TypeId × Value → H} {spare : Nat → Bool} {held : Bool} {n : Nat} {t : TypeId} {v : Value} {d : DataW H} {p : List MemPlace} (m : Nat → Nat)
   (hv : v.cells = #[v]) (h : DataW.Trod enc P W 0 spare held t v d p) (hp : plainT P n t = true) : ∃ x, RV W m [] (fun _ => False) true v x ∧ ShC P n t [x] := by
 obtain ⟨fuel, hf⟩ := h
 rw [hv] at hf
 obtain ⟨xs, h1, h2⟩ := trod_sh (m := m) n fuel t _ _ hf hp
 match xs, h1 with
 | [x], h1 => exact ⟨x, by have := h1.2 0 (by simp); exact this.weak, h2⟩
 | [], h1 => simp [Rds] at h1
 | _ :: _ :: _, h1 => simp [Rds] at h1

theorem law_walk {f : FuncId} {xs : List V} {vs : Array Value} (m : Nat → Nat) (hc : Ctr P f xs [] (.bool true) []) (hgl : GL W (fun _ => False)) (hsz : vs.size = xs.length)
   (hr : ∀ i (hi : i < xs.length), RV W m [] (fun _ => False) true (vs.getD i Go.undef) xs[i]) :
   Calls P f vs W fun e w' => e = .returned (.bool true) ∧ RowKit.Below W.heap.size W w' := by
 refine (hc.2 W vs m (fun _ => False) ⟨fun i j ci cj h => by simp at h, fun id cs h => by simp at h, fun id cs h => by simp at h⟩ (fun b h => h.elim) hgl hsz hr).mono ?_
 rintro e w' ⟨v, m', rfl, hE, _, hv, _⟩
 refine ⟨by cases hv; rfl, hE.os, hE.tape, hE.output, hE.size, fun k hk => hE.block k hk (fun ⟨id, cs, h, _⟩ => by simp at h)⟩

end
end Go.Lv
end
section
namespace Go.Lv

theorem shC_str {P : Program} {t : TypeId} {n : Nat} {xs : List V} (hs : P.underlying t = some .string) (h : ShC P (n + 1) t xs) : ∃ s, xs = [.str s] ∧ strR s := by
 simp only [ShC, hs] at h
 obtain ⟨s, h1, h2⟩ := h
 exact ⟨s, h1, h2⟩

end Go.Lv
end
