/-
  A part of the proof: texts put together by a program of the prover. Conditions: none.
-/
import Derived.Test.YtfdikfpnkgglkaaGreatDoorZBulletinsLaw3
import Derived.Test.YtfdikfpnkgglkaaGreatDoorZBulletinsLaw4
import Derived.Test.YtfdikfpnkgglkaaGreatDoorZBulletinsLaw6
import Derived.Test.YtfdikfpnkgglkaaGreatDoorZBulletinsLaw7
import Derived.WalkKit
import Derived.ProofKit
import Derived.Deep.Slices
set_option linter.unusedSimpArgs false
set_option linter.unusedVariables false
section
set_option maxRecDepth 100000
set_option maxHeartbeats 4000000
namespace Go.Proofs
open Go.Lv Go.RowKit
theorem two_str {w : World} {m : Nat → Nat} {h : Hp} {av : Nat → Prop} {vs : Array Value} {s t : ByteArray} (hsz : vs.size = [V.str s, V.str t].length)
   (ha : ∀ i (hi : i < [V.str s, V.str t].length), RV w m h av true (vs.getD i Go.undef) [V.str s, V.str t][i]) : vs = #[.string s, .string t] := by
 obtain ⟨v, u, rfl⟩ : ∃ v u, vs = #[v, u] := by
   match vs, hsz with
   | ⟨[v, u]⟩, _ => exact ⟨v, u, rfl⟩
 have h0 := ha 0 (by simp)
 have h1 := ha 1 (by simp)
 simp only [List.getElem_cons_zero, List.getElem_cons_succ] at h0 h1
 obtain rfl : v = .string s := by
   simp at h0; cases h0; rfl
 obtain rfl : u = .string t := by
   simp at h1; cases h1; rfl
 rfl
theorem nil_rh {w : World} {m : Nat → Nat} {av : Nat → Prop} : RH w m [] av := ⟨fun i j ci cj h => by simp at h, fun id cs h => by simp at h, fun id cs h => by simp at h⟩
theorem below_ext {O : Nat → Prop} {w w' : World} (hb : Below w.heap.size w w') : Ext O w w' :=
 ⟨hb.os, hb.tape, hb.output, hb.size, fun g hg _ => hb.block g hg, fun g hg => Nat.le_of_eq (rowSize_of_block (hb.block g hg)).symm⟩
theorem split_ok (s : ByteArray) (c : UInt8) (hs : s.size ≤ 16777216) : Ctr Tryz.prog 27 [.str s, .str ⟨#[c]⟩] [] (.osl 0 0 (splS c s).length 1) [some (rows StringS.cs (splS c s))] := by
 refine ⟨Tryz.okF27, fun w vs m av hH hav hgl hsz ha => ?_⟩
 obtain rfl := two_str hsz ha
 obtain ⟨mv, hm, m0, rfl⟩ := hgl.var (g := 0) (e := false) (by simp [gvars])
 refine (Tryz.strings_Split s ⟨#[c]⟩ m0 w (by omega) hm (Nat.le_refl 1)).mono ?_
 rintro e w' ⟨rfl, rfl⟩
 rw [split_eq]
 have hl : Lib.countB s ⟨#[c]⟩ + 1 = (splS c s).length := by
   rw [← split_eq, Lib.splitB_all ⟨#[c]⟩ (Nat.le_refl 1) 0 _ _ rfl]
 rw [hl]
 generalize splS c s = L
 have hrl : (rows StringS.cs L).length = L.length := by rw [rows_length, Nat.mul_one]
 have hrow : ∀ i (hi : i < (rows StringS.cs L).length), ∃ x, (rows StringS.cs L)[i] = .str x ∧ ((L.map Value.string).toArray).getD i Go.undef = .string x := by
   intro i hi
   have hi' : i < L.length := by omega
   refine ⟨L[i], ?_, ?_⟩
   · have := rows_at StringS.csl hi'
     rw [Nat.mul_one] at this
     have h2 : (rows StringS.cs L)[i]? = some (.str L[i]) := by
       have h3 := congrArg (·[0]?) this
       simpa [StringS.cs, List.getElem?_take] using h3
     rw [List.getElem?_eq_getElem hi] at h2
     exact Option.some.inj h2
   · simp [hi']
 have hnew := heap_alloc_new w (.cells (L.map Value.string).toArray 9)
 refine ⟨_, fun _ => w.heap.size, rfl, Ext.alloc _ _ _, ⟨fun i j ci cj h1 h2 _ => ?_, fun id cs h => .inr ⟨id, cs, h, rfl⟩, fun id cs h => ?_⟩, ?_, fun id cs h => .inr ⟨Nat.zero_le _, Nat.le_refl _⟩⟩
 · have e1 : i < 1 := by have := (List.getElem?_eq_some_iff.1 h1).1; simpa using this
   have e2 : j < 1 := by have := (List.getElem?_eq_some_iff.1 h2).1; simpa using this
   omega
 · have e1 : id < 1 := by have := (List.getElem?_eq_some_iff.1 h).1; simpa using this
   obtain rfl : id = 0 := by omega
   simp only [List.getElem?_cons_zero, Option.some.injEq] at h
   subst h
   refine .inl ⟨_, _, _, hnew, FrOk.zero _, by simp [hrl], fun i hi => ?_⟩
   obtain ⟨x, h1, h2⟩ := hrow i hi
   rw [h1, h2]
   exact .str _
 · refine .osl 0 0 L.length L.length 1 _ ⟨rfl, isMb_rows _⟩ (by simp [hrl]) (Nat.le_refl _) ?_
   simp only [rowSize, hnew]
   simp
theorem trimPrefix_ok (s p : ByteArray) : Ctr Tryz.prog 30 [.str s, .str p] [] (.str ⟨(Lib.trimPrefix s.data.toList p.data.toList).toArray⟩) [] := by
 refine ⟨Tryz.okF30, fun w vs m av hH hav hgl hsz ha => ?_⟩
 obtain rfl := two_str hsz ha
 refine (Tryz.strings_TrimPrefix s p w).mono ?_
 rintro e w' ⟨rfl, rfl⟩
 exact ⟨_, m, rfl, Ext.refl _ _, nil_rh, .str _, fun id cs h => by simp at h⟩
theorem replace_ok (s old new : ByteArray) (n : Int) (hs : s.size ≤ 16777216) (h1 : 1 ≤ old.size) (h2 : new.size = 0) : Ctr Tryz.prog 29 [.str s, .str old, .str new, .int .i64 n] [] (.str ⟨(Lib.replace s.data.toList old.data.toList new.data.toList n).toArray⟩) [] := by
 refine ⟨Tryz.okF29, fun w vs m av hH hav hgl hsz ha => ?_⟩
 obtain ⟨a, b, c, d, rfl⟩ : ∃ a b c d, vs = #[a, b, c, d] := by
   match vs, hsz with
   | ⟨[a, b, c, d]⟩, _ => exact ⟨a, b, c, d, rfl⟩
 have h0 := ha 0 (by simp)
 have h1' := ha 1 (by simp)
 have h2' := ha 2 (by simp)
 have h3' := ha 3 (by simp)
 simp at h0 h1' h2' h3'
 obtain rfl : a = .string s := by cases h0; rfl
 obtain rfl : b = .string old := by cases h1'; rfl
 obtain rfl : c = .string new := by cases h2'; rfl
 obtain rfl : d = .int .i64 n := by cases h3'; rfl
 obtain ⟨mv, hm, m0, rfl⟩ := hgl.var (g := 0) (e := false) (by simp [gvars])
 refine (Tryz.strings_Replace s old new n m0 w (by omega) hm h1 (by rw [h2, Nat.mul_zero]; omega)).mono ?_
 rintro e w' ⟨rfl, hb⟩
 exact ⟨_, m, rfl, below_ext hb, nil_rh, .str _, fun id cs h => by simp at h⟩
end Go.Proofs
end
section
set_option maxRecDepth 100000
namespace Go.Proofs
open Go.Lv
def numOf (s : ByteArray) : Int := match Lib.atoiAll s.data.toList with
 | .ok v => v
 | _ => 0
def atoiP (s : ByteArray) (r : V) (hout : Hp) : Prop := hout = [] ∧ ((r = .tup [.int .i64 (numOf s), .lit .nilIface] ∧ i64R (numOf s)) ∨ ∃ t v n, r = .tup [.int .i64 n, .lit (.iface t v)] ∧ numOf s = 0)
theorem atoiP_at {s : ByteArray} {w w' : World} {m : Nat → Nat} {av : Nat → Prop} {n : Int} {e : Value} (hE : Ext (own m []) w w') (hp : atoiP s (.tup [.int .i64 n, .lit e]) []) :
   ∃ v m' r hout, atoiP s r hout ∧ Ending.returned (.tuple #[.int .i64 n, e]) = .returned v ∧ Ext (own m []) w w' ∧ RH w' m' hout (avm av m' hout) ∧ RV w' m' hout (avm av m' hout) true v r ∧ Ids w.heap.size m m' [] hout := by
 refine ⟨_, m, _, _, hp, rfl, hE, nil_rh, ?_, fun id cs h => by simp at h⟩
 refine .tup _ _ rfl (fun i hi => ?_)
 match i, hi with
 | 0, _ => exact .int _ _
 | 1, _ => exact .lit _
theorem atoi_ok (s : ByteArray) (hs : s.size ≤ 281474976710656) : CtrP Tryz.prog 62 [.str s] [] (atoiP s) := by
 refine ⟨Tryz.okF62, fun w vs m av hH hav hgl hsz ha => ?_⟩
 obtain ⟨v, rfl⟩ : ∃ v, vs = #[v] := by
   match vs, hsz with
   | ⟨[v]⟩, _ => exact ⟨v, rfl⟩
 have h0 := ha 0 (by simp)
 simp only [List.getElem_cons_zero] at h0
 obtain rfl : v = .string s := by
   simp at h0; cases h0; rfl
 cases ha : Lib.atoiAll s.data.toList with
 | range =>
   obtain ⟨ev, hv, hev⟩ := hgl.var (g := 4) (e := true) (by simp [gvars])
   refine (Tryz.strconv_Atoi_range s hs ha ev w hv hev).mono ?_
   rintro e w' ⟨N, rfl, hN1, hN2, hb⟩
   exact atoiP_at (below_ext hb) ⟨rfl, .inr ⟨_, _, _, rfl, by simp [numOf, ha]⟩⟩
 | ok v =>
   obtain ⟨vb0, vb1⟩ := Lib.atoiAll_bounds ha
   have hn : numOf s = v := by simp [numOf, ha]
   refine (Tryz.strconv_Atoi_ok s (by omega) v ha w).mono ?_
   rintro e w' ⟨rfl, hw⟩
   refine atoiP_at ?_ ⟨rfl, .inl ⟨by rw [hn], by rw [hn]; exact ⟨vb0, vb1⟩⟩⟩
   rcases hw with rfl | ⟨t, rfl⟩
   · exact Ext.refl _ _
   · exact below_ext (Lib.bytesWorld_below _ _ _)
 | _ =>
   obtain ⟨ev, hv, hev⟩ := hgl.var (g := 3) (e := true) (by simp [gvars])
   refine (Tryz.strconv_Atoi_syntax s hs ha (by intro h; cases h) (by intro v h; cases h) ev w hv hev).mono ?_
   rintro e w' ⟨N, rfl, hN1, hN2, hb⟩
   exact atoiP_at (below_ext hb) ⟨rfl, .inr ⟨_, _, _, rfl, by simp [numOf, ha]⟩⟩
end Go.Proofs
end
section
set_option maxRecDepth 100000
namespace Go.Proofs
open Go.Lv
def IntS.cs (x : Int) : List V := [.int .i64 x]
instance : FlatP IntS.cs 1 := ⟨fun _ => rfl, fun _ d => by cases d <;> rfl, fun _ => rfl, fun _ => rfl⟩
theorem IntS.csl (a : Int) : (IntS.cs a).length = 1 := rfl
abbrev IntS.ok (x : Int) : Prop := i64R x
abbrev IntS.sl (L : List Int) : V := .sl L.length 1 (Go.Lv.rows IntS.cs L)
abbrev IntS.zs : List V := [.int .i64 0]
def IntS.marks (k : Int) (n : Nat) : List Int := (List.range n).map fun i : Nat => k + (i : Int)
@[simp] theorem IntS.marks_len (k : Int) (n : Nat) : (IntS.marks k n).length = n := by simp [IntS.marks]
abbrev IntS.v (x : Int) : V := .int .i64 x
end Go.Proofs
end
section
set_option maxRecDepth 100000
set_option maxHeartbeats 2000000
namespace Go.Proofs
open Go.Lv
theorem numbersIn_ok (L : List ByteArray) (hl : L.length ≤ 16777216) (hs : ∀ x ∈ L, x.size ≤ 281474976710656) : Ctr Tryz.prog 31 [StringS.sl L] [] (.osl 0 0 L.length 1) [some (rows IntS.cs (L.map numOf))] := by
 refine Ctr.intro Tryz.mixed Tryz.func31 rfl Tryz.okF31 ?_
 simp -implicitDefEqProofs -dsimp only [go_sem, Tryz.ntmps31, Tryz.results31]
 (repeat ((repeat1' (first | simp -implicitDefEqProofs -dsimp only [go_sem] | simp -dsimp (disch := omega) only [wrap_i64])); repeat (with_reducible refine sideA ?_)))
 refine LoopT.intro (fun i : Nat => i ≤ L.length) (fun i => ⟨[.undef, .undef, .undef, .osl 0 0 i 1, .undef, .undef, .undef, .undef, .undef, StringS.sl L, .int .i64 L.length, .int .i64 i, .undef, .undef, .undef, .undef, .undef, .undef, .undef, .undef, .undef, .undef, .undef, .undef, .undef, .undef, .undef, .undef], [some (rows IntS.cs ((L.take i).map numOf))], 0⟩) (fun i => L.length - i) 0 (Nat.zero_le _) ?_ (fun i hi => ?_)
 · refine Weak.cut (1) (by simp) (by simp) ?_ ?_
   · simp [LeC, LeV, ren, cutF]
   · rfl
 (repeat ((repeat1' (first | simp -implicitDefEqProofs -dsimp only [go_sem] | simp -dsimp (disch := omega) only [wrap_i64])); repeat (with_reducible refine sideA ?_)))
 refine condT.split (fun g1 => ?_) (fun g1 => ?_)
 · have hi' : i < L.length := by have := of_decide_eq_true g1; omega
   have hr := rows_at StringS.csl hi'
   have hlen : ((L.take i).map numOf).length = i := by simp; omega
   have hnx : (L.take (i + 1)).map numOf = (L.take i).map numOf ++ [numOf L[i]] := by
     rw [List.take_succ_eq_append_getElem hi', List.map_append]; rfl
   (repeat ((repeat1' (first | simp -implicitDefEqProofs -dsimp only [go_sem, g1, hr, StringS.cs] | simp -dsimp (disch := omega) only [wrap_i64])); repeat (with_reducible refine sideA ?_)))
   refine callS.rel [] (atoi_ok L[i] (hs _ (List.getElem_mem hi'))) (by decide) ⟨leO, trivial⟩ rfl rfl (fun r hout hΦ => ?_)
   obtain ⟨rfl, ⟨rfl, hn⟩ | ⟨t, v, n, rfl, h0⟩⟩ := hΦ
   · refine ⟨trivial, ?_⟩
     (repeat ((repeat1' (first | simp -implicitDefEqProofs -dsimp only [go_sem, rows_length, rows_cell, hlen, map_ren_rows, Nat.mul_one] | simp -dsimp (disch := omega) only [wrap_i64])); repeat (with_reducible refine sideA ?_)))
     refine ⟨i + 1, hi', ?_, by omega⟩
     rw [hnx]
     refine Weak.cut (1) (by simp) (by simp) ?_ ?_
     · simp [LeC, LeV, ren, cutF]
     · rw [← rows_snoc]
       simp [cutH, cutB, ren, cutF, map_ren_rows, killC, killF, IntS.cs]
   · refine ⟨trivial, ?_⟩
     (repeat ((repeat1' (first | simp -implicitDefEqProofs -dsimp only [go_sem, rows_length, rows_cell, hlen, map_ren_rows, Nat.mul_one] | simp -dsimp (disch := omega) only [wrap_i64])); repeat (with_reducible refine sideA ?_)))
     refine ⟨i + 1, hi', ?_, by omega⟩
     rw [hnx, h0]
     refine Weak.cut (1) (by simp) (by simp) ?_ ?_
     · simp [LeC, LeV, ren, cutF]
     · rw [← rows_snoc]
       simp [cutH, cutB, ren, cutF, map_ren_rows, killC, killF, IntS.cs]
 · have hi' : i = L.length := by have := of_decide_eq_false g1; omega
   subst hi'
   (repeat ((repeat1' (first | simp -implicitDefEqProofs -dsimp only [go_sem, g1, List.take_length] | simp -dsimp (disch := omega) only [wrap_i64])); repeat (with_reducible refine sideA ?_)))
   exact WeakR.of_eq (by simp)
end Go.Proofs
end
section
set_option maxRecDepth 100000
set_option maxHeartbeats 2000000
namespace Go.Proofs
open Go.Lv
def tp (c : UInt8) (s : ByteArray) : ByteArray := ⟨(Lib.trimPrefix s.data.toList (⟨#[c]⟩ : ByteArray).data.toList).toArray⟩
def rp (s : ByteArray) : ByteArray := ⟨(Lib.replace s.data.toList (⟨#[46]⟩ : ByteArray).data.toList (⟨#[]⟩ : ByteArray).data.toList 1).toArray⟩
theorem tp_pre (c : UInt8) (s : ByteArray) : tp c (⟨#[c]⟩ ++ s) = s := by
 have e : (⟨#[c]⟩ ++ s).data.toList = c :: s.data.toList := by rw [ba_app]; rfl
 apply ba_ext
 rw [tp, e]
 simp [Lib.trimPrefix, Lib.hasPrefix]
theorem numOf_num {n : Int} (h0 : -999999999 ≤ n) (h1 : n ≤ 999999999) : numOf (num n) = n := by rw [numOf, atoi_num h0 h1]
theorem mag_digs {l : List UInt8} (h : l.all isDig = true) (hn : l ≠ []) (hb : valD 0 l < 1000000000000000000) : Lib.parseMag l = .ok (valD 0 l) := by
 rw [Lib.parseMag, if_neg hn, uint_val _ _ h hb]
theorem numOf_size {r : QuakeRow} (h : qrB r = true) : numOf (qSign r ++ (num ((r.Size.natAbs / 100 : Nat) : Int) ++ qHund r.Size.natAbs)) = r.Size := by
 have hq := qrB_iff.1 h
 have e : (num ((r.Size.natAbs / 100 : Nat) : Int) ++ qHund r.Size.natAbs).data.toList = Lib.decDigits (r.Size.natAbs / 100) ++ [UInt8.ofNat (48 + r.Size.natAbs / 10 % 10), UInt8.ofNat (48 + r.Size.natAbs % 10)] := by
   rw [ba_app, num_list, qHund_list]
 have hv := val_two r.Size.natAbs
 obtain ⟨d1, d2, d3⟩ := dec_val (r.Size.natAbs / 100 + 1) (r.Size.natAbs / 100) (by omega)
 have hall : (Lib.decDigits (r.Size.natAbs / 100) ++ [UInt8.ofNat (48 + r.Size.natAbs / 10 % 10), UInt8.ofNat (48 + r.Size.natAbs % 10)]).all isDig = true := by
   simp only [List.all_append, d1, List.all_cons, List.all_nil, dig_of (show r.Size.natAbs / 10 % 10 < 10 by omega), dig_of (show r.Size.natAbs % 10 < 10 by omega)]; rfl
 generalize hl : Lib.decDigits (r.Size.natAbs / 100) ++ [UInt8.ofNat (48 + r.Size.natAbs / 10 % 10), UInt8.ofNat (48 + r.Size.natAbs % 10)] = l at *
 have hne : l ≠ [] := by rw [← hl]; simp
 have hm := mag_digs hall hne (by rw [hv]; omega)
 rw [hv] at hm
 unfold qSign numOf
 by_cases hn : r.Size < 0
 · rw [if_pos hn, ba_app, e]
   show (match Lib.atoiAll (45 :: l) with | .ok v => v | _ => 0) = _
   rw [Lib.atoiAll_minus, hm, Lib.signed, if_neg (by omega)]
   simp only []
   omega
 · rw [if_neg hn, ba_app, e]
   show (match Lib.atoiAll l with | .ok v => v | _ => 0) = _
   cases l with
   | nil => exact absurd rfl hne
   | cons c l =>
     simp only [List.all_cons, Bool.and_eq_true, isDig, decide_eq_true_eq] at hall
     rw [Lib.atoiAll_plain c l (by omega) (by omega), hm, Lib.signless, if_neg (by omega)]
     simp only []
     omega
theorem rp_dot {a b : ByteArray} (h : noB 46 a = true) : rp (a ++ (⟨#[46]⟩ ++ b)) = a ++ b := by
 obtain ⟨h1, h2, h3, h4⟩ := cut_at (y := b) h
 have hm : Lib.indexB (a ++ (⟨#[46]⟩ ++ b)) ⟨#[46]⟩ = (a.size : Int) := (Lib.index_one _ _).trans h1
 have hs : (⟨#[46]⟩ : ByteArray).size = 1 := rfl
 have hc := Lib.countB_hit (a ++ (⟨#[46]⟩ ++ b)) ⟨#[46]⟩ a.size (by rw [hs]; omega) hm
 have hm' : Lib.index (a ++ (⟨#[46]⟩ ++ b)).data.toList [46] = (a.size : Int) := hm
 have hc' : 1 ≤ Lib.count (a ++ (⟨#[46]⟩ ++ b)).data.toList [46] := by
   change Lib.count (a ++ (⟨#[46]⟩ ++ b)).data.toList [46] = _ at hc
   omega
 have e : (a ++ (⟨#[46]⟩ ++ b)).data.toList = a.data.toList ++ 46 :: b.data.toList := by rw [ba_app, ba_app]; rfl
 have hl : a.data.toList.length = a.size := ba_len a
 apply ba_ext
 show Lib.replace (a ++ (⟨#[46]⟩ ++ b)).data.toList [46] [] 1 = _
 have hk : Lib.replaceNum (a ++ (⟨#[46]⟩ ++ b)).data.toList [46] 1 = 1 := by
   rw [Lib.replaceNum, if_neg (by omega)]; rfl
 rw [Lib.replace, if_neg (by decide), hk, Lib.replaceK_hit _ _ _ _ a.size hm', Lib.replaceK, e, ba_app]
 rw [List.take_append_of_le_length (by omega), ← hl, List.take_length, List.drop_append]
 simp
def cand (s : ByteArray) : QuakeRow := ⟨numOf (tp 35 ((splS 32 s).getD 0 ⟨#[]⟩)), numOf (tp 116 ((splS 32 s).getD 1 ⟨#[]⟩)), numOf (bef 44 ((splS 32 s).getD 3 ⟨#[]⟩)), numOf (aft 44 ((splS 32 s).getD 3 ⟨#[]⟩)), numOf ((splS 32 s).getD 5 ⟨#[]⟩), numOf (rp (tp 77 ((splS 32 s).getD 6 ⟨#[]⟩))), (((splS 32 s).getD 7 ⟨#[]⟩).data.toList.headD 0).toNat - 65 + 1⟩
theorem grade_toNat {g : Int} (h : 1 ≤ g ∧ g ≤ 4) : ((((qGrade g).data.toList.headD 0).toNat : Nat) : Int) - 65 + 1 = g := by
 have : g = 1 ∨ g = 2 ∨ g = 3 ∨ g = 4 := by omega
 rcases this with e | e | e | e <;> rw [e] <;> rfl
theorem cand_line {r : QuakeRow} (h : qrB r = true) : cand (quakeLine r) = r := by
 have hq := qrB_iff.1 h
 obtain ⟨_, c2, c3, _⟩ := cut_at (c := 44) (x := num r.X) (y := num r.Y) (num_noB (by decide) (by omega))
 simp only [cand, line_words h, qWords, List.getD_cons_zero, List.getD_cons_succ]
 rw [tp_pre, tp_pre, c2, c3, qW6, tp_pre]
 have e : qSign r ++ (num ((r.Size.natAbs / 100 : Nat) : Int) ++ (⟨#[46]⟩ ++ qHund r.Size.natAbs)) = (qSign r ++ num ((r.Size.natAbs / 100 : Nat) : Int)) ++ (⟨#[46]⟩ ++ qHund r.Size.natAbs) := by rw [ByteArray.append_assoc]
 rw [e, rp_dot (by rw [noB_app, qSign_noB (by decide), num_noB (by decide) (by omega)]; rfl), ByteArray.append_assoc, numOf_size h, numOf_num (by omega) (by omega), numOf_num (by omega) (by omega), numOf_num (by omega) (by omega), numOf_num (by omega) (by omega), numOf_num (by omega) (by omega), grade_toNat hq.2.2.2.2.2]
open Classical in
noncomputable def parseR (s : ByteArray) : Option QuakeRow := if h : ∃ r, qrB r = true ∧ quakeLine r = s then some h.choose else none
theorem line_inj {r q : QuakeRow} (hr : qrB r = true) (hq : qrB q = true) (h : quakeLine r = quakeLine q) : r = q := by
 rw [← cand_line hr, h, cand_line hq]
theorem parseR_some {s : ByteArray} {r : QuakeRow} (hr : qrB r = true) (h : quakeLine r = s) : parseR s = some r := by
 have hx : ∃ r, qrB r = true ∧ quakeLine r = s := ⟨r, hr, h⟩
 rw [parseR, dif_pos hx]
 exact congrArg some (line_inj hx.choose_spec.1 hr (hx.choose_spec.2.trans h.symm))
theorem parseR_none {s : ByteArray} (h : ∀ r, qrB r = true → quakeLine r ≠ s) : parseR s = none := by
 rw [parseR, dif_neg]
 rintro ⟨r, h1, h2⟩
 exact h r h1 h2
theorem parseR_cand (s : ByteArray) : parseR s = if qrB (cand s) = true ∧ quakeLine (cand s) = s then some (cand s) else none := by
 split
 · rename_i h; exact parseR_some h.1 h.2
 · rename_i h
   refine parseR_none (fun r h1 h2 => h ?_)
   rw [← h2, cand_line h1]
   exact ⟨h1, rfl⟩
end Go.Proofs
end
section
set_option maxRecDepth 100000
namespace Go.Proofs
open Go.Lv
theorem num_sz {n : Int} (k : Nat) (h0 : 0 ≤ n) (h1 : n < ((10 ^ (k + 1) : Nat) : Int)) : (num n).size ≤ k + 1 := by
 obtain ⟨u, rfl⟩ : ∃ u : Nat, n = u := ⟨n.toNat, by omega⟩
 have := dec_len k u (by omega)
 rw [← ba_len, num_list]; exact this
theorem words_small {r : QuakeRow} (h : qrB r = true) : (num r.Id).size ≤ 4 ∧ (num r.Tick).size ≤ 7 ∧ (num r.X).size ≤ 3 ∧ (num r.Y).size ≤ 3 ∧ (num r.Deep).size ≤ 3 ∧ 3 ≤ (qW6 r).size ∧ (qW6 r).size ≤ 7 := by
 have hq := qrB_iff.1 h
 refine ⟨num_sz 3 (by omega) (by omega), num_sz 6 (by omega) (by omega), num_sz 2 (by omega) (by omega), num_sz 2 (by omega) (by omega), num_sz 2 (by omega) (by omega), ?_, ?_⟩
 · have h2 : (qHund r.Size.natAbs).size = 2 := by rw [← ba_len, qHund_list]; rfl
   rw [qW6]; simp only [ByteArray.size_append, ba_size, List.size_toArray, List.length_cons, List.length_nil, h2]; omega
 · have h2 : (qHund r.Size.natAbs).size = 2 := by rw [← ba_len, qHund_list]; rfl
   have h3 := num_sz (n := ((r.Size.natAbs / 100 : Nat) : Int)) 1 (by omega) (by omega)
   have h4 := qSign_size r
   rw [qW6]; simp only [ByteArray.size_append, ba_size, List.size_toArray, List.length_cons, List.length_nil, h2]; omega
theorem line_small {r : QuakeRow} (h : qrB r = true) : (quakeLine r).size ≤ 60 := by
 have := words_small h
 rw [line_eq]
 simp only [ByteArray.size_append, ba_size, List.size_toArray, List.length_cons, List.length_nil, qGrade]; omega
theorem qWords_small {r : QuakeRow} (h : qrB r = true) : ∀ w ∈ qWords r, w.size ≤ 9 := by
 have := words_small h
 intro w hw
 simp only [qWords, List.mem_cons, List.not_mem_nil, or_false] at hw
 rcases hw with rfl | rfl | rfl | rfl | rfl | rfl | rfl | rfl <;> first | omega | (simp only [ByteArray.size_append, ba_size, List.size_toArray, List.length_cons, List.length_nil, qGrade]; first | done | omega)
theorem parse_long {s : ByteArray} (h : 60 < s.size) : parseR s = none :=
 parseR_none (fun r h1 h2 => by have := line_small h1; rw [h2] at this; omega)
theorem parse_words {s : ByteArray} (h : (splS 32 s).length ≠ 8) : parseR s = none :=
 parseR_none (fun r h1 h2 => by rw [← h2, line_words h1] at h; exact h rfl)
theorem parse_six {s a0 a1 a2 a3 a4 a5 a6 a7 : ByteArray} (hw : splS 32 s = [a0, a1, a2, a3, a4, a5, a6, a7]) (h : a6.size < 2) : parseR s = none :=
 parseR_none (fun r h1 h2 => by
   have h3 := words_small h1
   rw [← h2, line_words h1, qWords] at hw
   simp only [List.cons.injEq] at hw
   rw [← hw.2.2.2.2.2.2.1] at h; omega)
theorem parse_wide {s w : ByteArray} (hw : w ∈ splS 32 s) (h : 9 < w.size) : parseR s = none :=
 parseR_none (fun r h1 h2 => by
   rw [← h2, line_words h1] at hw
   have := qWords_small h1 w hw; omega)
theorem parse_place {s a0 a1 a2 a3 a4 a5 a6 a7 : ByteArray} (hw : splS 32 s = [a0, a1, a2, a3, a4, a5, a6, a7]) (h : (splS 44 a3).length ≠ 2) : parseR s = none :=
 parseR_none (fun r h1 h2 => by
   rw [← h2, line_words h1, qWords] at hw
   simp only [List.cons.injEq] at hw
   rw [← hw.2.2.2.1, place_words h1] at h; exact h rfl)
def rdG (a0 a1 a5 a6 p0 p1 : ByteArray) (g : Int) : QuakeRow := ⟨digs a0, digs a1, digs p0, digs p1, digs a5, if a6.data.toList[1]? = some 45 then -(digs a6 : Int) else digs a6, g⟩
theorem parse_end {s a0 a1 a2 a3 a4 a5 a6 a7 p0 p1 : ByteArray} (hw : splS 32 s = [a0, a1, a2, a3, a4, a5, a6, a7]) (hp : splS 44 a3 = [p0, p1])
   (h : ∀ g : Int, 1 ≤ g → g < 5 → ¬ (qrB (rdG a0 a1 a5 a6 p0 p1 g) = true ∧ quakeLine (rdG a0 a1 a5 a6 p0 p1 g) = s)) : parseR s = none :=
 parseR_none (fun r h1 h2 => by
   have hq := qrB_iff.1 h1
   have e := rdQ_line h1
   have hw' := hw
   rw [← h2, line_words h1] at hw
   have e3 : a3 = num r.X ++ (⟨#[44]⟩ ++ num r.Y) := by
     rw [qWords] at hw
     simp only [List.cons.injEq] at hw
     exact hw.2.2.2.1.symm
   rw [e3, place_words h1] at hp
   rw [hw, hp] at e
   refine h r.Grade (by omega) (by omega) ?_
   have e' : rdG a0 a1 a5 a6 p0 p1 r.Grade = r := e
   rw [e']; exact ⟨h1, h2⟩)
theorem digL_snoc (l : List UInt8) (c : UInt8) : digL (l ++ [c]) = if isDig c = true then digL l * 10 + (c.toNat - 48) else digL l := by
 unfold digL
 rw [List.filter_append]
 cases h : isDig c with
 | true => rw [List.filter_cons, h, List.filter_nil, valD_app, if_pos rfl, if_pos rfl, valD_cons, valD_nil, stepD_eq]
 | false => rw [List.filter_cons, h, List.filter_nil, if_neg (by simp), if_neg (by simp), List.append_nil]
theorem valD_lt (l : List UInt8) : ∀ n : Nat, l.all isDig = true → valD n l < (n + 1) * 10 ^ l.length := by
 induction l with
 | nil => intro n _; rw [valD_nil]; simp
 | cons c l ih =>
   intro n h
   simp only [List.all_cons, Bool.and_eq_true, isDig, decide_eq_true_eq] at h
   have h2 := ih (stepD n c) (by simpa [isDig] using h.2)
   rw [valD_cons, List.length_cons, Nat.pow_succ]
   refine Nat.lt_of_lt_of_le h2 ?_
   have h3 : stepD n c + 1 ≤ (n + 1) * 10 := by rw [stepD_eq]; omega
   calc (stepD n c + 1) * 10 ^ l.length ≤ ((n + 1) * 10) * 10 ^ l.length := Nat.mul_le_mul_right _ h3
     _ = (n + 1) * (10 ^ l.length * 10) := by rw [Nat.mul_assoc, Nat.mul_comm 10]
theorem digL_lt (l : List UInt8) {k : Nat} (h : l.length ≤ k) : digL l < 10 ^ k := by
 have h1 := valD_lt (l.filter isDig) 0 (by simp)
 rw [Nat.zero_add, Nat.one_mul] at h1
 exact Nat.lt_of_lt_of_le h1 (Nat.pow_le_pow_right (by omega) (Nat.le_trans (List.length_filter_le _ _) h))
def digTo (s : ByteArray) (i : Nat) : Nat := digL (s.data.toList.take i)
theorem digTo_all (s : ByteArray) : digTo s s.size = digs s := by
 rw [digTo, ← ba_len, List.take_length]; rfl
theorem digTo_lt {s : ByteArray} {i : Nat} (h : s.size ≤ 9) : digTo s i < 1000000000 :=
 digL_lt (k := 9) _ (by simp only [List.length_take]; rw [ba_len]; omega)
theorem digTo_lt' {s : ByteArray} {i : Nat} (h : i ≤ 8) : digTo s i < 100000000 :=
 digL_lt (k := 8) _ (by simp only [List.length_take]; omega)
theorem digTo_succ {s : ByteArray} {i : Nat} (h : i < s.size) : (digTo s (i + 1) : Int) = if 48 ≤ (s[i].toNat : Int) ∧ (s[i].toNat : Int) ≤ 57 then 10 * (digTo s i : Int) + s[i].toNat - 48 else digTo s i := by
 have h' : i < s.data.toList.length := by rw [Array.length_toList]; exact h
 have e : s.data.toList[i] = s[i] := by rw [Array.getElem_toList]; rfl
 rw [digTo, List.take_succ_eq_append_getElem h', e, digL_snoc, ← digTo]
 have hb : isDig s[i] = true ↔ (48 ≤ (s[i].toNat : Int) ∧ (s[i].toNat : Int) ≤ 57) := by
   simp only [isDig, Bool.and_eq_true, decide_eq_true_eq]; omega
 by_cases hd : isDig s[i] = true
 · rw [if_pos hd, if_pos (hb.1 hd)]
   have := hb.1 hd
   omega
 · rw [if_neg hd, if_neg (fun h => hd (hb.2 h))]
end Go.Proofs
end
section
namespace Go.Lv
theorem Ctr.weak {P : Program} {f : FuncId} {args : List V} {r r' : V} {hout hout' : Hp} (h : Ctr P f args [] r hout) (hw : WeakR 0 r hout r' hout') : Ctr P f args [] r' hout' :=
 ⟨h.1, fun w vs m av h1 h2 h3 h4 h5 => (h.2 w vs m av h1 h2 h3 h4 h5).mono fun e w' ⟨v, m', g1, g2, g3, g4, g5⟩ => by
   obtain ⟨m2, k1, k2, k3⟩ := hw w m [] av w' m' v rfl (Nat.zero_le _) h2 g2.size g3 g4 g5
   exact ⟨v, m2, g1, g2, k1, k2, k3⟩⟩
section
variable {α : Type} {cs : α → List V} {w : Nat} [FlatQ cs w]
end
end Go.Lv
end
section
set_option maxRecDepth 100000
namespace Go.Proofs
open Go.Lv
theorem splTo_size (c : UInt8) (s : ByteArray) : ∀ (i : Nat) (x : ByteArray), x ∈ (splTo c s i).1 → x.size ≤ s.size
 | 0, x, h => by simp [splTo] at h
 | i + 1, x, h => by
   by_cases hi : i < s.size
   · cases hc : (s[i]'hi == c) with
     | true =>
       rw [splTo_yes hi hc] at h
       rcases List.mem_append.1 h with h | h
       · exact splTo_size c s i x h
       · simp only [List.mem_singleton] at h
         subst h
         rw [ByteArray.size_extract]; omega
     | false =>
       rw [splTo_no hi hc] at h
       exact splTo_size c s i x h
   · rw [splTo, dif_neg hi] at h
     exact splTo_size c s i x h
theorem splS_size (c : UInt8) (s : ByteArray) {x : ByteArray} (h : x ∈ splS c s) : x.size ≤ s.size := by
 rw [splS] at h
 rcases List.mem_append.1 h with h | h
 · exact splTo_size c s _ x h
 · simp only [List.mem_singleton] at h
   subst h
   rw [ByteArray.size_extract]; omega
theorem splitF_ok (s : ByteArray) (c : UInt8) (hs : s.size ≤ 16777216) : Ctr Tryz.prog 27 [.str s, .str ⟨#[c]⟩] [] (StringS.sl (splS c s)) [] :=
 (split_ok s c hs).weak (by
   refine WeakR.pick [] (by decide) (fun j hj => by omega) (.inl ?_) rfl
   have e := take_rows (cs := StringS.cs) (splS c s)
   simp [ren, pickF, posOf, frzR, map_ren_rows] at e ⊢
   exact e.symm)
theorem l1SplitF_ok (s : ByteArray) (c : UInt8) (hs : s.size ≤ 16777216) : Ctr Tryz.prog 34 [.str s, .int .u8 c.toNat] [] (StringS.sl (splS c s)) [] :=
 (l1Split_ok s c hs).weak (by
   refine WeakR.pick [] (by decide) (fun j hj => by omega) (.inl ?_) rfl
   have e := take_rows (cs := StringS.cs) (splS c s)
   simp [ren, pickF, posOf, frzR, map_ren_rows] at e ⊢
   exact e.symm)
end Go.Proofs
end
section
set_option maxRecDepth 100000
set_option maxHeartbeats 1000000
namespace Go.Proofs
open Go.Lv
noncomputable def parseV (s : ByteArray) : V := match parseR s with
 | some r => .tup [r.v, .bool true]
 | none => .tup [QuakeRow.v ⟨0, 0, 0, 0, 0, 0, 0⟩, .bool false]
theorem tp_size (c : UInt8) (s : ByteArray) : (tp c s).size ≤ s.size := by
 show (Lib.trimPrefix s.data.toList _).toArray.size ≤ _
 rw [List.size_toArray, ← ba_len s, Lib.trimPrefix]
 split <;> simp
theorem repK_len (o : List UInt8) : ∀ (k : Nat) (l : List UInt8), (Lib.replaceK o [] k l).length ≤ l.length
 | 0, l => Nat.le_refl _
 | k + 1, l => by
   rw [Lib.replaceK]
   split
   · exact Nat.le_refl _
   · have := repK_len o k (l.drop ((Lib.index l o).toNat + o.length))
     simp only [List.length_append, List.length_take, List.length_drop, List.length_nil] at this ⊢
     omega
theorem rp_size (s : ByteArray) : (rp s).size ≤ s.size := by
 show (Lib.replace s.data.toList [46] [] 1).toArray.size ≤ _
 rw [List.size_toArray, ← ba_len s, Lib.replace, if_neg (by decide)]
 exact repK_len _ _ _
theorem befaft_size (c : UInt8) (s : ByteArray) : (bef c s).size ≤ s.size ∧ (aft c s).size ≤ s.size := by
 unfold bef aft
 split
 · simp only [ByteArray.size_extract]; omega
 · exact ⟨Nat.le_refl _, Nat.zero_le _⟩
theorem words_not {s : ByteArray} (h : (splS 32 s).length ≠ 8 ∨ ((splS 32 s).getD 7 ⟨#[]⟩).size ≠ 1) : parseR s = none := by
 refine parseR_none (fun r h1 h2 => ?_)
 rw [← h2, line_words h1] at h
 rcases h with h | h
 · exact h rfl
 · exact h rfl
theorem iParseQuake_ok (s : ByteArray) (hs : s.size ≤ 4194304) : Ctr Tryz.prog 9 [.str s] [] (parseV s) [] := by
 have hsp := splitF_ok s 32 (by omega)
 have hsz : ∀ y ∈ splS 32 s, y.size ≤ s.size := fun y hy => splS_size 32 s hy
 have hno := words_not (s := s)
 have hcand := parseR_cand s
 unfold cand at hcand
 generalize splS 32 s = L at *
 by_cases h8 : L.length = 8
 rotate_left
 · rw [parseV, hno (.inl h8)]
   have d : ((L.length : Int) != 8) = true := by simp; omega
   refine Ctr.intro Tryz.mixed Tryz.func9 rfl Tryz.okF9 ?_
   simp -implicitDefEqProofs -dsimp only [go_sem, Nat.reduceSub, Nat.reduceAdd, Nat.reduceMul, Nat.reduceLT, Nat.reduceLeDiff, Nat.reduceEqDiff, Nat.reduceDiv, Nat.reduceMod, Int.reduceToNat, Int.reduceLE, Int.reduceLT, Int.reduceBEq, Int.reduceBNe, Int.reduceNeg, Int.reduceAdd, Int.reduceSub, Int.reduceMul, reduceCtorEq, Tryz.ntmps9, Tryz.results9]
   (repeat ((repeat1' (first | simp -implicitDefEqProofs -dsimp only [go_sem, Nat.reduceSub, Nat.reduceAdd, Nat.reduceMul, Nat.reduceLT, Nat.reduceLeDiff, Nat.reduceEqDiff, Nat.reduceDiv, Nat.reduceMod, Int.reduceToNat, Int.reduceLE, Int.reduceLT, Int.reduceBEq, Int.reduceBNe, Int.reduceNeg, Int.reduceAdd, Int.reduceSub, Int.reduceMul, reduceCtorEq] | simp -dsimp (disch := omega) only [wrap_i64])); repeat (with_reducible refine sideA ?_)))
   (first | refine callT.at (hsp) ⟨leA, leA, trivial⟩ ?_ | refine callS.at (hsp) ⟨leA, leA, trivial⟩ ?_)
   (repeat ((repeat1' (first | simp -implicitDefEqProofs -dsimp only [go_sem, Nat.reduceSub, Nat.reduceAdd, Nat.reduceMul, Nat.reduceLT, Nat.reduceLeDiff, Nat.reduceEqDiff, Nat.reduceDiv, Nat.reduceMod, Int.reduceToNat, Int.reduceLE, Int.reduceLT, Int.reduceBEq, Int.reduceBNe, Int.reduceNeg, Int.reduceAdd, Int.reduceSub, Int.reduceMul, reduceCtorEq, d] | simp -dsimp (disch := omega) only [wrap_i64])); repeat (with_reducible refine sideA ?_)))
   exact WeakR.drop' rfl (by rfl)
 have h8' := h8
 match L, h8' with
 | [a0, a1, a2, a3, a4, a5, a6, a7], _ =>
 simp only [List.getD_cons_zero, List.getD_cons_succ] at hno hcand
 have hsp : Ctr Tryz.prog 27 [.str s, .str ⟨#[32]⟩] [] (.sl 8 1 [.str a0, .str a1, .str a2, .str a3, .str a4, .str a5, .str a6, .str a7]) [] := hsp
 have d8 : (((8 : Nat) : Int) != 8) = false := rfl
 by_cases h7 : a7.size = 1
 rotate_left
 · rw [parseV, hno (.inr h7)]
   have d : ((a7.size : Int) != 1) = true := by simp; omega
   refine Ctr.intro Tryz.mixed Tryz.func9 rfl Tryz.okF9 ?_
   simp -implicitDefEqProofs -dsimp only [go_sem, Nat.reduceSub, Nat.reduceAdd, Nat.reduceMul, Nat.reduceLT, Nat.reduceLeDiff, Nat.reduceEqDiff, Nat.reduceDiv, Nat.reduceMod, Int.reduceToNat, Int.reduceLE, Int.reduceLT, Int.reduceBEq, Int.reduceBNe, Int.reduceNeg, Int.reduceAdd, Int.reduceSub, Int.reduceMul, reduceCtorEq, Tryz.ntmps9, Tryz.results9]
   (repeat ((repeat1' (first | simp -implicitDefEqProofs -dsimp only [go_sem, Nat.reduceSub, Nat.reduceAdd, Nat.reduceMul, Nat.reduceLT, Nat.reduceLeDiff, Nat.reduceEqDiff, Nat.reduceDiv, Nat.reduceMod, Int.reduceToNat, Int.reduceLE, Int.reduceLT, Int.reduceBEq, Int.reduceBNe, Int.reduceNeg, Int.reduceAdd, Int.reduceSub, Int.reduceMul, reduceCtorEq] | simp -dsimp (disch := omega) only [wrap_i64])); repeat (with_reducible refine sideA ?_)))
   (first | refine callT.at (hsp) ⟨leA, leA, trivial⟩ ?_ | refine callS.at (hsp) ⟨leA, leA, trivial⟩ ?_)
   (repeat ((repeat1' (first | simp -implicitDefEqProofs -dsimp only [go_sem, Nat.reduceSub, Nat.reduceAdd, Nat.reduceMul, Nat.reduceLT, Nat.reduceLeDiff, Nat.reduceEqDiff, Nat.reduceDiv, Nat.reduceMod, Int.reduceToNat, Int.reduceLE, Int.reduceLT, Int.reduceBEq, Int.reduceBNe, Int.reduceNeg, Int.reduceAdd, Int.reduceSub, Int.reduceMul, reduceCtorEq, d, d8] | simp -dsimp (disch := omega) only [wrap_i64])); repeat (with_reducible refine sideA ?_)))
   exact WeakR.drop' rfl (by rfl)
 have d7 : ((a7.size : Int) != 1) = false := by simp; omega
 have z : ∀ y ∈ [a0, a1, a2, a3, a4, a5, a6, a7], y.size ≤ 4194304 := fun y hy => Nat.le_trans (hsz y hy) hs
 have hcut := cut_ok a3 44 (by have := z a3 (by simp); omega)
 have y3 := befaft_size 44 a3
 have y6 := rp_size (tp 77 a6)
 have x6 := tp_size 77 a6
 have x0 := tp_size 35 a0
 have x1 := tp_size 116 a1
 have z0 := z a0 (by simp)
 have z1 := z a1 (by simp)
 have z3 := z a3 (by simp)
 have z5 := z a5 (by simp)
 have z6 := z a6 (by simp)
 have t6 : Ctr Tryz.prog 30 [.str a6, .str ⟨#[77]⟩] [] (.str (tp 77 a6)) [] := trimPrefix_ok a6 ⟨#[77]⟩
 have t0 : Ctr Tryz.prog 30 [.str a0, .str ⟨#[35]⟩] [] (.str (tp 35 a0)) [] := trimPrefix_ok a0 ⟨#[35]⟩
 have t1 : Ctr Tryz.prog 30 [.str a1, .str ⟨#[116]⟩] [] (.str (tp 116 a1)) [] := trimPrefix_ok a1 ⟨#[116]⟩
 have r6 : Ctr Tryz.prog 29 [.str (tp 77 a6), .str ⟨#[46]⟩, .str ⟨#[]⟩, .int .i64 1] [] (.str (rp (tp 77 a6))) [] := replace_ok (tp 77 a6) ⟨#[46]⟩ ⟨#[]⟩ 1 (by omega) (by decide) (by decide)
 have hn := numbersIn_ok [tp 35 a0, tp 116 a1, bef 44 a3, aft 44 a3, a5, rp (tp 77 a6)] (by simp) (by
   intro x hx
   simp only [List.mem_cons, List.not_mem_nil, or_false] at hx
   rcases hx with rfl | rfl | rfl | rfl | rfl | rfl <;> omega)
 generalize rp (tp 77 a6) = v6 at *
 generalize tp 77 a6 = u6 at *
 generalize tp 35 a0 = v0 at *
 generalize tp 116 a1 = v1 at *
 generalize bef 44 a3 = vx at *
 generalize aft 44 a3 = vy at *
 generalize fnd 44 a3 = vb at *
 have hn : Ctr Tryz.prog 31 [StringS.sl [v0, v1, vx, vy, a5, v6]] [] (.osl 0 0 6 1) [some [.int .i64 (numOf v0), .int .i64 (numOf v1), .int .i64 (numOf vx), .int .i64 (numOf vy), .int .i64 (numOf a5), .int .i64 (numOf v6)]] := hn
 generalize numOf v0 = n0 at *
 generalize numOf v1 = n1 at *
 generalize numOf vx = n2 at *
 generalize numOf vy = n3 at *
 generalize numOf a5 = n4 at *
 generalize numOf v6 = n5 at *
 refine Ctr.intro Tryz.mixed Tryz.func9 rfl Tryz.okF9 ?_
 simp -implicitDefEqProofs -dsimp only [go_sem, Nat.reduceSub, Nat.reduceAdd, Nat.reduceMul, Nat.reduceLT, Nat.reduceLeDiff, Nat.reduceEqDiff, Nat.reduceDiv, Nat.reduceMod, Int.reduceToNat, Int.reduceLE, Int.reduceLT, Int.reduceBEq, Int.reduceBNe, Int.reduceNeg, Int.reduceAdd, Int.reduceSub, Int.reduceMul, reduceCtorEq, Tryz.ntmps9, Tryz.results9]
 (repeat ((repeat1' (first | simp -implicitDefEqProofs -dsimp only [go_sem, Nat.reduceSub, Nat.reduceAdd, Nat.reduceMul, Nat.reduceLT, Nat.reduceLeDiff, Nat.reduceEqDiff, Nat.reduceDiv, Nat.reduceMod, Int.reduceToNat, Int.reduceLE, Int.reduceLT, Int.reduceBEq, Int.reduceBNe, Int.reduceNeg, Int.reduceAdd, Int.reduceSub, Int.reduceMul, reduceCtorEq] | simp -dsimp (disch := omega) only [wrap_i64])); repeat (with_reducible refine sideA ?_)))
 (first | refine callT.at (hsp) ⟨leA, leA, trivial⟩ ?_ | refine callS.at (hsp) ⟨leA, leA, trivial⟩ ?_)
 (repeat ((repeat1' (first | simp -implicitDefEqProofs -dsimp only [go_sem, Nat.reduceSub, Nat.reduceAdd, Nat.reduceMul, Nat.reduceLT, Nat.reduceLeDiff, Nat.reduceEqDiff, Nat.reduceDiv, Nat.reduceMod, Int.reduceToNat, Int.reduceLE, Int.reduceLT, Int.reduceBEq, Int.reduceBNe, Int.reduceNeg, Int.reduceAdd, Int.reduceSub, Int.reduceMul, reduceCtorEq, d7, d8] | simp -dsimp (disch := omega) only [wrap_i64])); repeat (with_reducible refine sideA ?_)))
 (first | refine callT.at (hcut) ⟨leA, leA, trivial⟩ ?_ | refine callS.at (hcut) ⟨leA, leA, trivial⟩ ?_)
 (repeat ((repeat1' (first | simp -implicitDefEqProofs -dsimp only [go_sem, Nat.reduceSub, Nat.reduceAdd, Nat.reduceMul, Nat.reduceLT, Nat.reduceLeDiff, Nat.reduceEqDiff, Nat.reduceDiv, Nat.reduceMod, Int.reduceToNat, Int.reduceLE, Int.reduceLT, Int.reduceBEq, Int.reduceBNe, Int.reduceNeg, Int.reduceAdd, Int.reduceSub, Int.reduceMul, reduceCtorEq] | simp -dsimp (disch := omega) only [wrap_i64])); repeat (with_reducible refine sideA ?_)))
 (first | refine callT.at (t6) ⟨leA, leA, trivial⟩ ?_ | refine callS.at (t6) ⟨leA, leA, trivial⟩ ?_)
 (repeat ((repeat1' (first | simp -implicitDefEqProofs -dsimp only [go_sem, Nat.reduceSub, Nat.reduceAdd, Nat.reduceMul, Nat.reduceLT, Nat.reduceLeDiff, Nat.reduceEqDiff, Nat.reduceDiv, Nat.reduceMod, Int.reduceToNat, Int.reduceLE, Int.reduceLT, Int.reduceBEq, Int.reduceBNe, Int.reduceNeg, Int.reduceAdd, Int.reduceSub, Int.reduceMul, reduceCtorEq] | simp -dsimp (disch := omega) only [wrap_i64])); repeat (with_reducible refine sideA ?_)))
 (first | refine callT.at (r6) ⟨leA, leA, leA, leA, trivial⟩ ?_ | refine callS.at (r6) ⟨leA, leA, leA, leA, trivial⟩ ?_)
 (repeat ((repeat1' (first | simp -implicitDefEqProofs -dsimp only [go_sem, Nat.reduceSub, Nat.reduceAdd, Nat.reduceMul, Nat.reduceLT, Nat.reduceLeDiff, Nat.reduceEqDiff, Nat.reduceDiv, Nat.reduceMod, Int.reduceToNat, Int.reduceLE, Int.reduceLT, Int.reduceBEq, Int.reduceBNe, Int.reduceNeg, Int.reduceAdd, Int.reduceSub, Int.reduceMul, reduceCtorEq, ↓gop_move, ↓gop_indexAddr, ↓gop_load, ↓gop_call, ↓gop_buildSlice, ↓gop_index, ↓gop_convert, ↓gop_binOp, ↓gop_build, ↓gop_alloc, ↓gop_assign] | simp -dsimp (disch := omega) only [wrap_i64])); repeat (with_reducible refine sideA ?_)))
 (first | refine callT.at (t0) ⟨leA, leA, trivial⟩ ?_ | refine callS.at (t0) ⟨leA, leA, trivial⟩ ?_)
 (repeat ((repeat1' (first | simp -implicitDefEqProofs -dsimp only [go_sem, Nat.reduceSub, Nat.reduceAdd, Nat.reduceMul, Nat.reduceLT, Nat.reduceLeDiff, Nat.reduceEqDiff, Nat.reduceDiv, Nat.reduceMod, Int.reduceToNat, Int.reduceLE, Int.reduceLT, Int.reduceBEq, Int.reduceBNe, Int.reduceNeg, Int.reduceAdd, Int.reduceSub, Int.reduceMul, reduceCtorEq, ↓gop_move, ↓gop_indexAddr, ↓gop_load, ↓gop_call, ↓gop_buildSlice, ↓gop_index, ↓gop_convert, ↓gop_binOp, ↓gop_build, ↓gop_alloc, ↓gop_assign] | simp -dsimp (disch := omega) only [wrap_i64])); repeat (with_reducible refine sideA ?_)))
 (first | refine callT.at (t1) ⟨leA, leA, trivial⟩ ?_ | refine callS.at (t1) ⟨leA, leA, trivial⟩ ?_)
 (repeat ((repeat1' (first | simp -implicitDefEqProofs -dsimp only [go_sem, Nat.reduceSub, Nat.reduceAdd, Nat.reduceMul, Nat.reduceLT, Nat.reduceLeDiff, Nat.reduceEqDiff, Nat.reduceDiv, Nat.reduceMod, Int.reduceToNat, Int.reduceLE, Int.reduceLT, Int.reduceBEq, Int.reduceBNe, Int.reduceNeg, Int.reduceAdd, Int.reduceSub, Int.reduceMul, reduceCtorEq, ↓gop_move, ↓gop_indexAddr, ↓gop_load, ↓gop_call, ↓gop_buildSlice, ↓gop_index, ↓gop_convert, ↓gop_binOp, ↓gop_build, ↓gop_alloc, ↓gop_assign] | simp -dsimp (disch := omega) only [wrap_i64])); repeat (with_reducible refine sideA ?_)))
 refine callT.at hn ⟨leA, trivial⟩ ?_ (.inr ⟨noRo_ok 3 rfl, NoRoH.of (by rfl)⟩)
 (repeat ((repeat1' (first | simp -implicitDefEqProofs -dsimp only [go_sem, Nat.reduceSub, Nat.reduceAdd, Nat.reduceMul, Nat.reduceLT, Nat.reduceLeDiff, Nat.reduceEqDiff, Nat.reduceDiv, Nat.reduceMod, Int.reduceToNat, Int.reduceLE, Int.reduceLT, Int.reduceBEq, Int.reduceBNe, Int.reduceNeg, Int.reduceAdd, Int.reduceSub, Int.reduceMul, reduceCtorEq, ↓gop_move, ↓gop_indexAddr, ↓gop_load, ↓gop_call, ↓gop_buildSlice, ↓gop_index, ↓gop_convert, ↓gop_binOp, ↓gop_build, ↓gop_alloc, ↓gop_assign] | simp -dsimp (disch := omega) only [wrap_i64])); repeat (with_reducible refine sideA ?_)))
 refine ⟨by omega, ?_⟩
 have hch : (a7.data.toList.headD 0) = a7[0]'(by omega) := by
   obtain ⟨⟨l⟩⟩ := a7
   match l, h7 with
   | [c], _ => rfl
 rw [hch] at hcand
 have hlt : (a7[0]'(by omega)).toNat < 256 := (a7[0]'(by omega)).toNat_lt
 generalize (a7[0]'(by omega)).toNat = ch at *
 have hw : IntKind.i64.wrap (IntKind.i64.wrap (IntKind.i64.wrap (ch : Int) - 65) + 1) = (ch : Int) - 65 + 1 := by
   have w1 : IntKind.i64.wrap (ch : Int) = ch := wrap_i64 (by omega) (by omega)
   have w2 : IntKind.i64.wrap ((ch : Int) - 65) = (ch : Int) - 65 := wrap_i64 (by omega) (by omega)
   rw [w1, w2, wrap_i64 (by omega) (by omega)]
 rw [hw]
 have hql := iQuakeLine_ok ⟨n0, n1, n2, n3, n4, n5, (ch : Int) - 65 + 1⟩
 obtain ⟨q, hq⟩ : ∃ q : QuakeRow, q = ⟨n0, n1, n2, n3, n4, n5, (ch : Int) - 65 + 1⟩ := ⟨_, rfl⟩
 have hqv : V.agg [.int .i64 n0, .int .i64 n1, .int .i64 n2, .int .i64 n3, .int .i64 n4, .int .i64 n5, .int .i64 ((ch : Int) - 65 + 1)] = q.v := by rw [hq]; rfl
 rw [← hq] at hql hcand
 unfold qlineR at hql
 rw [parseV]
 by_cases hv : qrB q = true
 rotate_left
 · rw [hcand, if_neg (fun h => hv h.1)]
   rw [if_neg hv] at hql
   rw [hqv]
   (first | refine callT.at (hql) ⟨leA, trivial⟩ ?_ | refine callS.at (hql) ⟨leA, trivial⟩ ?_)
   (repeat ((repeat1' (first | simp -implicitDefEqProofs -dsimp only [go_sem, Nat.reduceSub, Nat.reduceAdd, Nat.reduceMul, Nat.reduceLT, Nat.reduceLeDiff, Nat.reduceEqDiff, Nat.reduceDiv, Nat.reduceMod, Int.reduceToNat, Int.reduceLE, Int.reduceLT, Int.reduceBEq, Int.reduceBNe, Int.reduceNeg, Int.reduceAdd, Int.reduceSub, Int.reduceMul, reduceCtorEq] | simp -dsimp (disch := omega) only [wrap_i64])); repeat (with_reducible refine sideA ?_)))
   exact WeakR.drop' rfl (by rfl)
 rw [if_pos hv] at hql
 by_cases he : quakeLine q = s
 rotate_left
 · have hne : ((quakeLine q).toList == s.toList) = false := by rw [ba_beq]; exact decide_eq_false he
   rw [hcand, if_neg (fun h => he h.2)]
   rw [hqv]
   (first | refine callT.at (hql) ⟨leA, trivial⟩ ?_ | refine callS.at (hql) ⟨leA, trivial⟩ ?_)
   (repeat ((repeat1' (first | simp -implicitDefEqProofs -dsimp only [go_sem, Nat.reduceSub, Nat.reduceAdd, Nat.reduceMul, Nat.reduceLT, Nat.reduceLeDiff, Nat.reduceEqDiff, Nat.reduceDiv, Nat.reduceMod, Int.reduceToNat, Int.reduceLE, Int.reduceLT, Int.reduceBEq, Int.reduceBNe, Int.reduceNeg, Int.reduceAdd, Int.reduceSub, Int.reduceMul, reduceCtorEq, hne] | simp -dsimp (disch := omega) only [wrap_i64])); repeat (with_reducible refine sideA ?_)))
   exact WeakR.drop' rfl (by rfl)
 · have hne : ((quakeLine q).toList == s.toList) = true := by rw [ba_beq]; exact decide_eq_true he
   rw [hcand, if_pos ⟨hv, he⟩]
   rw [hqv]
   (first | refine callT.at (hql) ⟨leA, trivial⟩ ?_ | refine callS.at (hql) ⟨leA, trivial⟩ ?_)
   (repeat ((repeat1' (first | simp -implicitDefEqProofs -dsimp only [go_sem, Nat.reduceSub, Nat.reduceAdd, Nat.reduceMul, Nat.reduceLT, Nat.reduceLeDiff, Nat.reduceEqDiff, Nat.reduceDiv, Nat.reduceMod, Int.reduceToNat, Int.reduceLE, Int.reduceLT, Int.reduceBEq, Int.reduceBNe, Int.reduceNeg, Int.reduceAdd, Int.reduceSub, Int.reduceMul, reduceCtorEq, hne] | simp -dsimp (disch := omega) only [wrap_i64])); repeat (with_reducible refine sideA ?_)))
   rw [← hqv]
   exact WeakR.drop' rfl (by rfl)
end Go.Proofs
end
section
set_option maxRecDepth 100000
set_option maxHeartbeats 4000000
namespace Go.Proofs
open Go.Lv
theorem l24Digits_ok (s : ByteArray) (hs : s.size ≤ 9) : Ctr Tryz.prog 35 [.str s] [] (.int .i64 (digs s : Int)) [] := by
 refine Ctr.intro Tryz.mixed Tryz.func35 rfl Tryz.okF35 ?_
 simp -implicitDefEqProofs -dsimp only [go_sem, Tryz.ntmps35, Tryz.results35]
 refine LoopT.intro (fun i : Nat => i ≤ s.size) (fun i => ⟨[.str s, .undef, .undef, .int .i64 (digTo s i : Int), .int .i64 i, .undef, .undef, .undef, .undef, .undef, .undef, .undef, .undef, .undef, .undef, .undef, .undef, .undef, .undef, .undef, .undef, .undef, .undef, .undef, .undef, .undef, .undef, .undef, .undef, .undef], [], 0⟩) (fun i => s.size - i) 0 (Nat.zero_le _) ?_ (fun i hi => ?_)
 · refine Weak.cut (0) (by simp) (by simp) ?_ ?_
   · simp [LeC, LeV, ren, cutF]
     rfl
   · rfl
 simp -implicitDefEqProofs -dsimp only [go_sem]
 refine condT.split (fun g1 => ?_) (fun g1 => ?_)
 · have hi' : i < s.size := by simpa using g1
   have hsc := digTo_succ hi'
   have hb := digTo_lt (i := i) hs
   have hb8 := digTo_lt' (s := s) (i := i) (by omega)
   have hc : s[i].toNat < 256 := s[i].toNat_lt
   have hwc : IntKind.i64.wrap (s[i].toNat : Int) = (s[i].toNat : Int) := wrap_i64 (by omega) (by omega)
   have hwm : IntKind.i64.wrap (10 * (digTo s i : Int)) = 10 * (digTo s i : Int) := wrap_i64 (by omega) (by omega)
   have hwa : IntKind.i64.wrap (10 * (digTo s i : Int) + (s[i].toNat : Int)) = 10 * (digTo s i : Int) + (s[i].toNat : Int) := wrap_i64 (by omega) (by omega)
   have hws : IntKind.i64.wrap (10 * (digTo s i : Int) + (s[i].toNat : Int) - 48) = 10 * (digTo s i : Int) + (s[i].toNat : Int) - 48 := wrap_i64 (by omega) (by omega)
   have hw1 : IntKind.i64.wrap ((i : Int) + 1) = ((i + 1 : Nat) : Int) := by rw [wrap_i64 (by omega) (by omega)]; omega
   (repeat ((repeat1' (first | simp -implicitDefEqProofs -dsimp only [go_sem, g1] | simp -dsimp (disch := omega) only [wrap_i64])); repeat (with_reducible refine sideA ?_)))
   refine ⟨⟨by omega, by omega⟩, ?_⟩
   refine guardT.splitT (fun h2 => ?_) (fun h2 => ?_) <;> (repeat ((repeat1' (first | simp -implicitDefEqProofs -dsimp only [go_sem, h2] | simp -dsimp (disch := omega) only [wrap_i64])); repeat (with_reducible refine sideA ?_)))
   · refine ⟨⟨by omega, by omega⟩, ?_⟩
     refine condT.split (fun h3 => ?_) (fun h3 => ?_) <;> (repeat ((repeat1' (first | simp -implicitDefEqProofs -dsimp only [go_sem, h3] | simp -dsimp (disch := omega) only [wrap_i64])); repeat (with_reducible refine sideA ?_)))
     · refine ⟨⟨by omega, by omega⟩, ?_⟩
       rw [if_pos (by simp at h2 h3; omega)] at hsc
       (repeat ((repeat1' (first | simp -implicitDefEqProofs -dsimp only [go_sem, hwc, hwm, hwa, hws, hw1] | simp -dsimp (disch := omega) only [wrap_i64])); repeat (with_reducible refine sideA ?_)))
       refine ⟨i + 1, hi', ?_, by omega⟩
       refine Weak.cut (0) (by simp) (by simp) ?_ ?_
       · simp [LeC, LeV, ren, cutF, hsc]
       · rfl
     · rw [if_neg (by simp at h2 h3; omega)] at hsc
       (repeat ((repeat1' (first | simp -implicitDefEqProofs -dsimp only [go_sem, hw1] | simp -dsimp (disch := omega) only [wrap_i64])); repeat (with_reducible refine sideA ?_)))
       refine ⟨i + 1, hi', ?_, by omega⟩
       refine Weak.cut (0) (by simp) (by simp) ?_ ?_
       · simp [LeC, LeV, ren, cutF, hsc]
       · rfl
   · rw [if_neg (by simp at h2; omega)] at hsc
     (repeat ((repeat1' (first | simp -implicitDefEqProofs -dsimp only [go_sem, hw1] | simp -dsimp (disch := omega) only [wrap_i64])); repeat (with_reducible refine sideA ?_)))
     refine ⟨i + 1, hi', ?_, by omega⟩
     refine Weak.cut (0) (by simp) (by simp) ?_ ?_
     · simp [LeC, LeV, ren, cutF, hsc]
     · rfl
 · have hi' : i = s.size := by simp at g1; omega
   subst hi'
   rw [digTo_all]
   (repeat ((repeat1' (first | simp -implicitDefEqProofs -dsimp only [go_sem, g1] | simp -dsimp (disch := omega) only [wrap_i64])); repeat (with_reducible refine sideA ?_)))
   exact WeakR.drop' rfl (by rfl)
theorem sParseQuake_ok (s : ByteArray) (hs : s.size ≤ 4194304) : Ctr Tryz.prog 11 [.str s] [] (parseV s) [] := by
 have hsp := l1SplitF_ok s 32 (by omega)
 have hsz : ∀ y ∈ splS 32 s, y.size ≤ s.size := fun y hy => splS_size 32 s hy
 by_cases h60 : 60 < s.size
 · have d : decide (60 < (s.size : Int)) = true := decide_eq_true (by omega)
   rw [parseV, parse_long h60]
   refine Ctr.intro Tryz.mixed Tryz.func11 rfl Tryz.okF11 ?_
   simp -implicitDefEqProofs -dsimp only [go_sem, Tryz.ntmps11, Tryz.results11]
   (repeat ((repeat1' (first | simp -implicitDefEqProofs -dsimp only [go_sem] | simp -dsimp (disch := omega) only [wrap_i64])); repeat (with_reducible refine sideA ?_)))
   (first | refine callT.at (hsp) ⟨leA, leA, trivial⟩ ?_ | refine callS.at (hsp) ⟨leA, leA, trivial⟩ ?_)
   (repeat ((repeat1' (first | simp -implicitDefEqProofs -dsimp only [go_sem, d] | simp -dsimp (disch := omega) only [wrap_i64])); repeat (with_reducible refine sideA ?_)))
   exact WeakR.drop' rfl (by rfl)
 have d60 : decide (60 < (s.size : Int)) = false := decide_eq_false (by omega)
 by_cases h8 : (splS 32 s).length = 8
 rotate_left
 · have d : (((splS 32 s).length : Int) != 8) = true := by simp; omega
   rw [parseV, parse_words h8]
   refine Ctr.intro Tryz.mixed Tryz.func11 rfl Tryz.okF11 ?_
   simp -implicitDefEqProofs -dsimp only [go_sem, Tryz.ntmps11, Tryz.results11]
   (repeat ((repeat1' (first | simp -implicitDefEqProofs -dsimp only [go_sem] | simp -dsimp (disch := omega) only [wrap_i64])); repeat (with_reducible refine sideA ?_)))
   (first | refine callT.at (hsp) ⟨leA, leA, trivial⟩ ?_ | refine callS.at (hsp) ⟨leA, leA, trivial⟩ ?_)
   (repeat ((repeat1' (first | simp -implicitDefEqProofs -dsimp only [go_sem, d60, d] | simp -dsimp (disch := omega) only [wrap_i64])); repeat (with_reducible refine sideA ?_)))
   exact WeakR.drop' rfl (by rfl)
 have hsix := @parse_six s
 have hplace := @parse_place s
 have hwide := fun w => @parse_wide s w
 have hend := @parse_end s
 generalize splS 32 s = L at *
 have h8' := h8
 match L, h8' with
 | [a0, a1, a2, a3, a4, a5, a6, a7], _ =>
 have hsix := hsix (a0 := a0) (a6 := a6) (a7 := a7) rfl
 have hplace := hplace (a3 := a3) rfl
 have hend := fun p0 p1 => hend (p0 := p0) (p1 := p1) (a3 := a3) rfl
 have hsp : Ctr Tryz.prog 34 [.str s, .int .u8 32] [] (.sl 8 1 [.str a0, .str a1, .str a2, .str a3, .str a4, .str a5, .str a6, .str a7]) [] := hsp
 have d8 : (((8 : Nat) : Int) != 8) = false := rfl
 by_cases h6 : a6.size < 2
 · have d : decide ((a6.size : Int) < 2) = true := decide_eq_true (by omega)
   rw [parseV, hsix h6]
   refine Ctr.intro Tryz.mixed Tryz.func11 rfl Tryz.okF11 ?_
   simp -implicitDefEqProofs -dsimp only [go_sem, Tryz.ntmps11, Tryz.results11]
   (repeat ((repeat1' (first | simp -implicitDefEqProofs -dsimp only [go_sem] | simp -dsimp (disch := omega) only [wrap_i64])); repeat (with_reducible refine sideA ?_)))
   (first | refine callT.at (hsp) ⟨leA, leA, trivial⟩ ?_ | refine callS.at (hsp) ⟨leA, leA, trivial⟩ ?_)
   (repeat ((repeat1' (first | simp -implicitDefEqProofs -dsimp only [go_sem, d60, d8, d] | simp -dsimp (disch := omega) only [wrap_i64])); repeat (with_reducible refine sideA ?_)))
   exact WeakR.drop' rfl (by rfl)
 have d6 : decide ((a6.size : Int) < 2) = false := decide_eq_false (by omega)
 have hsp3 := l1SplitF_ok a3 44 (by have := hsz a3 (by simp); omega)
 have hpsz : ∀ y ∈ splS 44 a3, y.size ≤ a3.size := fun y hy => splS_size 44 a3 hy
 generalize splS 44 a3 = Q at *
 refine Ctr.intro Tryz.mixed Tryz.func11 rfl Tryz.okF11 ?_
 simp -implicitDefEqProofs -dsimp only [go_sem, Tryz.ntmps11, Tryz.results11]
 (repeat ((repeat1' (first | simp -implicitDefEqProofs -dsimp only [go_sem] | simp -dsimp (disch := omega) only [wrap_i64])); repeat (with_reducible refine sideA ?_)))
 (first | refine callT.at (hsp) ⟨leA, leA, trivial⟩ ?_ | refine callS.at (hsp) ⟨leA, leA, trivial⟩ ?_)
 (repeat ((repeat1' (first | simp -implicitDefEqProofs -dsimp only [go_sem, d60, d8, d6] | simp -dsimp (disch := omega) only [wrap_i64])); repeat (with_reducible refine sideA ?_)))
 (first | refine callT.at (hsp3) ⟨leA, leA, trivial⟩ ?_ | refine callS.at (hsp3) ⟨leA, leA, trivial⟩ ?_)
 (repeat ((repeat1' (first | simp -implicitDefEqProofs -dsimp only [go_sem] | simp -dsimp (disch := omega) only [wrap_i64])); repeat (with_reducible refine sideA ?_)))
 obtain ⟨W, hW⟩ : ∃ W, W = [a0, a1, a2, a3, a4, a5, a6, a7] := ⟨_, rfl⟩
 have hWl : W.length = 8 := by rw [hW]; rfl
 have hWs : StringS.sl W = .sl 8 1 [.str a0, .str a1, .str a2, .str a3, .str a4, .str a5, .str a6, .str a7] := by rw [hW]; rfl
 rw [← hW] at hsz hwide
 refine LoopT.intro (fun i : Nat => i ≤ 8 ∧ ∀ j (hj : j < W.length), j < i → (W[j]).size ≤ 9) (fun i => ⟨[.str s, .undef, .ptr 0 0, .undef, StringS.sl W, StringS.sl Q, .int .i64 i, .undef, .undef, .undef, .undef, .undef, .undef, .undef, .undef, .undef, .undef, .undef, .undef, .undef, .undef, .undef, .undef, .undef, .undef, .undef, .undef, .undef, .undef, .undef, .undef, .undef, .undef, .undef, .undef, .undef, .undef, .undef, .undef, .undef, .undef, .undef, .undef, .undef, .undef, .undef, .undef, .undef, .undef, .undef, .undef, .undef, .undef, .undef, .undef, .undef, .undef, .undef, .undef, .undef, .undef, .undef, .undef, .undef, .undef, .undef, .undef, .undef, .undef, .undef, .undef, .undef, .undef, .undef, .undef, .undef, .undef, .undef, .undef, .undef, .undef, .undef, .undef, .undef, .undef, .undef, .undef, .undef, .undef, .undef, .undef, .undef, .undef, .undef, .undef, .undef, .undef, .undef], [some [.int .i64 0, .int .i64 0, .int .i64 0, .int .i64 0, .int .i64 0, .int .i64 0, .int .i64 0]], 0⟩) (fun i => 8 - i) 0 ⟨Nat.zero_le _, fun j hj h => by omega⟩ ?_ (fun i hi => ?_)
 · refine Weak.cut (1) (by simp) (by simp) ?_ ?_
   · rw [hWs]; simp [LeC, LeV, ren, cutF, StringS.sl]
   · rfl
 obtain ⟨hi8, hi9⟩ := hi
 have hw1 : IntKind.i64.wrap ((i : Int) + 1) = ((i + 1 : Nat) : Int) := by rw [wrap_i64 (by omega) (by omega)]; omega
 by_cases hlt : i < 8
 · have hi' : i < W.length := by omega
   have hd : decide ((i : Int) < (W.length : Int)) = true := decide_eq_true (by omega)
   have hr := rows_at StringS.csl hi'
   simp -implicitDefEqProofs -dsimp only [go_sem, StringS.sl]
   (repeat ((repeat1' (first | simp -implicitDefEqProofs -dsimp only [go_sem, hd, hr, StringS.cs] | simp -dsimp (disch := omega) only [wrap_i64])); repeat (with_reducible refine sideA ?_)))
   refine condT.split (fun h2 => ?_) (fun h2 => ?_) <;> (repeat ((repeat1' (first | simp -implicitDefEqProofs -dsimp only [go_sem, h2] | simp -dsimp (disch := omega) only [wrap_i64])); repeat (with_reducible refine sideA ?_)))
   · rw [parseV, hwide W[i] (List.getElem_mem hi') (by simp at h2; omega)]
     exact WeakR.drop' rfl (by rfl)
   · refine ⟨i + 1, ⟨hlt, fun j hj hji => ?_⟩, ?_, by omega⟩
     · rcases Nat.lt_or_ge j i with h | h
       · exact hi9 j hj h
       · obtain rfl : j = i := by omega
         simp at h2; omega
     · refine Weak.cut (1) (by simp) (by simp) ?_ ?_
       · simp [LeC, LeV, ren, cutF, StringS.sl, hw1]
       · rfl
 obtain rfl : i = 8 := by omega
 have hd : decide (((8 : Nat) : Int) < (W.length : Int)) = false := decide_eq_false (by omega)
 simp -implicitDefEqProofs -dsimp only [go_sem, StringS.sl]
 (repeat ((repeat1' (first | simp -implicitDefEqProofs -dsimp only [go_sem, hd] | simp -dsimp (disch := omega) only [wrap_i64])); repeat (with_reducible refine sideA ?_)))
 by_cases hq2 : Q.length = 2
 rotate_left
 · have d : ((Q.length : Int) != 2) = true := by simp; omega
   (repeat ((repeat1' (first | simp -implicitDefEqProofs -dsimp only [go_sem, d] | simp -dsimp (disch := omega) only [wrap_i64])); repeat (with_reducible refine sideA ?_)))
   rw [parseV, hplace hq2]
   exact WeakR.drop' rfl (by rfl)
 have d2 : ((Q.length : Int) != 2) = false := by simp; omega
 have hq2' := hq2
 match Q, hq2' with
 | [p0, p1], _ =>
 have hend := hend p0 p1 rfl
 have n0 : a0.size ≤ 9 := by subst hW; exact hi9 0 (by simp) (by omega)
 have n1 : a1.size ≤ 9 := by subst hW; exact hi9 1 (by simp) (by omega)
 have n3 : a3.size ≤ 9 := by subst hW; exact hi9 3 (by simp) (by omega)
 have n5 : a5.size ≤ 9 := by subst hW; exact hi9 5 (by simp) (by omega)
 have n6 : a6.size ≤ 9 := by subst hW; exact hi9 6 (by simp) (by omega)
 have m0 : p0.size ≤ 9 := by have := hpsz p0 (by simp); omega
 have m1 : p1.size ≤ 9 := by have := hpsz p1 (by simp); omega
 have c0 := l24Digits_ok a0 n0
 have c1 := l24Digits_ok a1 n1
 have c5 := l24Digits_ok a5 n5
 have c6 := l24Digits_ok a6 n6
 have e0 := l24Digits_ok p0 m0
 have e1 := l24Digits_ok p1 m1
 have b6 : (digs a6 : Int) < 1000000000 := by have := digL_lt (k := 9) a6.data.toList (by rw [ba_len]; omega); simp only [digs]; omega
 unfold rdG at hend
 generalize (digs a0 : Int) = x0 at *
 generalize (digs a1 : Int) = x1 at *
 generalize (digs p0 : Int) = y0 at *
 generalize (digs p1 : Int) = y1 at *
 generalize (digs a5 : Int) = x5 at *
 have b6' : (0 : Int) ≤ (digs a6 : Int) := by omega
 generalize (digs a6 : Int) = x6 at *
 have d22 : (((2 : Nat) : Int) != 2) = false := rfl
 have hQr : rows StringS.cs [p0, p1] = [.str p0, .str p1] := rfl
 have hWr : rows StringS.cs W = [.str a0, .str a1, .str a2, .str a3, .str a4, .str a5, .str a6, .str a7] := by rw [hW]; rfl
 (repeat ((repeat1' (first | simp -implicitDefEqProofs -dsimp only [go_sem, d2, d22, hQr, hWr, hWl, List.length_cons, List.length_nil, ↓gop_move, ↓gop_indexAddr, ↓gop_load, ↓gop_call, ↓gop_build, ↓gop_alloc] | simp -dsimp (disch := omega) only [wrap_i64])); repeat (with_reducible refine sideA ?_)))
 (first | refine callT.at (c0) ⟨leA, trivial⟩ ?_ | refine callS.at (c0) ⟨leA, trivial⟩ ?_)
 (repeat ((repeat1' (first | simp -implicitDefEqProofs -dsimp only [go_sem, ↓gop_move, ↓gop_indexAddr, ↓gop_load, ↓gop_call, ↓gop_build, ↓gop_alloc] | simp -dsimp (disch := omega) only [wrap_i64])); repeat (with_reducible refine sideA ?_)))
 (first | refine callT.at (c1) ⟨leA, trivial⟩ ?_ | refine callS.at (c1) ⟨leA, trivial⟩ ?_)
 (repeat ((repeat1' (first | simp -implicitDefEqProofs -dsimp only [go_sem, ↓gop_move, ↓gop_indexAddr, ↓gop_load, ↓gop_call, ↓gop_build, ↓gop_alloc] | simp -dsimp (disch := omega) only [wrap_i64])); repeat (with_reducible refine sideA ?_)))
 (first | refine callT.at (e0) ⟨leA, trivial⟩ ?_ | refine callS.at (e0) ⟨leA, trivial⟩ ?_)
 (repeat ((repeat1' (first | simp -implicitDefEqProofs -dsimp only [go_sem, ↓gop_move, ↓gop_indexAddr, ↓gop_load, ↓gop_call, ↓gop_build, ↓gop_alloc] | simp -dsimp (disch := omega) only [wrap_i64])); repeat (with_reducible refine sideA ?_)))
 (first | refine callT.at (e1) ⟨leA, trivial⟩ ?_ | refine callS.at (e1) ⟨leA, trivial⟩ ?_)
 (repeat ((repeat1' (first | simp -implicitDefEqProofs -dsimp only [go_sem, ↓gop_move, ↓gop_indexAddr, ↓gop_load, ↓gop_call, ↓gop_build, ↓gop_alloc] | simp -dsimp (disch := omega) only [wrap_i64])); repeat (with_reducible refine sideA ?_)))
 (first | refine callT.at (c5) ⟨leA, trivial⟩ ?_ | refine callS.at (c5) ⟨leA, trivial⟩ ?_)
 (repeat ((repeat1' (first | simp -implicitDefEqProofs -dsimp only [go_sem, ↓gop_move, ↓gop_indexAddr, ↓gop_load, ↓gop_call, ↓gop_build, ↓gop_alloc] | simp -dsimp (disch := omega) only [wrap_i64])); repeat (with_reducible refine sideA ?_)))
 (first | refine callT.at (c6) ⟨leA, trivial⟩ ?_ | refine callS.at (c6) ⟨leA, trivial⟩ ?_)
 (repeat ((repeat1' (first | simp -implicitDefEqProofs -dsimp only [go_sem, ↓gop_move, ↓gop_indexAddr, ↓gop_load, ↓gop_call, ↓gop_build, ↓gop_alloc] | simp -dsimp (disch := omega) only [wrap_i64])); repeat (with_reducible refine sideA ?_)))
 refine ⟨by omega, ?_⟩
 have h1l : 1 < a6.size := by omega
 have hsg : (a6.data.toList[1]? = some 45) ↔ (a6[1]'h1l).toNat = 45 := by
   rw [List.getElem?_eq_getElem (by rw [ba_len]; exact h1l), ba_get a6 h1l, Option.some.injEq, ← UInt8.toNat_inj]
   rfl
 refine condT.split (fun hm => ?_) (fun hm => ?_)
 · have hs1 : a6.data.toList[1]? = some 45 := hsg.2 (by simp at hm; omega)
   simp only [if_pos hs1] at hend
   have hwn : IntKind.i64.wrap (0 - x6) = -x6 := by rw [wrap_i64 (by omega) (by omega)]; omega
   obtain ⟨sz, hsz⟩ : ∃ sz, sz = -x6 := ⟨_, rfl⟩
   rw [← hsz] at hend hwn
   (repeat ((repeat1' (first | simp -implicitDefEqProofs -dsimp only [go_sem, hm, hwn] | simp -dsimp (disch := omega) only [wrap_i64])); repeat (with_reducible refine sideA ?_)))
   refine LoopT.intro (fun g : Nat => 1 ≤ g ∧ g ≤ 5 ∧ ∀ j : Int, 1 ≤ j → j < g → ¬ (qrB ⟨x0, x1, y0, y1, x5, sz, j⟩ = true ∧ quakeLine ⟨x0, x1, y0, y1, x5, sz, j⟩ = s)) (fun g => ⟨[.str s, .undef, .ptr 0 0, .undef, .undef, .undef, .undef, .ptr 1 0, .int .i64 g, .undef, .undef, .undef, .undef, .undef, .undef, .undef, .undef, .undef, .undef, .undef, .undef, .undef, .undef, .undef, .undef, .undef, .undef, .undef, .undef, .undef, .undef, .undef, .undef, .undef, .undef, .undef, .undef, .undef, .undef, .undef, .undef, .undef, .undef, .undef, .undef, .undef, .undef, .undef, .undef, .undef, .undef, .undef, .undef, .undef, .undef, .undef, .undef, .undef, .undef, .undef, .undef, .undef, .undef, .undef, .undef, .undef, .undef, .undef, .undef, .undef, .undef, .undef, .undef, .undef, .undef, .undef, .undef, .undef, .undef, .undef, .undef, .undef, .undef, .undef, .undef, .undef, .undef, .undef, .undef, .undef, .undef, .undef, .undef, .undef, .undef, .undef, .undef, .undef], [some [.int .i64 0, .int .i64 0, .int .i64 0, .int .i64 0, .int .i64 0, .int .i64 0, .int .i64 0], some [.int .i64 x0, .int .i64 x1, .int .i64 y0, .int .i64 y1, .int .i64 x5, .int .i64 sz, .int .i64 ((g : Int) - 1)]], 0⟩) (fun g => 5 - g) 1 ⟨by omega, by omega, fun j h1 h2 => by omega⟩ ?_ (fun g hg => ?_)
   · refine Weak.cut (2) (by simp) (by simp) ?_ ?_
     · simp [LeC, LeV, ren, cutF]
     · simp [cutH, cutB, ren]
   obtain ⟨hg1, hg5, hgn⟩ := hg
   have hwg : IntKind.i64.wrap ((g : Int) + 1) = ((g + 1 : Nat) : Int) := by rw [wrap_i64 (by omega) (by omega)]; omega
   by_cases hg4 : g ≤ 4
   · have hd4 : decide ((g : Int) ≤ 4) = true := decide_eq_true (by omega)
     (repeat ((repeat1' (first | simp -implicitDefEqProofs -dsimp only [go_sem, hd4] | simp -dsimp (disch := omega) only [wrap_i64])); repeat (with_reducible refine sideA ?_)))
     have h1 := l24One_ok ⟨x0, x1, y0, y1, x5, sz, g⟩
     have h2 := l24Line_ok ⟨x0, x1, y0, y1, x5, sz, g⟩
     by_cases hv : qrB ⟨x0, x1, y0, y1, x5, sz, g⟩ = true
     · have h2 := h2 hv
       rw [hv] at h1
       by_cases he : quakeLine ⟨x0, x1, y0, y1, x5, sz, g⟩ = s
       · have hne : ((quakeLine ⟨x0, x1, y0, y1, x5, sz, g⟩).toList == s.toList) = true := by rw [ba_beq]; exact decide_eq_true he
         rw [parseV, parseR_some hv he]
         generalize quakeLine ⟨x0, x1, y0, y1, x5, sz, g⟩ = ln at *
         (first | refine callT.at (h1) ⟨leA, trivial⟩ ?_ | refine callS.at (h1) ⟨leA, trivial⟩ ?_)
         (repeat ((repeat1' (first | simp -implicitDefEqProofs -dsimp only [go_sem] | simp -dsimp (disch := omega) only [wrap_i64])); repeat (with_reducible refine sideA ?_)))
         (first | refine callT.at (h2) ⟨leA, trivial⟩ ?_ | refine callS.at (h2) ⟨leA, trivial⟩ ?_)
         (repeat ((repeat1' (first | simp -implicitDefEqProofs -dsimp only [go_sem, hne] | simp -dsimp (disch := omega) only [wrap_i64])); repeat (with_reducible refine sideA ?_)))
         exact WeakR.drop' rfl (by rfl)
       · have hne : ((quakeLine ⟨x0, x1, y0, y1, x5, sz, g⟩).toList == s.toList) = false := by rw [ba_beq]; exact decide_eq_false he
         have hnx : ∀ j : Int, 1 ≤ j → j < ((g + 1 : Nat) : Int) → ¬ (qrB ⟨x0, x1, y0, y1, x5, sz, j⟩ = true ∧ quakeLine ⟨x0, x1, y0, y1, x5, sz, j⟩ = s) := by
           intro j h3 h4
           by_cases e : j = g
           · rw [e]; exact fun h => he h.2
           · exact hgn j h3 (by omega)
         generalize quakeLine ⟨x0, x1, y0, y1, x5, sz, g⟩ = ln at *
         (first | refine callT.at (h1) ⟨leA, trivial⟩ ?_ | refine callS.at (h1) ⟨leA, trivial⟩ ?_)
         (repeat ((repeat1' (first | simp -implicitDefEqProofs -dsimp only [go_sem] | simp -dsimp (disch := omega) only [wrap_i64])); repeat (with_reducible refine sideA ?_)))
         (first | refine callT.at (h2) ⟨leA, trivial⟩ ?_ | refine callS.at (h2) ⟨leA, trivial⟩ ?_)
         (repeat ((repeat1' (first | simp -implicitDefEqProofs -dsimp only [go_sem, hne] | simp -dsimp (disch := omega) only [wrap_i64])); repeat (with_reducible refine sideA ?_)))
         refine ⟨g + 1, ⟨by omega, by omega, hnx⟩, ?_, by omega⟩
         refine Weak.cut (2) (by simp) (by simp) ?_ ?_
         · simp [LeC, LeV, ren, cutF, hwg]
         · simp [cutH, cutB, ren]
     · have hv' : qrB ⟨x0, x1, y0, y1, x5, sz, g⟩ = false := by simpa using hv
       rw [hv'] at h1
       (first | refine callT.at (h1) ⟨leA, trivial⟩ ?_ | refine callS.at (h1) ⟨leA, trivial⟩ ?_)
       (repeat ((repeat1' (first | simp -implicitDefEqProofs -dsimp only [go_sem] | simp -dsimp (disch := omega) only [wrap_i64])); repeat (with_reducible refine sideA ?_)))
       refine ⟨g + 1, ⟨by omega, by omega, fun j h3 h4 => ?_⟩, ?_, by omega⟩
       · by_cases e : j = g
         · rw [e]; exact fun h => hv h.1
         · exact hgn j h3 (by omega)
       · refine Weak.cut (2) (by simp) (by simp) ?_ ?_
         · simp [LeC, LeV, ren, cutF, hwg]
         · simp [cutH, cutB, ren]
   · have hd4 : decide ((g : Int) ≤ 4) = false := decide_eq_false (by omega)
     (repeat ((repeat1' (first | simp -implicitDefEqProofs -dsimp only [go_sem, hd4] | simp -dsimp (disch := omega) only [wrap_i64])); repeat (with_reducible refine sideA ?_)))
     rw [parseV, hend (fun j h3 h4 => hgn j h3 (by omega))]
     exact WeakR.drop' rfl (by rfl)
 · have hs1 : ¬ a6.data.toList[1]? = some 45 := fun h => by have := hsg.1 h; simp at hm; omega
   simp only [if_neg hs1] at hend
   obtain ⟨sz, hsz⟩ : ∃ sz, sz = x6 := ⟨_, rfl⟩
   rw [← hsz] at hend
   rw [← hsz]
   (repeat ((repeat1' (first | simp -implicitDefEqProofs -dsimp only [go_sem, hm] | simp -dsimp (disch := omega) only [wrap_i64])); repeat (with_reducible refine sideA ?_)))
   refine LoopT.intro (fun g : Nat => 1 ≤ g ∧ g ≤ 5 ∧ ∀ j : Int, 1 ≤ j → j < g → ¬ (qrB ⟨x0, x1, y0, y1, x5, sz, j⟩ = true ∧ quakeLine ⟨x0, x1, y0, y1, x5, sz, j⟩ = s)) (fun g => ⟨[.str s, .undef, .ptr 0 0, .undef, .undef, .undef, .undef, .ptr 1 0, .int .i64 g, .undef, .undef, .undef, .undef, .undef, .undef, .undef, .undef, .undef, .undef, .undef, .undef, .undef, .undef, .undef, .undef, .undef, .undef, .undef, .undef, .undef, .undef, .undef, .undef, .undef, .undef, .undef, .undef, .undef, .undef, .undef, .undef, .undef, .undef, .undef, .undef, .undef, .undef, .undef, .undef, .undef, .undef, .undef, .undef, .undef, .undef, .undef, .undef, .undef, .undef, .undef, .undef, .undef, .undef, .undef, .undef, .undef, .undef, .undef, .undef, .undef, .undef, .undef, .undef, .undef, .undef, .undef, .undef, .undef, .undef, .undef, .undef, .undef, .undef, .undef, .undef, .undef, .undef, .undef, .undef, .undef, .undef, .undef, .undef, .undef, .undef, .undef, .undef, .undef], [some [.int .i64 0, .int .i64 0, .int .i64 0, .int .i64 0, .int .i64 0, .int .i64 0, .int .i64 0], some [.int .i64 x0, .int .i64 x1, .int .i64 y0, .int .i64 y1, .int .i64 x5, .int .i64 sz, .int .i64 ((g : Int) - 1)]], 0⟩) (fun g => 5 - g) 1 ⟨by omega, by omega, fun j h1 h2 => by omega⟩ ?_ (fun g hg => ?_)
   · refine Weak.cut (2) (by simp) (by simp) ?_ ?_
     · simp [LeC, LeV, ren, cutF]
     · simp [cutH, cutB, ren]
   obtain ⟨hg1, hg5, hgn⟩ := hg
   have hwg : IntKind.i64.wrap ((g : Int) + 1) = ((g + 1 : Nat) : Int) := by rw [wrap_i64 (by omega) (by omega)]; omega
   by_cases hg4 : g ≤ 4
   · have hd4 : decide ((g : Int) ≤ 4) = true := decide_eq_true (by omega)
     (repeat ((repeat1' (first | simp -implicitDefEqProofs -dsimp only [go_sem, hd4] | simp -dsimp (disch := omega) only [wrap_i64])); repeat (with_reducible refine sideA ?_)))
     have h1 := l24One_ok ⟨x0, x1, y0, y1, x5, sz, g⟩
     have h2 := l24Line_ok ⟨x0, x1, y0, y1, x5, sz, g⟩
     by_cases hv : qrB ⟨x0, x1, y0, y1, x5, sz, g⟩ = true
     · have h2 := h2 hv
       rw [hv] at h1
       by_cases he : quakeLine ⟨x0, x1, y0, y1, x5, sz, g⟩ = s
       · have hne : ((quakeLine ⟨x0, x1, y0, y1, x5, sz, g⟩).toList == s.toList) = true := by rw [ba_beq]; exact decide_eq_true he
         rw [parseV, parseR_some hv he]
         generalize quakeLine ⟨x0, x1, y0, y1, x5, sz, g⟩ = ln at *
         (first | refine callT.at (h1) ⟨leA, trivial⟩ ?_ | refine callS.at (h1) ⟨leA, trivial⟩ ?_)
         (repeat ((repeat1' (first | simp -implicitDefEqProofs -dsimp only [go_sem] | simp -dsimp (disch := omega) only [wrap_i64])); repeat (with_reducible refine sideA ?_)))
         (first | refine callT.at (h2) ⟨leA, trivial⟩ ?_ | refine callS.at (h2) ⟨leA, trivial⟩ ?_)
         (repeat ((repeat1' (first | simp -implicitDefEqProofs -dsimp only [go_sem, hne] | simp -dsimp (disch := omega) only [wrap_i64])); repeat (with_reducible refine sideA ?_)))
         exact WeakR.drop' rfl (by rfl)
       · have hne : ((quakeLine ⟨x0, x1, y0, y1, x5, sz, g⟩).toList == s.toList) = false := by rw [ba_beq]; exact decide_eq_false he
         have hnx : ∀ j : Int, 1 ≤ j → j < ((g + 1 : Nat) : Int) → ¬ (qrB ⟨x0, x1, y0, y1, x5, sz, j⟩ = true ∧ quakeLine ⟨x0, x1, y0, y1, x5, sz, j⟩ = s) := by
           intro j h3 h4
           by_cases e : j = g
           · rw [e]; exact fun h => he h.2
           · exact hgn j h3 (by omega)
         generalize quakeLine ⟨x0, x1, y0, y1, x5, sz, g⟩ = ln at *
         (first | refine callT.at (h1) ⟨leA, trivial⟩ ?_ | refine callS.at (h1) ⟨leA, trivial⟩ ?_)
         (repeat ((repeat1' (first | simp -implicitDefEqProofs -dsimp only [go_sem] | simp -dsimp (disch := omega) only [wrap_i64])); repeat (with_reducible refine sideA ?_)))
         (first | refine callT.at (h2) ⟨leA, trivial⟩ ?_ | refine callS.at (h2) ⟨leA, trivial⟩ ?_)
         (repeat ((repeat1' (first | simp -implicitDefEqProofs -dsimp only [go_sem, hne] | simp -dsimp (disch := omega) only [wrap_i64])); repeat (with_reducible refine sideA ?_)))
         refine ⟨g + 1, ⟨by omega, by omega, hnx⟩, ?_, by omega⟩
         refine Weak.cut (2) (by simp) (by simp) ?_ ?_
         · simp [LeC, LeV, ren, cutF, hwg]
         · simp [cutH, cutB, ren]
     · have hv' : qrB ⟨x0, x1, y0, y1, x5, sz, g⟩ = false := by simpa using hv
       rw [hv'] at h1
       (first | refine callT.at (h1) ⟨leA, trivial⟩ ?_ | refine callS.at (h1) ⟨leA, trivial⟩ ?_)
       (repeat ((repeat1' (first | simp -implicitDefEqProofs -dsimp only [go_sem] | simp -dsimp (disch := omega) only [wrap_i64])); repeat (with_reducible refine sideA ?_)))
       refine ⟨g + 1, ⟨by omega, by omega, fun j h3 h4 => ?_⟩, ?_, by omega⟩
       · by_cases e : j = g
         · rw [e]; exact fun h => hv h.1
         · exact hgn j h3 (by omega)
       · refine Weak.cut (2) (by simp) (by simp) ?_ ?_
         · simp [LeC, LeV, ren, cutF, hwg]
         · simp [cutH, cutB, ren]
   · have hd4 : decide ((g : Int) ≤ 4) = false := decide_eq_false (by omega)
     (repeat ((repeat1' (first | simp -implicitDefEqProofs -dsimp only [go_sem, hd4] | simp -dsimp (disch := omega) only [wrap_i64])); repeat (with_reducible refine sideA ?_)))
     rw [parseV, hend (fun j h3 h4 => hgn j h3 (by omega))]
     exact WeakR.drop' rfl (by rfl)
end Go.Proofs
end
section
set_option maxRecDepth 100000
set_option maxHeartbeats 1000000
namespace Go.Proofs
open Go.Lv
def linesOf {α : Type} (line : α → ByteArray) (L : List α) : ByteArray := L.foldl (fun s r => s ++ (line r ++ ⟨#[10]⟩)) ⟨#[]⟩
theorem linesOf_succ {α : Type} (line : α → ByteArray) {L : List α} {i : Nat} (hi : i < L.length) : linesOf line (L.take (i + 1)) = linesOf line (L.take i) ++ (line L[i] ++ ⟨#[10]⟩) := by
 rw [List.take_succ_eq_append_getElem hi, linesOf, List.foldl_append]; rfl
theorem linesOf_size {α : Type} {line : α → ByteArray} {L : List α} {B : Nat} (h : ∀ x ∈ L, (line x).size ≤ B) : ∀ i, i ≤ L.length → (linesOf line (L.take i)).size ≤ i * (B + 1)
 | 0, _ => by simp [linesOf, ba_size]
 | i + 1, hi => by
   have ih := linesOf_size h i (by omega)
   have hx := h (L[i]'(by omega)) (List.getElem_mem _)
   rw [linesOf_succ line (by omega : i < L.length), Nat.succ_mul]
   simp only [ByteArray.size_append, ba_size, List.size_toArray, List.length_cons, List.length_nil]
   omega
def bulText (L : List QuakeRow) : ByteArray := (linesOf quakeLine L ++ ⟨#[101, 118, 101, 110, 116, 115, 58, 32]⟩) ++ num L.length
def bulTextR (L : List QuakeRow) : V := if bulB L = true then .tup [.str (bulText L), .bool true] else .tup [.str ByteArray.empty, .bool false]
theorem iBulletinText_ok (L : List QuakeRow) (hl : L.length ≤ 281474976710656) : Ctr Tryz.prog 16 [QuakeRow.sl L] [] (bulTextR L) [] := by
 refine Ctr.intro Tryz.mixed Tryz.func16 rfl Tryz.okF16 ?_
 simp -implicitDefEqProofs -dsimp only [go_sem, Tryz.ntmps16, Tryz.results16]
 cases h : bulB L with
 | false => repeat' (first | exact WeakR.refl _ _ _ | (refine WeakR.drop' ?_ (by rfl); first | rfl | (simp [bulTextR, h, *]; done)) | ((have ct := iIsBulletin_ok L hl; (first | refine callT.at ct ⟨leA, trivial⟩ ?_ | refine callS.at ct ⟨leA, trivial⟩ ?_); clear ct); simp -implicitDefEqProofs -dsimp only [go_sem, bulTextR, h, *]) | (refine guardT.splitT (fun _ => ?_) (fun _ => ?_) <;> simp -implicitDefEqProofs -dsimp only [go_sem, bulTextR, h, *]) | (refine guardT.splitF (fun _ => ?_) (fun _ => ?_) <;> simp -implicitDefEqProofs -dsimp only [go_sem, bulTextR, h, *]) | (refine condT.split (fun _ => ?_) (fun _ => ?_) <;> simp -implicitDefEqProofs -dsimp only [go_sem, bulTextR, h, *]) | (exfalso; simp_all; done))
 | true =>
   obtain ⟨hv, hlen⟩ := bulB_all h
   repeat (first | ((have ct := iIsBulletin_ok L hl; (first | refine callT.at ct ⟨leA, trivial⟩ ?_ | refine callS.at ct ⟨leA, trivial⟩ ?_); clear ct); simp -implicitDefEqProofs -dsimp only [go_sem, h]) | (with_reducible refine And.intro (by first | omega | (show drawOk _ = true; kernel_rfl) | (simp only [ByteArray.size_append, ba_size, List.size_toArray, List.length_cons, List.length_nil]; omega)) ?_; try (repeat1' (first | simp -implicitDefEqProofs -dsimp only [go_sem, h] | simp -dsimp (disch := omega) only [wrap_i64]))))
   refine LoopT.intro (fun i : Nat => i ≤ L.length) (fun i => ⟨[QuakeRow.sl L, .undef, .undef, .undef, .str (linesOf quakeLine (L.take i)), .undef, .undef, .undef, .undef, .undef, QuakeRow.sl L, .int .i64 L.length, .int .i64 i, .undef, .undef, .undef, .undef, .undef, .undef, .undef, .undef, .undef, .undef, .undef, .undef, .undef, .undef, .undef], [], 0⟩) (fun i => L.length - i) 0 (Nat.zero_le _) ?_ (fun i hi => ?_)
   · refine Weak.cut (0) (by simp) (by simp) ?_ ?_
     · simp [LeC, LeV, ren, cutF, linesOf]
     · rfl
   have ht := linesOf_size (line := quakeLine) (fun x hx => quakeLine_size (hv x hx)) i hi
   simp -implicitDefEqProofs -dsimp only [go_sem]
   refine condT.split (fun h1 => ?_) (fun h1 => ?_)
   · simp -implicitDefEqProofs -dsimp only [go_sem, h1]
     have hi' : i < L.length := by simpa using h1
     have h5 := QuakeRow.csl L[i]
     have hr := rows_at QuakeRow.csl hi'
     have hvi := hv _ (List.getElem_mem hi')
     have hls := quakeLine_size hvi
     have hi' := hi'
     (repeat ((repeat1' (first | simp -implicitDefEqProofs -dsimp only [go_sem, hr, QuakeRow.cs] | simp -dsimp (disch := omega) only [wrap_i64])); repeat (with_reducible refine And.intro ?_ ?_; focus (first | omega | with_reducible rfl | (show drawOk _ = true; kernel_rfl) | (simp only [rows_length, rows_cell, List.length_append, List.length_cons, List.length_nil, List.all_append, List.all_cons, List.all_nil, isCell, Nat.mul_one, Nat.one_mul, Bool.and_self]; first | done | omega) | (simp only [ByteArray.size_append, ba_size, List.size_toArray, List.length_cons, List.length_nil]; omega)))))
     repeat (first | ((have ct := quakeRowLine_ok L[i] hvi; (first | refine callT.at ct ⟨leA, trivial⟩ ?_ | refine callS.at ct ⟨leA, trivial⟩ ?_); clear ct); simp -implicitDefEqProofs -dsimp only [go_sem]) | (with_reducible refine And.intro (by first | omega | (show drawOk _ = true; kernel_rfl) | (simp only [ByteArray.size_append, ba_size, List.size_toArray, List.length_cons, List.length_nil]; omega)) ?_; try (repeat1' (first | simp -implicitDefEqProofs -dsimp only [go_sem] | simp -dsimp (disch := omega) only [wrap_i64]))))
     refine ⟨i + 1, hi', ?_, by omega⟩
     refine Weak.cut (0) (by simp) (by simp) ?_ ?_
     · rw [linesOf_succ quakeLine hi']
       simp [LeC, LeV, ren, cutF]
     · rfl
   · simp -implicitDefEqProofs -dsimp only [go_sem, h1]
     have hi' : i = L.length := by simp at h1; omega
     subst hi'
     rw [List.take_length] at ht ⊢
     have s1 := num_size' (n := (L.length : Int)) (by omega) (by omega)
     repeat (first | ((have ct := itoa_ok (L.length : Int) ⟨by omega, by omega⟩; (first | refine callT.at ct ⟨leA, trivial⟩ ?_ | refine callS.at ct ⟨leA, trivial⟩ ?_); clear ct); simp -implicitDefEqProofs -dsimp only [go_sem]) | (with_reducible refine And.intro (by first | omega | (show drawOk _ = true; kernel_rfl) | (simp only [ByteArray.size_append, ba_size, List.size_toArray, List.length_cons, List.length_nil]; omega)) ?_; try (repeat1' (first | simp -implicitDefEqProofs -dsimp only [go_sem] | simp -dsimp (disch := omega) only [wrap_i64]))))
     exact WeakR.drop' (by simp [bulTextR, h, bulText]) (by rfl)
theorem sBulletinText_ok (L : List QuakeRow) (hl : L.length ≤ 281474976710656) : Ctr Tryz.prog 17 [QuakeRow.sl L] [] (bulTextR L) [] := by
 refine Ctr.intro Tryz.mixed Tryz.func17 rfl Tryz.okF17 ?_
 simp -implicitDefEqProofs -dsimp only [go_sem, Tryz.ntmps17, Tryz.results17]
 cases h : bulB L with
 | false => repeat' (first | exact WeakR.refl _ _ _ | (refine WeakR.drop' ?_ (by rfl); first | rfl | (simp [bulTextR, h, *]; done)) | ((first | refine callT.at (l24Good_ok L hl) ⟨leA, trivial⟩ ?_ | refine callS.at (l24Good_ok L hl) ⟨leA, trivial⟩ ?_); simp -implicitDefEqProofs -dsimp only [go_sem, bulTextR, h, *]) | (refine guardT.splitT (fun _ => ?_) (fun _ => ?_) <;> simp -implicitDefEqProofs -dsimp only [go_sem, bulTextR, h, *]) | (refine guardT.splitF (fun _ => ?_) (fun _ => ?_) <;> simp -implicitDefEqProofs -dsimp only [go_sem, bulTextR, h, *]) | (refine condT.split (fun _ => ?_) (fun _ => ?_) <;> simp -implicitDefEqProofs -dsimp only [go_sem, bulTextR, h, *]) | (exfalso; simp_all; done))
 | true =>
   obtain ⟨hv, hlen⟩ := bulB_all h
   repeat (first | ((first | refine callT.at (l24Good_ok L hl) ⟨leA, trivial⟩ ?_ | refine callS.at (l24Good_ok L hl) ⟨leA, trivial⟩ ?_); simp -implicitDefEqProofs -dsimp only [go_sem, h]) | (with_reducible refine And.intro (by first | omega | (show drawOk _ = true; kernel_rfl) | (simp only [ByteArray.size_append, ba_size, List.size_toArray, List.length_cons, List.length_nil]; omega)) ?_; try (repeat1' (first | simp -implicitDefEqProofs -dsimp only [go_sem, h] | simp -dsimp (disch := omega) only [wrap_i64]))))
   refine LoopT.intro (fun i : Nat => i ≤ L.length) (fun i => ⟨[QuakeRow.sl L, .undef, .undef, .undef, .str (linesOf quakeLine (L.take i)), .int .i64 i, .undef, .undef, .undef, .undef, .undef, .undef, .undef, .undef, .undef, .undef, .undef, .undef, .undef, .undef, .undef, .undef, .undef, .undef, .undef, .undef, .undef, .undef, .undef], [], 0⟩) (fun i => L.length - i) 0 (Nat.zero_le _) ?_ (fun i hi => ?_)
   · refine Weak.cut (0) (by simp) (by simp) ?_ ?_
     · simp [LeC, LeV, ren, cutF, linesOf]
     · rfl
   have ht := linesOf_size (line := quakeLine) (fun x hx => quakeLine_size (hv x hx)) i hi
   simp -implicitDefEqProofs -dsimp only [go_sem]
   refine condT.split (fun h1 => ?_) (fun h1 => ?_)
   · simp -implicitDefEqProofs -dsimp only [go_sem, h1]
     have hi' : i < L.length := by simpa using h1
     have h5 := QuakeRow.csl L[i]
     have hr := rows_at QuakeRow.csl hi'
     have hvi := hv _ (List.getElem_mem hi')
     have hls := quakeLine_size hvi
     have hi' := hi'
     (repeat ((repeat1' (first | simp -implicitDefEqProofs -dsimp only [go_sem, hr, QuakeRow.cs] | simp -dsimp (disch := omega) only [wrap_i64])); repeat (with_reducible refine And.intro ?_ ?_; focus (first | omega | with_reducible rfl | (show drawOk _ = true; kernel_rfl) | (simp only [rows_length, rows_cell, List.length_append, List.length_cons, List.length_nil, List.all_append, List.all_cons, List.all_nil, isCell, Nat.mul_one, Nat.one_mul, Bool.and_self]; first | done | omega) | (simp only [ByteArray.size_append, ba_size, List.size_toArray, List.length_cons, List.length_nil]; omega)))))
     repeat (first | ((have ct := l24Line_ok L[i] hvi; (first | refine callT.at ct ⟨leA, trivial⟩ ?_ | refine callS.at ct ⟨leA, trivial⟩ ?_); clear ct); simp -implicitDefEqProofs -dsimp only [go_sem, hr, QuakeRow.cs]) | (with_reducible refine And.intro (by first | omega | (show drawOk _ = true; kernel_rfl) | (simp only [ByteArray.size_append, ba_size, List.size_toArray, List.length_cons, List.length_nil]; omega)) ?_; try (repeat1' (first | simp -implicitDefEqProofs -dsimp only [go_sem, hr, QuakeRow.cs] | simp -dsimp (disch := omega) only [wrap_i64]))))
     refine ⟨i + 1, hi', ?_, by omega⟩
     refine Weak.cut (0) (by simp) (by simp) ?_ ?_
     · rw [linesOf_succ quakeLine hi', ByteArray.append_assoc]
       simp [LeC, LeV, ren, cutF]
     · rfl
   · simp -implicitDefEqProofs -dsimp only [go_sem, h1]
     have hi' : i = L.length := by simp at h1; omega
     subst hi'
     rw [List.take_length] at ht ⊢
     have s1 := num_size' (n := (L.length : Int)) (by omega) (by omega)
     repeat (first | ((have ct := l1Num_ok (L.length : Int) (by omega) (by omega); (first | refine callT.at ct ⟨leA, trivial⟩ ?_ | refine callS.at ct ⟨leA, trivial⟩ ?_); clear ct); simp -implicitDefEqProofs -dsimp only [go_sem]) | (with_reducible refine And.intro (by first | omega | (show drawOk _ = true; kernel_rfl) | (simp only [ByteArray.size_append, ba_size, List.size_toArray, List.length_cons, List.length_nil]; omega)) ?_; try (repeat1' (first | simp -implicitDefEqProofs -dsimp only [go_sem] | simp -dsimp (disch := omega) only [wrap_i64]))))
     exact WeakR.drop' (by simp [bulTextR, h, bulText]) (by rfl)
end Go.Proofs
end
section
set_option maxRecDepth 100000
namespace Go.Proofs
open Go.Lv
def biP (L : List QuakeRow) (o : Option Nat) (r : QuakeRow) : Bool := match o with
 | none => true
 | some b => match L[b]? with
   | some q => decide (q.Size < r.Size)
   | none => true
def bi (L : List QuakeRow) (t : Int) : Nat → Option Nat
 | 0 => none
 | i + 1 => match L[i]? with
   | none => bi L t i
   | some r => if t ≤ r.Tick ∧ biP L (bi L t i) r = true then some i else bi L t i
theorem bi_lt {L : List QuakeRow} {t : Int} : ∀ {i b : Nat}, bi L t i = some b → b < i ∧ b < L.length
 | 0, _, h => by simp [bi] at h
 | i + 1, b, h => by
   unfold bi at h
   split at h
   · have := bi_lt h; omega
   · rename_i r hr
     split at h
     · simp at h; subst h
       exact ⟨by omega, (List.getElem?_eq_some_iff.1 hr).1⟩
     · have := bi_lt h; omega
theorem bi_succ {L : List QuakeRow} {t : Int} {i : Nat} (hi : i < L.length) : bi L t (i + 1) = if t ≤ L[i].Tick ∧ biP L (bi L t i) L[i] = true then some i else bi L t i := by
 rw [bi, List.getElem?_eq_getElem hi]
def largeR (L : List QuakeRow) (t : Int) : List V := if bulB L = true ∧ inB' t 0 1000000 = true then
   match bi L t L.length with
   | none => [.int .i64 0, .bool false]
   | some b => match L[b]? with
     | some q => [.int .i64 q.Id, .bool true]
     | none => [.int .i64 0, .bool false]
 else [.int .i64 0, .bool false]
def biI (o : Option Nat) : Int := match o with
 | none => -1
 | some b => b
theorem sLargestSince_ok (L : List QuakeRow) (t : Int) (hl : L.length ≤ 281474976710656) : Ctr Tryz.prog 14 [QuakeRow.sl L, .int .i64 t] [] (.tup (largeR L t)) [] := by
 refine Ctr.intro Tryz.mixed Tryz.func14 rfl Tryz.okF14 ?_
 simp -implicitDefEqProofs -dsimp only [go_sem, Tryz.ntmps14, Tryz.results14]
 (first | refine callT.at (l24Good_ok L hl) ⟨.inl rfl, trivial⟩ ?_ | refine callS.at (l24Good_ok L hl) ⟨.inl rfl, trivial⟩ ?_)
 simp -implicitDefEqProofs -dsimp only [go_sem]
 have bad : (bulB L = false ∨ inB' t 0 1000000 = false) → V.tup [.int .i64 0, .bool false] = .tup (largeR L t) := by
   intro h
   rw [largeR, if_neg]
   rintro ⟨h1, h2⟩
   simp [h1, h2] at h
 refine guardT.splitF (fun h1 => ?_) (fun h1 => ?_) <;> simp -implicitDefEqProofs -dsimp only [go_sem, h1]
 rotate_left
 · exact WeakR.drop' (bad (.inl (by simpa using h1))) (by rfl)
 (first | refine callT.at (l2Tick_ok t) ⟨.inl rfl, trivial⟩ ?_ | refine callS.at (l2Tick_ok t) ⟨.inl rfl, trivial⟩ ?_)
 simp -implicitDefEqProofs -dsimp only [go_sem]
 refine condT.split (fun h2 => ?_) (fun h2 => ?_) <;> simp -implicitDefEqProofs -dsimp only [go_sem, h2]
 · exact WeakR.drop' (bad (.inr (by simpa using h2))) (by rfl)
 have h1' : bulB L = true := by simpa using h1
 have h2' : inB' t 0 1000000 = true := by simpa using h2
 obtain ⟨hv, hlen⟩ := bulB_all h1'
 refine LoopT.intro (fun i : Nat => i ≤ L.length) (fun i => ⟨[QuakeRow.sl L, .int .i64 t, .undef, .undef, .undef, .undef, .int .i64 (biI (bi L t i)), .int .i64 i, .undef, .undef, .undef, .undef, .undef, .undef, .undef, .undef, .undef, .undef, .undef, .undef, .undef, .undef, .undef, .undef, .undef, .undef, .undef, .undef, .undef, .undef, .undef, .undef, .undef, .undef, .undef, .undef, .undef, .undef, .undef, .undef, .undef, .undef, .undef, .undef, .undef, .undef, .undef, .undef, .undef, .undef, .undef, .undef, .undef, .undef], [], 0⟩) (fun i => L.length - i) 0 (Nat.zero_le _) ?_ (fun i hi => ?_)
 · refine Weak.cut (0) (by simp) (by simp) ?_ ?_
   · simp [LeC, LeV, ren, cutF, bi, biI]
   · rfl
 simp -implicitDefEqProofs -dsimp only [go_sem]
 refine condT.split (fun h3 => ?_) (fun h3 => ?_)
 · simp -implicitDefEqProofs -dsimp only [go_sem, h3]
   have hi' : i < L.length := by simpa using h3
   have hr := rows_at QuakeRow.csl hi'
   have next : ∀ (c : Bool), (c = true ↔ bi L t (i + 1) = some i) → (c = false → bi L t (i + 1) = bi L t i) → True := fun _ _ _ => trivial
   simp -implicitDefEqProofs -dsimp only [go_sem, hr, QuakeRow.cs]
   repeat (with_reducible refine sideA ?_)
   refine guardT.splitT (fun h4 => ?_) (fun h4 => ?_) <;> simp -implicitDefEqProofs -dsimp only [go_sem, h4]
   · have h4' : t ≤ L[i].Tick := by simpa using h4
     cases hb : bi L t i with
     | none =>
       have hneg : decide (biI none < 0) = true := rfl
       (repeat ((repeat1' (first | simp -implicitDefEqProofs -dsimp only [go_sem, hneg, hr, QuakeRow.cs] | simp -dsimp (disch := omega) only [wrap_i64])); repeat (with_reducible refine sideA ?_)))
       have e : bi L t (i + 1) = some i := by rw [bi_succ hi', hb, if_pos ⟨h4', rfl⟩]
       refine ⟨i + 1, hi', ?_, by omega⟩
       refine Weak.cut (0) (by simp) (by simp) ?_ ?_
       · rw [e]
         simp [LeC, LeV, ren, cutF, biI]
       · rfl
     | some b =>
       obtain ⟨hb1, hb2⟩ := bi_lt hb
       have hrb := rows_at QuakeRow.csl hb2
       have hneg : decide (biI (some b) < 0) = false := decide_eq_false (by show ¬ ((b : Int) < 0); omega)
       have hbn : (biI (some b)).toNat = b := rfl
       have hbb : biI (some b) = (b : Int) := rfl
       (repeat ((repeat1' (first | simp -implicitDefEqProofs -dsimp only [go_sem, hr, hrb, hneg, hbn, QuakeRow.cs] | simp -dsimp (disch := omega) only [wrap_i64])); repeat (with_reducible refine sideA ?_)))
       refine condT.split (fun h5 => ?_) (fun h5 => ?_) <;> (repeat1' (first | simp -implicitDefEqProofs -dsimp only [go_sem, h5] | simp -dsimp (disch := omega) only [wrap_i64]))
       · have e : bi L t (i + 1) = some i := by rw [bi_succ hi', hb, if_pos ⟨h4', by simp only [biP, List.getElem?_eq_getElem hb2]; simpa using h5⟩]
         refine ⟨i + 1, hi', ?_, by omega⟩
         refine Weak.cut (0) (by simp) (by simp) ?_ ?_
         · rw [e]
           simp [LeC, LeV, ren, cutF, biI]
         · rfl
       · have e : bi L t (i + 1) = some b := by rw [bi_succ hi', hb, if_neg (by simp only [biP, List.getElem?_eq_getElem hb2]; simp at h5 ⊢; omega)]
         refine ⟨i + 1, hi', ?_, by omega⟩
         refine Weak.cut (0) (by simp) (by simp) ?_ ?_
         · rw [e]
           simp [LeC, LeV, ren, cutF, biI]
         · rfl
   · have e : bi L t (i + 1) = bi L t i := by rw [bi_succ hi', if_neg (by simp at h4; rintro ⟨h, _⟩; omega)]
     (repeat1' (first | simp -implicitDefEqProofs -dsimp only [go_sem] | simp -dsimp (disch := omega) only [wrap_i64]))
     refine ⟨i + 1, hi', ?_, by omega⟩
     refine Weak.cut (0) (by simp) (by simp) ?_ ?_
     · rw [e]
       simp [LeC, LeV, ren, cutF, biI]
     · rfl
 · simp -implicitDefEqProofs -dsimp only [go_sem, h3]
   have hi' : i = L.length := by simp at h3; omega
   subst hi'
   cases hb : bi L t L.length with
   | none =>
     have hneg : decide (biI none < 0) = true := rfl
     simp -implicitDefEqProofs -dsimp only [go_sem, hneg]
     refine WeakR.drop' ?_ (by rfl)
     rw [largeR, if_pos ⟨h1', h2'⟩, hb]
   | some b =>
     obtain ⟨hb1, hb2⟩ := bi_lt hb
     have hrb := rows_at QuakeRow.csl hb2
     have hneg : decide (biI (some b) < 0) = false := decide_eq_false (by show ¬ ((b : Int) < 0); omega)
     have hbn : (biI (some b)).toNat = b := rfl
     have hbb : biI (some b) = (b : Int) := rfl
     (repeat ((repeat1' (first | simp -implicitDefEqProofs -dsimp only [go_sem, hneg, hbn, hrb, QuakeRow.cs] | simp -dsimp (disch := omega) only [wrap_i64])); repeat (with_reducible refine sideA ?_)))
     refine WeakR.drop' ?_ (by rfl)
     rw [largeR, if_pos ⟨h1', h2'⟩, hb]
     simp only [List.getElem?_eq_getElem hb2]
def biQ (L : List QuakeRow) (o : Option Nat) : Int × Int := match o with
 | none => (0, -101)
 | some b => match L[b]? with
   | some q => (q.Id, q.Size)
   | none => (0, -101)
theorem iLargestSince_ok (L : List QuakeRow) (t : Int) (hl : L.length ≤ 281474976710656) : Ctr Tryz.prog 13 [QuakeRow.sl L, .int .i64 t] [] (.tup (largeR L t)) [] := by
 refine Ctr.intro Tryz.mixed Tryz.func13 rfl Tryz.okF13 ?_
 simp -implicitDefEqProofs -dsimp only [go_sem, Tryz.ntmps13, Tryz.results13]
 (first | refine callT.at (iIsBulletin_ok L hl) ⟨.inl rfl, trivial⟩ ?_ | refine callS.at (iIsBulletin_ok L hl) ⟨.inl rfl, trivial⟩ ?_)
 simp -implicitDefEqProofs -dsimp only [go_sem]
 have bad : (bulB L = false ∨ inB' t 0 1000000 = false) → V.tup [.int .i64 0, .bool false] = .tup (largeR L t) := by
   intro h
   rw [largeR, if_neg]
   rintro ⟨h1, h2⟩
   simp [h1, h2] at h
 refine guardT.splitF (fun h1 => ?_) (fun h1 => ?_) <;> simp -implicitDefEqProofs -dsimp only [go_sem, h1]
 rotate_left
 · exact WeakR.drop' (bad (.inl (by simpa using h1))) (by rfl)
 (first | refine callT.at (isTick_ok t) ⟨.inl rfl, trivial⟩ ?_ | refine callS.at (isTick_ok t) ⟨.inl rfl, trivial⟩ ?_)
 simp -implicitDefEqProofs -dsimp only [go_sem]
 refine condT.split (fun h2 => ?_) (fun h2 => ?_) <;> simp -implicitDefEqProofs -dsimp only [go_sem, h2]
 · exact WeakR.drop' (bad (.inr (by simpa using h2))) (by rfl)
 have h1' : bulB L = true := by simpa using h1
 have h2' : inB' t 0 1000000 = true := by simpa using h2
 obtain ⟨hv, hlen⟩ := bulB_all h1'
 refine LoopT.intro (fun i : Nat => i ≤ L.length) (fun i => ⟨[.undef, .int .i64 t, .undef, .undef, .undef, .undef, .int .i64 (biQ L (bi L t i)).1, .int .i64 (biQ L (bi L t i)).2, .undef, .undef, .undef, .undef, .undef, .undef, .undef, .undef, .undef, .undef, QuakeRow.sl L, .int .i64 L.length, .int .i64 i, .undef, .undef, .undef, .undef, .undef, .undef, .undef, .undef, .undef, .undef, .undef, .undef, .undef, .undef, .undef, .undef, .undef, .undef, .undef, .undef, .undef], [], 0⟩) (fun i => L.length - i) 0 (Nat.zero_le _) ?_ (fun i hi => ?_)
 · refine Weak.cut (0) (by simp) (by simp) ?_ ?_
   · simp [LeC, LeV, ren, cutF, bi, biQ]
   · rfl
 simp -implicitDefEqProofs -dsimp only [go_sem]
 refine condT.split (fun h3 => ?_) (fun h3 => ?_)
 · simp -implicitDefEqProofs -dsimp only [go_sem, h3]
   have hi' : i < L.length := by simpa using h3
   have hr := rows_at QuakeRow.csl hi'
   have h5 := QuakeRow.csl L[i]
   have hvi := qrB_iff.1 (hv _ (List.getElem_mem hi'))
   have hbs : t ≤ L[i].Tick → ((biQ L (bi L t i)).2 < L[i].Size ↔ bi L t (i + 1) = some i ∧ bi L t (i + 1) ≠ bi L t i) := by
     intro ht
     cases hb : bi L t i with
     | none =>
       have e : bi L t (i + 1) = some i := by rw [bi_succ hi', hb, if_pos ⟨ht, rfl⟩]
       rw [e]
       simp [biQ]; omega
     | some b =>
       obtain ⟨hb1, hb2⟩ := bi_lt hb
       rw [bi_succ hi', hb]
       simp only [biQ, biP, List.getElem?_eq_getElem hb2, ht, true_and, decide_eq_true_eq]
       by_cases h : L[b].Size < L[i].Size
       · simp [h]; omega
       · simp [h]
   simp -implicitDefEqProofs -dsimp only [go_sem, hr, QuakeRow.cs]
   repeat (with_reducible refine sideA ?_)
   refine guardT.splitT (fun h4 => ?_) (fun h4 => ?_) <;> (repeat1' (first | simp -implicitDefEqProofs -dsimp only [go_sem, h4] | simp -dsimp (disch := omega) only [wrap_i64]))
   · have h4' : t ≤ L[i].Tick := by simpa using h4
     refine condT.split (fun h6 => ?_) (fun h6 => ?_) <;> (repeat ((repeat1' (first | simp -implicitDefEqProofs -dsimp only [go_sem, h6] | simp -dsimp (disch := omega) only [wrap_i64])); repeat (with_reducible refine sideA ?_)))
     · have e := (hbs h4').1 (by simpa using h6)
       refine ⟨i + 1, hi', ?_, by omega⟩
       refine Weak.cut (0) (by simp) (by simp) ?_ ?_
       · rw [e.1]
         simp [LeC, LeV, ren, cutF, biQ, List.getElem?_eq_getElem hi']
       · rfl
     · have e : bi L t (i + 1) = bi L t i := by
         have h7 : ¬ (biQ L (bi L t i)).2 < L[i].Size := by simp at h6; omega
         rw [hbs h4'] at h7
         rw [bi_succ hi'] at h7 ⊢
         split
         · rename_i hc
           rw [if_pos hc] at h7
           simpa using h7
         · rfl
       refine ⟨i + 1, hi', ?_, by omega⟩
       refine Weak.cut (0) (by simp) (by simp) ?_ ?_
       · rw [e]
         simp [LeC, LeV, ren, cutF]
       · rfl
   · have e : bi L t (i + 1) = bi L t i := by rw [bi_succ hi', if_neg (by simp at h4; rintro ⟨h, _⟩; omega)]
     refine ⟨i + 1, hi', ?_, by omega⟩
     refine Weak.cut (0) (by simp) (by simp) ?_ ?_
     · rw [e]
       simp [LeC, LeV, ren, cutF]
     · rfl
 · simp -implicitDefEqProofs -dsimp only [go_sem, h3]
   have hi' : i = L.length := by simp at h3; omega
   subst hi'
   cases hb : bi L t L.length with
   | none =>
     have hz : ((biQ L none).1 == 0) = true := rfl
     simp -implicitDefEqProofs -dsimp only [go_sem, hz]
     refine WeakR.drop' ?_ (by rfl)
     rw [largeR, if_pos ⟨h1', h2'⟩, hb]
   | some b =>
     obtain ⟨hb1, hb2⟩ := bi_lt hb
     have hvb := qrB_iff.1 (hv _ (List.getElem_mem hb2))
     have hq : (biQ L (some b)).1 = (L[b]).Id := by simp [biQ, List.getElem?_eq_getElem hb2]
     have hz : ((biQ L (some b)).1 == 0) = false := by rw [hq]; simp; omega
     simp -implicitDefEqProofs -dsimp only [go_sem, hz]
     refine WeakR.drop' ?_ (by rfl)
     rw [largeR, if_pos ⟨h1', h2'⟩, hb, hq]
     simp only [List.getElem?_eq_getElem hb2]
end Go.Proofs
end
section
set_option maxRecDepth 100000
set_option maxHeartbeats 1000000
namespace Go.Proofs
open Go.Lv
def nl (b : ByteArray) : Nat := b.data.toList.countP (fun c => c == 10)
theorem nl_app (x y : ByteArray) : nl (x ++ y) = nl x + nl y := by
 unfold nl
 rw [ByteArray.data_append, Array.toList_append, List.countP_append]
theorem nl_nat (u : Nat) : nl (num (u : Int)) = 0 := by
 have one : ∀ d, d < 10 → nl (digits.extract d (d + 1)) = 0 := by
   intro d hd
   rw [digit_at d hd]
   match d, hd with
   | 0, _ => decide
   | 1, _ => decide
   | 2, _ => decide
   | 3, _ => decide
   | 4, _ => decide
   | 5, _ => decide
   | 6, _ => decide
   | 7, _ => decide
   | 8, _ => decide
   | 9, _ => decide
 induction u using Nat.strongRecOn with
 | _ u ih =>
   by_cases h : u < 10
   · rw [num_one h]; exact one u h
   · rw [num_more h, nl_app, ih (u / 10) (by omega), one _ (by omega)]
theorem nl_num (n : Int) : nl (num n) = 0 := by
 rcases Int.lt_or_le n 0 with h | h
 · obtain ⟨u, hu⟩ : ∃ u : Nat, n = -(u : Int) := ⟨n.natAbs, by omega⟩
   subst hu
   rw [num_neg (by omega), nl_app, nl_nat]
   decide
 · obtain ⟨u, hu⟩ : ∃ u : Nat, n = u := ⟨n.toNat, by omega⟩
   subst hu
   exact nl_nat u
theorem nl_line {r : QuakeRow} (h : qrB r = true) : nl (quakeLine r) = 0 := by
 have c1 : nl (⟨#[35]⟩ : ByteArray) = 0 := by decide
 have c2 : nl (⟨#[32, 116]⟩ : ByteArray) = 0 := by decide
 have c3 : nl (⟨#[32, 97, 116, 32]⟩ : ByteArray) = 0 := by decide
 have c4 : nl (⟨#[44]⟩ : ByteArray) = 0 := by decide
 have c5 : nl (⟨#[32, 100, 101, 101, 112, 32]⟩ : ByteArray) = 0 := by decide
 have c6 : nl (⟨#[32, 77]⟩ : ByteArray) = 0 := by decide
 have c7 : nl (⟨#[46]⟩ : ByteArray) = 0 := by decide
 have c8 : nl (⟨#[32]⟩ : ByteArray) = 0 := by decide
 have cs : nl (qSign r) = 0 := by unfold qSign; split <;> decide
 have ch : nl (qHund r.Size.natAbs) = 0 := by rw [qHund_eq, nl_app, nl_num, nl_num]
 have cg : nl (qGrade r.Grade) = 0 := by
   obtain ⟨_, _, _, _, _, g⟩ := qrB_iff.1 h
   have : r.Grade = 1 ∨ r.Grade = 2 ∨ r.Grade = 3 ∨ r.Grade = 4 := by omega
   rcases this with e | e | e | e <;> rw [e] <;> decide
 simp only [quakeLine, qHead, nl_app, nl_num, c1, c2, c3, c4, c5, c6, c7, c8, cs, ch, cg]
theorem nl_lines (L : List QuakeRow) (hL : ∀ x ∈ L, qrB x = true) : nl (linesOf quakeLine L) = L.length := by
 have key : ∀ (L : List QuakeRow) (s : ByteArray), (∀ x ∈ L, qrB x = true) → nl (L.foldl (fun s r => s ++ (quakeLine r ++ ⟨#[10]⟩)) s) = nl s + L.length := by
   intro L
   induction L with
   | nil => intro s _; simp
   | cons r L ih =>
     intro s h
     have e : nl (⟨#[10]⟩ : ByteArray) = 1 := by decide
     rw [List.foldl_cons, ih _ (fun x hx => h x (List.mem_cons_of_mem _ hx)), nl_app, nl_app, nl_line (h r (by simp)), e, List.length_cons]
     omega
 have e : nl (⟨#[]⟩ : ByteArray) = 0 := by decide
 rw [linesOf, key L _ hL, e]
 omega
theorem nl_bul {L : List QuakeRow} (h : bulB L = true) : nl (bulText L) = L.length := by
 have c1 : nl (⟨#[101, 118, 101, 110, 116, 115, 58, 32]⟩ : ByteArray) = 0 := by decide
 rw [bulText, nl_app, nl_app, nl_num, c1, nl_lines L (bulB_all h).1]
 omega
def nlTo (s : ByteArray) (i : Nat) : Nat := (s.data.toList.take i).countP (fun c => c == 10)
theorem nlTo_le (s : ByteArray) (i : Nat) : nlTo s i ≤ i := Nat.le_trans (List.countP_le_length) (by simp; omega)
theorem nlTo_all (s : ByteArray) : nlTo s s.size = nl s := by
 have : s.size = s.data.toList.length := by rw [Array.length_toList]; rfl
 rw [nlTo, this, List.take_length]; rfl
theorem nlTo_succ {s : ByteArray} {i : Nat} (h : i < s.size) : nlTo s (i + 1) = nlTo s i + if ((s[i].toNat : Int) == 10) = true then 1 else 0 := by
 have h' : i < s.data.toList.length := by rw [Array.length_toList]; exact h
 have e : s.data.toList[i] = s[i] := by rw [Array.getElem_toList]; rfl
 rw [nlTo, List.take_succ_eq_append_getElem h', List.countP_append, e, nlTo]
 congr 1
 have hb : (s[i] == 10) = ((s[i].toNat : Int) == 10) := by
   rw [Bool.eq_iff_iff, beq_iff_eq, beq_iff_eq]
   constructor
   · intro h; rw [h]; rfl
   · intro h
     apply UInt8.toNat_inj.1
     have : s[i].toNat = 10 := by omega
     rw [this]; rfl
 cases hq : ((s[i].toNat : Int) == 10) with
 | true => rw [hq] at hb; simp [hb]
 | false => rw [hq] at hb; simp [hb]
theorem bulTextR_eq (L : List QuakeRow) : ∃ s : ByteArray, bulTextR L = .tup [.str s, .bool (bulB L)] ∧ (bulB L = true → nl s = L.length) ∧ s.size ≤ 100000 := by
 cases h : bulB L with
 | false => exact ⟨ByteArray.empty, by simp [bulTextR, h], (fun h => by cases h), by decide⟩
 | true =>
   refine ⟨bulText L, by simp [bulTextR, h], fun _ => nl_bul h, ?_⟩
   obtain ⟨hv, hl⟩ := bulB_all h
   have n1 := num_size' (n := (L.length : Int)) (by omega) (by omega)
   have ht := linesOf_size (line := quakeLine) (L := L) (B := 400) (fun x hx => quakeLine_size (hv x hx)) L.length (Nat.le_refl _)
   rw [List.take_length] at ht
   have hm : L.length * (400 + 1) ≤ 12 * 401 := Nat.mul_le_mul_right _ hl
   unfold bulText
   simp only [ByteArray.size_append, ba_size, List.size_toArray, List.length_cons, List.length_nil]
   omega
theorem bi_best {L : List QuakeRow} {t : Int} : ∀ n : Nat, n ≤ L.length →
   (∀ b, bi L t n = some b → ∃ h : b < L.length, t ≤ L[b].Tick ∧ ∀ k, (hk : k < L.length) → k < n → t ≤ L[k].Tick → L[k].Size ≤ L[b].Size) ∧ (bi L t n = none → ∀ k, (hk : k < L.length) → k < n → ¬ t ≤ L[k].Tick)
 | 0, _ => ⟨fun b h => by simp [bi] at h, fun _ k hk h => by omega⟩
 | n + 1, hn => by
   obtain ⟨h1, h2⟩ := bi_best (L := L) (t := t) n (by omega)
   have hnl : n < L.length := by omega
   have hs := bi_succ (L := L) (t := t) (i := n) hnl
   by_cases hc : t ≤ (L[n]'hnl).Tick ∧ biP L (bi L t n) (L[n]'hnl) = true
   · rw [if_pos hc] at hs
     rw [hs]
     refine ⟨fun b hb => ?_, fun h => by cases h⟩
     obtain rfl := Option.some.inj hb
     refine ⟨by omega, hc.1, fun k hk hkn htk => ?_⟩
     rcases Nat.lt_or_ge k n with h | h
     · cases hb0 : bi L t n with
       | none => exact absurd htk (h2 hb0 k hk h)
       | some b0 =>
         obtain ⟨g0, g1, g2⟩ := h1 b0 hb0
         have h3 := g2 k hk h htk
         have h4 := hc.2
         rw [hb0] at h4
         simp only [biP, List.getElem?_eq_getElem g0, decide_eq_true_eq] at h4
         omega
     · obtain rfl : k = n := by omega
       exact Int.le_refl _
   · rw [if_neg hc] at hs
     rw [hs]
     refine ⟨fun b hb => ?_, fun hb k hk hkn => ?_⟩
     · obtain ⟨g0, g1, g2⟩ := h1 b hb
       refine ⟨g0, g1, fun k hk hkn htk => ?_⟩
       rcases Nat.lt_or_ge k n with h | h
       · exact g2 k hk h htk
       · obtain rfl : k = n := by omega
         have h5 : ¬ biP L (bi L t k) L[k] = true := fun h => hc ⟨htk, h⟩
         rw [hb] at h5
         simp only [biP, List.getElem?_eq_getElem g0, decide_eq_true_eq] at h5
         omega
     · rcases Nat.lt_or_ge k n with h | h
       · exact h2 hb k hk h
       · obtain rfl : k = n := by omega
         intro htk
         exact hc ⟨htk, by rw [hb]; rfl⟩
theorem largeR_eq (L : List QuakeRow) (t : Int) : ∃ (v : Int) (b : Bool), largeR L t = [.int .i64 v, .bool b] ∧ (b = true → ∀ i, (hi : i < L.length) → L[i].Id = v → t ≤ L[i].Tick ∧ ∀ k, (hk : k < L.length) → t ≤ L[k].Tick → L[k].Size ≤ L[i].Size) := by
 unfold largeR
 split
 · rename_i h
   have hb := bi_best (L := L) (t := t) L.length (Nat.le_refl _)
   cases hbi : bi L t L.length with
   | none => exact ⟨_, _, rfl, fun h => by cases h⟩
   | some b =>
     obtain ⟨g0, g1, g2⟩ := hb.1 b hbi
     simp only [List.getElem?_eq_getElem g0]
     refine ⟨_, _, rfl, fun _ i hi hid => ?_⟩
     have hnd : (L.map QuakeRow.Id).Nodup := by
       have := h.1
       simp only [bulB, Bool.and_eq_true, decide_eq_true_eq] at this
       exact this.2
     have e : i = b := by
       have h1 : i < (L.map QuakeRow.Id).length := by simpa using hi
       have h2 : b < (L.map QuakeRow.Id).length := by simpa using g0
       have hp := List.pairwise_iff_getElem.1 hnd
       rcases Nat.lt_trichotomy i b with h | h | h
       · exact absurd (by simpa using hid) (hp i b h1 h2 h)
       · exact h
       · exact absurd (by simpa using hid.symm) (hp b i h2 h1 h)
     subst e
     exact ⟨g1, fun k hk ht => g2 k hk hk ht⟩
 · exact ⟨_, _, rfl, fun h => by cases h⟩
end Go.Proofs
end
section
set_option maxRecDepth 100000
namespace Go.Proofs
open Go.Lv
def u8R (x : Int) : Prop := 0 ≤ x ∧ x ≤ 255
def ByteS.cs (x : Int) : List V := [.int .u8 x]
instance instFlatPByteS : FlatP ByteS.cs 1 := ⟨fun _ => rfl, fun _ d => by cases d <;> rfl, fun _ => rfl, fun _ => rfl⟩
theorem ByteS.csl (a : Int) : (ByteS.cs a).length = 1 := rfl
abbrev ByteS.ok (x : Int) : Prop := u8R x
abbrev ByteS.sl (L : List Int) : V := .sl L.length 1 (Go.Lv.rows ByteS.cs L)

end Go.Proofs
end
section
set_option maxRecDepth 100000
set_option maxHeartbeats 1000000
namespace Go.Proofs
open Go.Lv
structure Cur where
 a : Int
 s : Int
def Cur.cs (B : List Int) (c : Cur) : List V := [ByteS.sl B, .int .i64 c.a, .int .u64 c.s]
def CB (B : List Int) : Prop := lstR u8R B
def Cur.le (c : Cur) (k : Int) : Prop := 0 ≤ c.a ∧ c.a ≤ k
theorem Cur.ren (B : List Int) (c : Cur) (f : Nat → R) (d : Nat) : (c.cs B).map (Go.Lv.ren f d) = c.cs B := by cases d <;> simp [Cur.cs, Go.Lv.ren]
theorem lendCur {B : List Int} {c : Cur} {h : Hp} {id : Nat} (hid : h[id]? = some (some (c.cs B))) : pickH [id] h false = [some (c.cs B)] := by
 simp only [pickH, List.map_cons, List.map_nil, pickB, hid, Cur.ren]
theorem lendCur2 {α : Type} {cs : α → List V} {w : Nat} [FlatP cs w] {L : List α} {B : List Int} {c : Cur} {h : Hp} {i j : Nat} (hi : h[i]? = some (some (c.cs B))) (hj : h[j]? = some (some (rows cs L))) : pickH [i, j] h false = [some (c.cs B), some (rows cs L)] := by
 simp only [pickH, List.map_cons, List.map_nil, pickB, hi, hj, Cur.ren, map_ren_rows]
theorem growCur (B : List Int) (c c' : Cur) : grown [some (c.cs B)] [some (c'.cs B)] := ⟨⟨rfl, rfl⟩, trivial⟩
theorem growCur2 {α : Type} {cs : α → List V} {L : List α} (B : List Int) (c c' : Cur) : grown [some (c.cs B), some (rows cs L)] [some (c'.cs B), some (rows cs L)] := ⟨⟨rfl, rfl⟩, ⟨rfl, rfl⟩, trivial⟩
theorem andI_255 (x : Int) : 0 ≤ andI .u64 x 255 ∧ andI .u64 x 255 ≤ 255 := by
 have h : ∀ y : BitVec 64, (y &&& BitVec.ofInt 64 255).toNat ≤ 255 := fun y => by
   rw [BitVec.toNat_and]
   exact Nat.le_trans Nat.and_le_right (by decide)
 have hb : (BitVec.ofInt 64 x &&& BitVec.ofInt 64 255).toNat ≤ 255 := h _
 have hw : andI .u64 x 255 = (((BitVec.ofInt 64 x &&& BitVec.ofInt 64 255).toNat : Nat) : Int) := by
   unfold andI
   show IntKind.u64.wrap (((BitVec.ofInt 64 x &&& BitVec.ofInt 64 255).toNat : Nat) : Int) = _
   generalize (BitVec.ofInt 64 x &&& BitVec.ofInt 64 255).toNat = n at hb
   simp [IntKind.wrap, IntKind.bits, IntKind.signed]
   omega
 rw [hw]
 omega
def nextB (B : List Int) (c : Cur) : Int := if c.a < B.length then B.getD c.a.toNat 0 else 0
def nextS (B : List Int) (c : Cur) : Int := IntKind.u64.wrap (IntKind.u64.wrap (IntKind.u64.wrap (c.s * 6364136223846793005) + IntKind.u64.wrap (nextB B c)) + 101717)
def nextC (B : List Int) (c : Cur) : Cur := ⟨c.a + 1, nextS B c⟩
def nextV (B : List Int) (c : Cur) : Int := if c.a < B.length then nextB B c else andI .u64 (shrI .u64 (nextS B c) 40) 255
theorem nextB_bd {B : List Int} (hB : CB B) {c : Cur} (h : 0 ≤ c.a) : 0 ≤ nextB B c ∧ nextB B c ≤ 255 := by
 unfold nextB
 split
 · have hi : c.a.toNat < B.length := by omega
   have := hB.2 _ (List.getElem_mem hi)
   simpa [List.getD, hi, u8R] using this
 · omega
theorem nextV_bd {B : List Int} (hB : CB B) {c : Cur} (h : 0 ≤ c.a) : 0 ≤ nextV B c ∧ nextV B c ≤ 255 := by
 unfold nextV
 split
 · exact nextB_bd hB h
 · exact andI_255 _
theorem next_ok {B : List Int} (hB : CB B) {c : Cur} (hc : c.le 4611686018427387904) : Ctr Tryz.prog 63 [.ptr 0 0] [some (c.cs B)] (.int .i64 (nextV B c)) [some ((nextC B c).cs B)] := by
 obtain ⟨a, s⟩ := c
 obtain ⟨ha, hak⟩ := hc
 dsimp only at ha hak
 have hw : IntKind.i64.wrap (a + 1) = a + 1 := wrap_i64 (by omega) (by omega)
 have hbl := hB.1
 by_cases h1 : a < B.length
 · obtain ⟨i, rfl⟩ : ∃ i : Nat, a = i := ⟨a.toNat, by omega⟩
   have hi : i < B.length := by omega
   have hr := rows_at ByteS.csl hi
   obtain ⟨b0, b1⟩ : 0 ≤ B[i] ∧ B[i] ≤ 255 := by have := hB.2 _ (List.getElem_mem hi); simpa [u8R] using this
   have hwb : IntKind.i64.wrap B[i] = B[i] := wrap_i64 (by omega) (by omega)
   have hd : decide ((i : Int) < (B.length : Int)) = true := by simp; omega
   have hd2 : decide ((i : Int) + 1 ≤ (B.length : Int)) = true := by simp; omega
   have e1 : nextB B ⟨i, s⟩ = B[i] := by simp [nextB, h1, List.getD, hi]
   have e2 : nextV B ⟨i, s⟩ = B[i] := by simp [nextV, h1, e1]
   rw [nextC, nextS, e1, e2]
   refine Ctr.intro Tryz.mixed Tryz.func63 rfl Tryz.okF63 ?_
   simp -implicitDefEqProofs -dsimp only [go_sem, Tryz.ntmps63, Tryz.results63]
   (repeat ((repeat1' (first | simp -implicitDefEqProofs -dsimp only [go_sem, Cur.cs, hw, hd, hd2, hr, ByteS.cs, hwb] | simp -dsimp (disch := omega) only [wrap_i64])); repeat (with_reducible refine sideA ?_)))
   exact WeakR.refl _ _ _
 · have hd : decide (a < (B.length : Int)) = false := by simp; omega
   have hd2 : decide (a + 1 ≤ (B.length : Int)) = false := by simp; omega
   have e3 : nextV B ⟨a, s⟩ = andI .u64 (shrI .u64 (nextS B ⟨a, s⟩) 40) 255 := by simp [nextV, h1]
   have e4 : nextB B ⟨a, s⟩ = 0 := by simp [nextB, h1]
   rw [nextC, e3]
   rw [nextS, e4]
   obtain ⟨e1, e2⟩ := andI_255 (shrI .u64 (IntKind.u64.wrap (IntKind.u64.wrap (IntKind.u64.wrap (s * 6364136223846793005) + IntKind.u64.wrap 0) + 101717)) 40)
   generalize hq : andI .u64 (shrI .u64 (IntKind.u64.wrap (IntKind.u64.wrap (IntKind.u64.wrap (s * 6364136223846793005) + IntKind.u64.wrap 0) + 101717)) 40) 255 = q at e1 e2 ⊢
   have hwq : IntKind.i64.wrap q = q := wrap_i64 (by omega) (by omega)
   refine Ctr.intro Tryz.mixed Tryz.func63 rfl Tryz.okF63 ?_
   simp -implicitDefEqProofs -dsimp only [go_sem, Tryz.ntmps63, Tryz.results63]
   (repeat ((repeat1' (first | simp -implicitDefEqProofs -dsimp only [go_sem, Cur.cs, hw, hd, hd2, hq] | simp -dsimp (disch := omega) only [wrap_i64])); repeat (with_reducible refine sideA ?_)))
   exact WeakR.refl _ _ _
def pickV (B : List Int) (n : Int) (c : Cur) : Int := if n ≤ 1 then 0 else if 200 < n then (nextV B c * 256 + nextV B (nextC B c)).tmod n else (nextV B c).tmod n
def pickC (B : List Int) (n : Int) (c : Cur) : Cur := if n ≤ 1 then c else if 200 < n then nextC B (nextC B c) else nextC B c
theorem pickC_le {B : List Int} {n k : Int} {c : Cur} (h : c.le k) : (pickC B n c).le (k + 2) := by
 unfold pickC nextC Cur.le at *
 split
 · omega
 · split <;> (simp only []; omega)
theorem pickV_bd {B : List Int} (hB : CB B) {n : Int} {c : Cur} (h : 0 ≤ c.a) : 0 ≤ pickV B n c ∧ (1 ≤ n → pickV B n c < n) := by
 have h1 := nextV_bd hB h
 have h2 := nextV_bd hB (c := nextC B c) (by simp [nextC]; omega)
 unfold pickV
 split
 · omega
 · split
   · exact ⟨Int.tmod_nonneg _ (by omega), fun _ => Int.tmod_lt_of_pos _ (by omega)⟩
   · exact ⟨Int.tmod_nonneg _ (by omega), fun _ => Int.tmod_lt_of_pos _ (by omega)⟩
theorem pick_ok {B : List Int} (hB : CB B) {c : Cur} (hc : c.le 4611686018427387903) (n : Int) (hn : n ≤ 1000000000) : Ctr Tryz.prog 38 [.ptr 0 0, .int .i64 n] [some (c.cs B)] (.int .i64 (pickV B n c)) [some ((pickC B n c).cs B)] := by
 obtain ⟨r1, r2⟩ := nextV_bd hB hc.1
 have hc1 : (nextC B c).le 4611686018427387904 := by obtain ⟨h, h'⟩ := hc; exact ⟨by simp [nextC]; omega, by simp [nextC]; omega⟩
 obtain ⟨q1, q2⟩ := nextV_bd hB hc1.1
 have p4 := next_ok hB (c := c) ⟨hc.1, by have := hc.2; omega⟩
 have q4 := next_ok hB hc1
 by_cases h1 : n ≤ 1
 · have hd : decide (n ≤ 1) = true := by simp [h1]
   rw [pickV, pickC, if_pos h1, if_pos h1]
   refine Ctr.intro Tryz.mixed Tryz.func38 rfl Tryz.okF38 ?_
   simp -implicitDefEqProofs -dsimp only [go_sem, Tryz.ntmps38, Tryz.results38]
   (repeat ((repeat1' (first | simp -implicitDefEqProofs -dsimp only [go_sem, hd] | simp -dsimp (disch := omega) only [wrap_i64])); repeat (with_reducible refine sideA ?_)))
   exact WeakR.refl _ _ _
 have hd : decide (n ≤ 1) = false := by simp; omega
 by_cases h2 : 200 < n
 · have hd2 : decide (200 < n) = true := by simp [h2]
   have hw : IntKind.i64.wrap (nextV B c * 256) = nextV B c * 256 := wrap_i64 (by omega) (by omega)
   have hw2 : IntKind.i64.wrap (nextV B c * 256 + nextV B (nextC B c)) = nextV B c * 256 + nextV B (nextC B c) := wrap_i64 (by omega) (by omega)
   rw [pickV, pickC, if_neg h1, if_neg h1, if_pos h2, if_pos h2]
   refine Ctr.intro Tryz.mixed Tryz.func38 rfl Tryz.okF38 ?_
   simp -implicitDefEqProofs -dsimp only [go_sem, Tryz.ntmps38, Tryz.results38]
   (repeat ((repeat1' (first | simp -implicitDefEqProofs -dsimp only [go_sem, hd] | simp -dsimp (disch := omega) only [wrap_i64])); repeat (with_reducible refine sideA ?_)))
   refine callS.lend [0] false p4 (by decide) ⟨leO, trivial⟩ (lendCur rfl) (growCur B _ _) (.inl rfl) ?_
   (repeat ((repeat1' (first | simp -implicitDefEqProofs -dsimp only [go_sem, hd2, hw, Cur.ren] | simp -dsimp (disch := omega) only [wrap_i64])); repeat (with_reducible refine sideA ?_)))
   refine callS.lend [0] false q4 (by decide) ⟨leO, trivial⟩ (lendCur rfl) (growCur B _ _) (.inl rfl) ?_
   (repeat ((repeat1' (first | simp -implicitDefEqProofs -dsimp only [go_sem, hw2, Cur.ren] | simp -dsimp (disch := omega) only [wrap_i64])); repeat (with_reducible refine sideA ?_)))
   exact WeakR.refl _ _ _
 · have hd2 : decide (200 < n) = false := by simp [h2]
   rw [pickV, pickC, if_neg h1, if_neg h1, if_neg h2, if_neg h2]
   refine Ctr.intro Tryz.mixed Tryz.func38 rfl Tryz.okF38 ?_
   simp -implicitDefEqProofs -dsimp only [go_sem, Tryz.ntmps38, Tryz.results38]
   (repeat ((repeat1' (first | simp -implicitDefEqProofs -dsimp only [go_sem, hd] | simp -dsimp (disch := omega) only [wrap_i64])); repeat (with_reducible refine sideA ?_)))
   refine callS.lend [0] false p4 (by decide) ⟨leO, trivial⟩ (lendCur rfl) (growCur B _ _) (.inl rfl) ?_
   (repeat ((repeat1' (first | simp -implicitDefEqProofs -dsimp only [go_sem, hd2, Cur.ren] | simp -dsimp (disch := omega) only [wrap_i64])); repeat (with_reducible refine sideA ?_)))
   exact WeakR.refl _ _ _
theorem pick_call {B : List Int} (hB : CB B) {c : Cur} {k : Int} (hc : c.le k) (hk : k ≤ 4000000) (n : Int) (hn : n ≤ 1000000000) {t : List V} {h : Hp} {kk : Nat} {dst : Option Tmp} {Q : St → Prop} {x : Tag Q} {ci : Nat} (h0 : h[ci]? = some (some (c.cs B)))
   (hq : ∀ (v : Int) (c' : Cur), (0 ≤ v ∧ (1 ≤ n → v < n)) → c'.le (k + 2) → Q (afterM ⟨t, h, kk⟩ dst [ci] (.int .i64 v) [some (c'.cs B)])) : callS Tryz.prog ⟨t, h, kk⟩ dst (.fn (.func 38) [] []) [.ptr ci 0, .int .i64 n] Q x :=
 callS.lend [ci] false (pick_ok hB ⟨hc.1, by have := hc.2; omega⟩ n hn) (by simp) ⟨by simp [ren, pickF, posOf, LeV], leO, trivial⟩ (lendCur h0) (growCur B _ _) (.inl rfl) (hq _ _ (pickV_bd hB hc.1) (pickC_le hc))
def oneV (B : List Int) (n : Int) (c : Cur) : Bool := pickV B n c == 0
theorem one_ok {B : List Int} (hB : CB B) {c : Cur} (hc : c.le 4611686018427387903) (n : Int) (hn : n ≤ 1000000000) : Ctr Tryz.prog 32 [.ptr 0 0, .int .i64 n] [some (c.cs B)] (.bool (oneV B n c)) [some ((pickC B n c).cs B)] := by
 refine Ctr.intro Tryz.mixed Tryz.func32 rfl Tryz.okF32 ?_
 simp -implicitDefEqProofs -dsimp only [go_sem, Tryz.ntmps32, Tryz.results32]
 (repeat ((repeat1' (first | simp -implicitDefEqProofs -dsimp only [go_sem] | simp -dsimp (disch := omega) only [wrap_i64])); repeat (with_reducible refine sideA ?_)))
 refine callS.lend [0] false (pick_ok hB hc n hn) (by decide) ⟨leO, leO, trivial⟩ (lendCur rfl) (growCur B _ _) (.inl rfl) ?_
 (repeat ((repeat1' (first | simp -implicitDefEqProofs -dsimp only [go_sem, Cur.ren] | simp -dsimp (disch := omega) only [wrap_i64])); repeat (with_reducible refine sideA ?_)))
 exact WeakR.refl _ _ _
theorem one_call {B : List Int} (hB : CB B) {c : Cur} {k : Int} (hc : c.le k) (hk : k ≤ 4000000) (n : Int) (hn : n ≤ 1000000000) {t : List V} {h : Hp} {kk : Nat} {dst : Option Tmp} {Q : St → Prop} {x : Tag Q} {ci : Nat} (h0 : h[ci]? = some (some (c.cs B)))
   (hq : ∀ (v : Bool) (c' : Cur), c'.le (k + 2) → Q (afterM ⟨t, h, kk⟩ dst [ci] (.bool v) [some (c'.cs B)])) : callS Tryz.prog ⟨t, h, kk⟩ dst (.fn (.func 32) [] []) [.ptr ci 0, .int .i64 n] Q x :=
 callS.lend [ci] false (one_ok hB ⟨hc.1, by have := hc.2; omega⟩ n hn) (by simp) ⟨by simp [ren, pickF, posOf, LeV], leO, trivial⟩ (lendCur h0) (growCur B _ _) (.inl rfl) (hq _ _ (pickC_le hc))
def amongV (B : List Int) (K : List Int) (c : Cur) : Int := K.getD (pickV B K.length c).toNat 0
theorem amongV_mem {B : List Int} (hB : CB B) {K : List Int} (hK : 0 < K.length) {c : Cur} (h : 0 ≤ c.a) : amongV B K c ∈ K := by
 obtain ⟨h1, h2⟩ := pickV_bd hB (n := K.length) h
 have hi : (pickV B K.length c).toNat < K.length := by omega
 simp [amongV, List.getD, hi]
theorem among_ok {B : List Int} (hB : CB B) {c : Cur} (hc : c.le 4611686018427387903) (K : List Int) (hK0 : 0 < K.length) (hK : K.length ≤ 1000000000) : Ctr Tryz.prog 37 [.ptr 0 0, .osl 1 0 K.length 1] [some (c.cs B), some (rows IntS.cs K)] (.int .i64 (amongV B K c)) [some ((pickC B K.length c).cs B), some (rows IntS.cs K)] := by
 obtain ⟨h1, h2⟩ := pickV_bd hB (n := K.length) hc.1
 obtain ⟨i, hi'⟩ : ∃ i : Nat, pickV B K.length c = i := ⟨(pickV B K.length c).toNat, by omega⟩
 have hi : i < K.length := by omega
 have hr := rows_at IntS.csl hi
 have e : amongV B K c = K[i] := by simp [amongV, hi', List.getD, hi]
 have hp := pick_ok hB hc K.length (by omega)
 rw [hi'] at hp
 rw [e]
 refine Ctr.intro Tryz.mixed Tryz.func37 rfl Tryz.okF37 ?_
 simp -implicitDefEqProofs -dsimp only [go_sem, Tryz.ntmps37, Tryz.results37]
 (repeat ((repeat1' (first | simp -implicitDefEqProofs -dsimp only [go_sem] | simp -dsimp (disch := omega) only [wrap_i64])); repeat (with_reducible refine sideA ?_)))
 refine callS.lend [0] false hp (by decide) ⟨leO, leO, trivial⟩ (lendCur rfl) (growCur B _ _) (.inl rfl) ?_
 (repeat ((repeat1' (first | simp -implicitDefEqProofs -dsimp only [go_sem, Cur.ren, hr, IntS.cs] | simp -dsimp (disch := omega) only [wrap_i64])); repeat (with_reducible refine sideA ?_)))
 exact WeakR.refl _ _ _
theorem among_call {B : List Int} (hB : CB B) {c : Cur} {k : Int} (hc : c.le k) (hk : k ≤ 4000000) (K : List Int) (hK0 : 0 < K.length) (hK : K.length ≤ 1000000000) {t : List V} {h : Hp} {kk : Nat} {dst : Option Tmp} {Q : St → Prop} {x : Tag Q} {ci : Nat} (h0 : h[ci]? = some (some (c.cs B))) {i : Nat} (h1 : h[i]? = some (some (rows IntS.cs K))) (hne : (ci == i) = false)
   (hq : ∀ (v : Int) (c' : Cur), v ∈ K → c'.le (k + 2) → Q (afterM ⟨t, h, kk⟩ dst [ci, i] (.int .i64 v) [some (c'.cs B), some (rows IntS.cs K)])) : callS Tryz.prog ⟨t, h, kk⟩ dst (.fn (.func 37) [] []) [.ptr ci 0, .osl i 0 K.length 1] Q x := by
 have hn : ci ≠ i := by simpa using hne
 have hn' : (i == ci) = false := by simpa using Ne.symm hn
 exact callS.lend [ci, i] false (among_ok hB ⟨hc.1, by have := hc.2; omega⟩ K hK0 hK) (by simp [hn]) ⟨by simp [ren, pickF, posOf, LeV], by simp [ren, pickF, posOf, LeV, Ne.symm hn], trivial⟩ (lendCur2 h0 h1) (growCur2 B _ _) (.inl rfl) (hq _ _ (amongV_mem hB hK0 hc.1) (pickC_le hc))
end Go.Proofs
end
section
set_option maxRecDepth 100000
set_option maxHeartbeats 2000000
namespace Go.Proofs
open Go.Lv
def amongNV (B : List Int) (K : List Int) (n : Nat) (c : Cur) : Int := K.getD (pickV B n c).toNat 0
theorem amongNV_mem {B : List Int} (hB : CB B) {K : List Int} {n : Nat} (hn : 0 < n) (hK : n ≤ K.length) {c : Cur} (h : 0 ≤ c.a) : amongNV B K n c ∈ K := by
 obtain ⟨h1, h2⟩ := pickV_bd hB (n := n) h
 have hi : (pickV B n c).toNat < K.length := by omega
 simp [amongNV, List.getD, hi]
theorem amongN_ok {B : List Int} (hB : CB B) {c : Cur} (hc : c.le 4611686018427387903) (K : List Int) {n : Nat} (hn : 0 < n) (hK0 : n ≤ K.length) (hK : K.length ≤ 1000000000) : Ctr Tryz.prog 37 [.ptr 0 0, .osl 1 0 n 1] [some (c.cs B), some (rows IntS.cs K)] (.int .i64 (amongNV B K n c)) [some ((pickC B n c).cs B), some (rows IntS.cs K)] := by
 obtain ⟨h1, h2⟩ := pickV_bd hB (n := n) hc.1
 obtain ⟨i, hi'⟩ : ∃ i : Nat, pickV B n c = i := ⟨(pickV B n c).toNat, by omega⟩
 have hi : i < K.length := by omega
 have hin : decide ((i : Int) < (n : Int)) = true := decide_eq_true (by omega)
 have hr := rows_at IntS.csl hi
 have e : amongNV B K n c = K[i] := by simp [amongNV, hi', List.getD, hi]
 have hp := pick_ok hB hc n (by omega)
 rw [hi'] at hp
 rw [e]
 refine Ctr.intro Tryz.mixed Tryz.func37 rfl Tryz.okF37 ?_
 simp -implicitDefEqProofs -dsimp only [go_sem, Tryz.ntmps37, Tryz.results37]
 (repeat ((repeat1' (first | simp -implicitDefEqProofs -dsimp only [go_sem] | simp -dsimp (disch := omega) only [wrap_i64])); repeat (with_reducible refine sideA ?_)))
 refine callS.lend [0] false hp (by decide) ⟨leO, leO, trivial⟩ (lendCur rfl) (growCur B _ _) (.inl rfl) ?_
 (repeat ((repeat1' (first | simp -implicitDefEqProofs -dsimp only [go_sem, Cur.ren, hr, IntS.cs] | simp -dsimp (disch := omega) only [wrap_i64])); repeat (with_reducible refine sideA ?_)))
 exact WeakR.refl _ _ _
theorem lmonoQ {c : Cur} {a b : Int} (h : c.le a) (hab : a ≤ b) : c.le b := ⟨h.1, Int.le_trans h.2 hab⟩
theorem memR {K : List Int} {v : Int} (h : v ∈ K) (hk : K.all (fun x => decide (-10000000 ≤ x ∧ x ≤ 10000000)) = true) : -10000000 ≤ v ∧ v ≤ 10000000 := by
 have := List.all_eq_true.1 hk v h
 simpa using this
def placeP (B : List Int) (k : Int) (r : V) (hout : Hp) : Prop := ∃ (x y : Int) (c : Cur), (-10000000 ≤ x ∧ x ≤ 10000000) ∧ (-10000000 ≤ y ∧ y ≤ 10000000) ∧ c.le k ∧ r = .tup [.int .i64 x, .int .i64 y] ∧ hout = [some (c.cs B)]
theorem place_fin {B : List Int} {k : Int} {h : Hp} {x y : Int} {c : Cur} (h0 : h[0]? = some (some (c.cs B))) (hx : -10000000 ≤ x ∧ x ≤ 10000000) (hy : -10000000 ≤ y ∧ y ≤ 10000000) (hc : c.le k) : RelR 1 (.tup [.int .i64 x, .int .i64 y]) h (placeP B k) := by
 refine ⟨_, _, ⟨x, y, c, hx, hy, hc, rfl, rfl⟩, WeakR.pick [0] (by decide) (fun j hj => by cases j <;> simp_all) (.inl rfl) ?_⟩
 simp only [pickH, List.map_cons, List.map_nil, pickB, h0, Cur.ren]
theorem quo14 {x : Int} (h : 0 ≤ x ∧ (1 ≤ (30 : Int) → x < 30)) : ∃ j : Nat, Int.tdiv x 14 = j ∧ j ≤ 2 := by
 obtain ⟨n, rfl⟩ : ∃ n : Nat, x = n := ⟨x.toNat, by omega⟩
 refine ⟨n / 14, rfl, by omega⟩
theorem wrap5 {j : Nat} (h : j ≤ 2) : IntKind.i64.wrap (5 + (j : Int)) = ((5 + j : Nat) : Int) := by
 rw [wrap_i64 (by omega) (by omega)]; omega
theorem place_ok {B : List Int} (hB : CB B) {k : Int} (hk : k ≤ 1000000) {c : Cur} (hc : c.le k) : CtrP Tryz.prog 65 [.ptr 0 0] [some (c.cs B)] (placeP B (k + 8)) := by
 have hcb : ∀ {c' : Cur} {k' : Int}, c'.le k' → k' ≤ 4000000 → c'.le 4611686018427387903 := fun h h' => ⟨h.1, by have := h.2; omega⟩
 refine CtrP.intro Tryz.mixed Tryz.func65 rfl Tryz.okF65 ?_
 simp -implicitDefEqProofs -dsimp only [go_sem, Tryz.ntmps65, Tryz.results65]
 (repeat ((repeat1' (first | simp -implicitDefEqProofs -dsimp only [go_sem] | simp -dsimp (disch := omega) only [wrap_i64])); repeat (with_reducible refine sideA ?_)))
 refine pick_call hB hc (by omega) 30 (by omega) rfl (fun vc1 c1 pvc1 hc1 => ?_)
 obtain ⟨j1, hj1, hjb1⟩ := quo14 pvc1
 have hw1 := wrap5 hjb1
 (repeat ((repeat1' (first | simp -implicitDefEqProofs -dsimp only [go_sem, Cur.ren, map_ren_rows, hj1, hw1] | simp -dsimp (disch := omega) only [wrap_i64])); repeat (with_reducible refine sideA ?_)))
 have e1 : (5 + (j1 : Int)).toNat - 0 = 5 + j1 := by omega
 simp only [e1]
 have pc2 := amongN_ok hB (hcb hc1 (by omega)) [0, 3, 10, 50, 999, -1, 1000] (n := (5 + j1)) (by omega) (by simp only [List.length_cons, List.length_nil]; omega) (by simp); have hc2 := pickC_le (B := B) (n := (((5 + j1) : Nat) : Int)) hc1; have pvc2 := amongNV_mem hB (K := [0, 3, 10, 50, 999, -1, 1000]) (n := (5 + j1)) (by omega) (by simp only [List.length_cons, List.length_nil]; omega) hc1.1; generalize amongNV B [0, 3, 10, 50, 999, -1, 1000] (5 + j1) c1 = vc2 at pc2 pvc2; generalize pickC B (((5 + j1) : Nat) : Int) c1 = c2 at pc2 hc2; (first | refine callS.lend [0, 1] false pc2 (by decide) ⟨leO, leO, trivial⟩ (lendCur2 rfl rfl) (growCur2 B _ _) (.inl rfl) ?_)
 (repeat ((repeat1' (first | simp -implicitDefEqProofs -dsimp only [go_sem, Cur.ren, map_ren_rows] | simp -dsimp (disch := omega) only [wrap_i64])); repeat (with_reducible refine sideA ?_)))
 refine pick_call hB hc2 (by omega) 30 (by omega) rfl (fun vc3 c3 pvc3 hc3 => ?_)
 obtain ⟨j2, hj2, hjb2⟩ := quo14 pvc3
 have hw2 := wrap5 hjb2
 (repeat ((repeat1' (first | simp -implicitDefEqProofs -dsimp only [go_sem, Cur.ren, map_ren_rows, hj2, hw2] | simp -dsimp (disch := omega) only [wrap_i64])); repeat (with_reducible refine sideA ?_)))
 have e2 : (5 + (j2 : Int)).toNat - 0 = 5 + j2 := by omega
 simp only [e2]
 have pc4 := amongN_ok hB (hcb hc3 (by omega)) [0, 4, 10, 50, 999, -1, 1000] (n := (5 + j2)) (by omega) (by simp only [List.length_cons, List.length_nil]; omega) (by simp); have hc4 := pickC_le (B := B) (n := (((5 + j2) : Nat) : Int)) hc3; have pvc4 := amongNV_mem hB (K := [0, 4, 10, 50, 999, -1, 1000]) (n := (5 + j2)) (by omega) (by simp only [List.length_cons, List.length_nil]; omega) hc3.1; generalize amongNV B [0, 4, 10, 50, 999, -1, 1000] (5 + j2) c3 = vc4 at pc4 pvc4; generalize pickC B (((5 + j2) : Nat) : Int) c3 = c4 at pc4 hc4; (first | refine callS.lend [0, 2] false pc4 (by decide) ⟨leO, leO, trivial⟩ (lendCur2 rfl rfl) (growCur2 B _ _) (.inl rfl) ?_)
 (repeat ((repeat1' (first | simp -implicitDefEqProofs -dsimp only [go_sem, Cur.ren, map_ren_rows] | simp -dsimp (disch := omega) only [wrap_i64])); repeat (with_reducible refine sideA ?_)))
 exact place_fin rfl (memR pvc2 (by decide)) (memR pvc4 (by decide)) (lmonoQ hc4 (by omega))
def quakeP (B : List Int) (k : Int) (r : V) (hout : Hp) : Prop := ∃ (q : QuakeRow) (c : Cur), q.ok ∧ c.le k ∧ r = q.v ∧ hout = [some (c.cs B)]
theorem quake_fin {B : List Int} {k : Int} {h : Hp} {a b x y d s g : Int} {c : Cur} (h0 : h[0]? = some (some (c.cs B))) (hq : QuakeRow.ok ⟨a, b, x, y, d, s, g⟩) (hc : c.le k) : RelR 1 (.agg [.int .i64 a, .int .i64 b, .int .i64 x, .int .i64 y, .int .i64 d, .int .i64 s, .int .i64 g]) h (quakeP B k) := by
 refine ⟨_, _, ⟨⟨a, b, x, y, d, s, g⟩, c, hq, hc, rfl, rfl⟩, WeakR.pick [0] (by decide) (fun j hj => by cases j <;> simp_all) (.inl rfl) ?_⟩
 simp only [pickH, List.map_cons, List.map_nil, pickB, h0, Cur.ren]
theorem i64M {v : Int} (h : -10000000 ≤ v ∧ v ≤ 10000000) : i64R v := ⟨by omega, by omega⟩
theorem quake_ok {B : List Int} (hB : CB B) {k : Int} (hk : k ≤ 900000) {c : Cur} (hc : c.le k) (id tick : Int) (hid : i64R id) (htick : i64R tick) : CtrP Tryz.prog 48 [.ptr 0 0, .int .i64 id, .int .i64 tick] [some (c.cs B)] (quakeP B (k + 30)) := by
 have hcb : ∀ {c' : Cur} {k' : Int}, c'.le k' → k' ≤ 4000000 → c'.le 4611686018427387903 := fun h h' => ⟨h.1, by have := h.2; omega⟩
 refine CtrP.intro Tryz.mixed Tryz.func48 rfl Tryz.okF48 ?_
 simp -implicitDefEqProofs -dsimp only [go_sem, Tryz.ntmps48, Tryz.results48]
 (repeat ((repeat1' (first | simp -implicitDefEqProofs -dsimp only [go_sem] | simp -dsimp (disch := omega) only [wrap_i64])); repeat (with_reducible refine sideA ?_)))
 refine among_call hB hc (by omega) [0, 9, 10, 35, 700] (by simp) (by simp) rfl rfl rfl (fun vc1 c1 pvc1 hc1 => ?_)
 (repeat ((repeat1' (first | simp -implicitDefEqProofs -dsimp only [go_sem, Cur.ren, map_ren_rows] | simp -dsimp (disch := omega) only [wrap_i64])); repeat (with_reducible refine sideA ?_)))
 refine among_call hB hc1 (by omega) [-100, -5, 0, 250, 250, 481, 1000] (by simp) (by simp) rfl rfl rfl (fun vc2 c2 pvc2 hc2 => ?_)
 (repeat ((repeat1' (first | simp -implicitDefEqProofs -dsimp only [go_sem, Cur.ren, map_ren_rows] | simp -dsimp (disch := omega) only [wrap_i64])); repeat (with_reducible refine sideA ?_)))
 refine pick_call hB hc2 (by omega) 4 (by omega) rfl (fun vc3 c3 pvc3 hc3 => ?_)
 have hw3 : IntKind.i64.wrap (1 + vc3) = 1 + vc3 := wrap_i64 (by omega) (by omega)
 (repeat ((repeat1' (first | simp -implicitDefEqProofs -dsimp only [go_sem, Cur.ren, map_ren_rows, hw3] | simp -dsimp (disch := omega) only [wrap_i64])); repeat (with_reducible refine sideA ?_)))
 refine callS.rel [0] (place_ok hB (by omega) hc3) (by decide) ⟨leO, trivial⟩ (lendCur rfl) rfl (fun r hout hΦ => ?_)
 obtain ⟨x, y, c4, hx, hy, hc4, rfl, rfl⟩ := hΦ
 refine ⟨⟨⟨rfl, rfl⟩, trivial⟩, ?_⟩
 (repeat ((repeat1' (first | simp -implicitDefEqProofs -dsimp only [go_sem, Cur.ren, map_ren_rows] | simp -dsimp (disch := omega) only [wrap_i64])); repeat (with_reducible refine sideA ?_)))
 refine pick_call hB hc4 (by omega) 90 (by omega) rfl (fun vc5 c5 pvc5 hc5 => ?_)
 have hg : -10000000 ≤ 1 + vc3 ∧ 1 + vc3 ≤ 10000000 := by omega
 obtain ⟨g, hge⟩ : ∃ g, g = 1 + vc3 := ⟨_, rfl⟩
 have hgi : i64R g := i64M (by rw [hge]; exact hg)
 (repeat ((repeat1' (first | simp -implicitDefEqProofs -dsimp only [go_sem, Cur.ren, map_ren_rows] | simp -dsimp (disch := omega) only [wrap_i64])); repeat (with_reducible refine sideA ?_)))
 rw [← hge]
 refine condT.split (fun h1 => ?_) (fun h1 => ?_)
 · (repeat ((repeat1' (first | simp -implicitDefEqProofs -dsimp only [go_sem, h1] | simp -dsimp (disch := omega) only [wrap_i64])); repeat (with_reducible refine sideA ?_)))
   refine among_call hB hc5 (by omega) [0, 9999, 10000] (by simp) (by simp) rfl rfl rfl (fun vc6 c6 pvc6 hc6 => ?_)
   (repeat ((repeat1' (first | simp -implicitDefEqProofs -dsimp only [go_sem, Cur.ren, map_ren_rows] | simp -dsimp (disch := omega) only [wrap_i64])); repeat (with_reducible refine sideA ?_)))
   exact quake_fin rfl ⟨i64M (memR pvc6 (by decide)), htick, i64M hx, i64M hy, i64M (memR pvc1 (by decide)), i64M (memR pvc2 (by decide)), hgi⟩ (lmonoQ hc6 (by omega))
 · (repeat ((repeat1' (first | simp -implicitDefEqProofs -dsimp only [go_sem, h1] | simp -dsimp (disch := omega) only [wrap_i64])); repeat (with_reducible refine sideA ?_)))
   refine condT.split (fun h2 => ?_) (fun h2 => ?_)
   · (repeat ((repeat1' (first | simp -implicitDefEqProofs -dsimp only [go_sem, h2] | simp -dsimp (disch := omega) only [wrap_i64])); repeat (with_reducible refine sideA ?_)))
     refine among_call hB hc5 (by omega) [-1, 1000001] (by simp) (by simp) rfl rfl rfl (fun vc6 c6 pvc6 hc6 => ?_)
     (repeat ((repeat1' (first | simp -implicitDefEqProofs -dsimp only [go_sem, Cur.ren, map_ren_rows] | simp -dsimp (disch := omega) only [wrap_i64])); repeat (with_reducible refine sideA ?_)))
     exact quake_fin rfl ⟨hid, i64M (memR pvc6 (by decide)), i64M hx, i64M hy, i64M (memR pvc1 (by decide)), i64M (memR pvc2 (by decide)), hgi⟩ (lmonoQ hc6 (by omega))
   · (repeat ((repeat1' (first | simp -implicitDefEqProofs -dsimp only [go_sem, h2] | simp -dsimp (disch := omega) only [wrap_i64])); repeat (with_reducible refine sideA ?_)))
     refine condT.split (fun h3 => ?_) (fun h3 => ?_)
     · (repeat ((repeat1' (first | simp -implicitDefEqProofs -dsimp only [go_sem, h3] | simp -dsimp (disch := omega) only [wrap_i64])); repeat (with_reducible refine sideA ?_)))
       refine among_call hB hc5 (by omega) [-1, 701] (by simp) (by simp) rfl rfl rfl (fun vc6 c6 pvc6 hc6 => ?_)
       (repeat ((repeat1' (first | simp -implicitDefEqProofs -dsimp only [go_sem, Cur.ren, map_ren_rows] | simp -dsimp (disch := omega) only [wrap_i64])); repeat (with_reducible refine sideA ?_)))
       exact quake_fin rfl ⟨hid, htick, i64M hx, i64M hy, i64M (memR pvc6 (by decide)), i64M (memR pvc2 (by decide)), hgi⟩ (lmonoQ hc6 (by omega))
     · (repeat ((repeat1' (first | simp -implicitDefEqProofs -dsimp only [go_sem, h3] | simp -dsimp (disch := omega) only [wrap_i64])); repeat (with_reducible refine sideA ?_)))
       refine condT.split (fun h4 => ?_) (fun h4 => ?_)
       · (repeat ((repeat1' (first | simp -implicitDefEqProofs -dsimp only [go_sem, h4] | simp -dsimp (disch := omega) only [wrap_i64])); repeat (with_reducible refine sideA ?_)))
         refine among_call hB hc5 (by omega) [-101, 1001] (by simp) (by simp) rfl rfl rfl (fun vc6 c6 pvc6 hc6 => ?_)
         (repeat ((repeat1' (first | simp -implicitDefEqProofs -dsimp only [go_sem, Cur.ren, map_ren_rows] | simp -dsimp (disch := omega) only [wrap_i64])); repeat (with_reducible refine sideA ?_)))
         exact quake_fin rfl ⟨hid, htick, i64M hx, i64M hy, i64M (memR pvc1 (by decide)), i64M (memR pvc6 (by decide)), hgi⟩ (lmonoQ hc6 (by omega))
       · (repeat ((repeat1' (first | simp -implicitDefEqProofs -dsimp only [go_sem, h4] | simp -dsimp (disch := omega) only [wrap_i64])); repeat (with_reducible refine sideA ?_)))
         refine condT.split (fun h5 => ?_) (fun h5 => ?_)
         · (repeat ((repeat1' (first | simp -implicitDefEqProofs -dsimp only [go_sem, h5] | simp -dsimp (disch := omega) only [wrap_i64])); repeat (with_reducible refine sideA ?_)))
           refine among_call hB hc5 (by omega) [0, 5] (by simp) (by simp) rfl rfl rfl (fun vc6 c6 pvc6 hc6 => ?_)
           (repeat ((repeat1' (first | simp -implicitDefEqProofs -dsimp only [go_sem, Cur.ren, map_ren_rows] | simp -dsimp (disch := omega) only [wrap_i64])); repeat (with_reducible refine sideA ?_)))
           exact quake_fin rfl ⟨hid, htick, i64M hx, i64M hy, i64M (memR pvc1 (by decide)), i64M (memR pvc2 (by decide)), i64M (memR pvc6 (by decide))⟩ (lmonoQ hc6 (by omega))
         · (repeat ((repeat1' (first | simp -implicitDefEqProofs -dsimp only [go_sem, h5] | simp -dsimp (disch := omega) only [wrap_i64])); repeat (with_reducible refine sideA ?_)))
           exact quake_fin rfl ⟨hid, htick, i64M hx, i64M hy, i64M (memR pvc1 (by decide)), i64M (memR pvc2 (by decide)), hgi⟩ (lmonoQ hc5 (by omega))
end Go.Proofs
end
section
set_option maxRecDepth 100000
set_option maxHeartbeats 2000000
namespace Go.Proofs
open Go.Lv
def bulP (B : List Int) (k : Int) (r : V) (hout : Hp) : Prop := ∃ (L : List QuakeRow) (c : Cur), (∀ x ∈ L, x.ok) ∧ L.length ≤ 20 ∧ c.le k ∧ r = QuakeRow.sl L ∧ hout = [some (c.cs B)]
theorem bul_fin {B : List Int} {k : Int} {h : Hp} {L : List QuakeRow} {c : Cur} (h0 : h[0]? = some (some (c.cs B))) (h1 : h[1]? = some (some (rows QuakeRow.cs L))) (hL : ∀ x ∈ L, x.ok) (hl : L.length ≤ 20) (hc : c.le k) : RelR 1 (.osl 1 0 L.length 7) h (bulP B k) := by
 refine ⟨_, _, ⟨L, c, hL, hl, hc, rfl, rfl⟩, WeakR.pick [0] (by decide) (fun j hj => by cases j <;> simp_all) (.inl ?_) ?_⟩
 · simp [ren, pickF, posOf, frzR, h1, take_rows, map_ren_rows]
 · simp only [pickH, List.map_cons, List.map_nil, pickB, h0, Cur.ren]
theorem bulletin_ok {B : List Int} (hB : CB B) {k : Int} (hk : k ≤ 800000) {c : Cur} (hc : c.le k) : CtrP Tryz.prog 36 [.ptr 0 0] [some (c.cs B)] (bulP B (k + 700)) := by
 have hcb : ∀ {c' : Cur} {k' : Int}, c'.le k' → k' ≤ 4000000 → c'.le 4611686018427387903 := fun h h' => ⟨h.1, by have := h.2; omega⟩
 refine CtrP.intro Tryz.mixed Tryz.func36 rfl Tryz.okF36 ?_
 simp -implicitDefEqProofs -dsimp only [go_sem, Tryz.ntmps36, Tryz.results36]
 (repeat ((repeat1' (first | simp -implicitDefEqProofs -dsimp only [go_sem] | simp -dsimp (disch := omega) only [wrap_i64])); repeat (with_reducible refine sideA ?_)))
 refine among_call hB hc (by omega) [0, 100, 990000] (by simp) (by simp) rfl rfl rfl (fun vc1 c1 pvc1 hc1 => ?_)
 have ht1 : 0 ≤ vc1 ∧ vc1 ≤ 990000 := by
   simp at pvc1
   rcases pvc1 with rfl | rfl | rfl <;> omega
 (repeat ((repeat1' (first | simp -implicitDefEqProofs -dsimp only [go_sem, Cur.ren, map_ren_rows] | simp -dsimp (disch := omega) only [wrap_i64])); repeat (with_reducible refine sideA ?_)))
 refine pick_call hB hc1 (by omega) 8 (by omega) rfl (fun vc2 c2 pvc2 hc2 => ?_)
 (repeat ((repeat1' (first | simp -implicitDefEqProofs -dsimp only [go_sem, Cur.ren, map_ren_rows] | simp -dsimp (disch := omega) only [wrap_i64])); repeat (with_reducible refine sideA ?_)))
 obtain ⟨n0, hn0⟩ : ∃ n : Nat, vc2 = n := ⟨vc2.toNat, by omega⟩
 subst hn0
 refine LoopT.intro (fun x : Nat × List QuakeRow × Int × Cur => x.1 ≤ 7 ∧ x.2.1.length + x.1 ≤ 7 ∧ (∀ y ∈ x.2.1, y.ok) ∧ (0 ≤ x.2.2.1 ∧ x.2.2.1 ≤ 990000 + 900 * (7 - (x.1 : Int))) ∧ x.2.2.2.le (k + 10 + 60 * (7 - (x.1 : Int)))) (fun x => ⟨[.ptr 0 0, .undef, .undef, .osl 1 0 x.2.1.length 7, .int .i64 x.2.2.1, .int .i64 x.1, .undef, .undef, .undef, .undef, .undef, .undef, .undef, .undef, .undef, .undef, .undef, .undef, .undef, .undef, .undef, .undef, .undef, .undef, .undef, .undef, .undef, .undef, .undef, .undef, .undef, .undef, .undef, .undef, .undef, .undef, .undef, .undef, .undef, .undef, .undef, .undef, .undef, .undef, .undef, .undef, .undef, .undef, .undef, .undef, .undef, .undef, .undef, .undef, .undef, .undef, .undef, .undef, .undef, .undef, .undef, .undef, .undef, .undef], [some (x.2.2.2.cs B), some (rows QuakeRow.cs x.2.1)], 1⟩) (fun x => x.1) (n0, [], vc1, c2) ⟨by simp only []; omega, by simp only [List.length_nil]; omega, fun y hy => by simp at hy, ⟨by simp only []; omega, by simp only []; omega⟩, lmonoQ hc2 (by simp only [List.length_cons, List.length_nil]; omega)⟩ ?_ (fun x hx => ?_)
 · refine Weak.cut (2) (by simp) (by simp) ?_ ?_
   · simp [LeC, LeV, ren, cutF]
   · simp [cutH, cutB, Cur.ren, ren, rows]
 obtain ⟨n, L, tick, c3⟩ := x
 obtain ⟨x0, x1, x2, x3, hc3⟩ := hx
 dsimp only at x0 x1 x2 x3 hc3
 simp -implicitDefEqProofs -dsimp only [go_sem]
 refine condT.split (fun h1 => ?_) (fun h1 => ?_)
 · have hn : 0 < n := by have := of_decide_eq_true h1; omega
   (repeat ((repeat1' (first | simp -implicitDefEqProofs -dsimp only [go_sem, h1, map_ren_rows, take_rows, Cur.ren] | simp -dsimp (disch := omega) only [wrap_i64])); repeat (with_reducible refine sideA ?_)))
   refine pick_call hB hc3 (by omega) 12 (by omega) rfl (fun vc4 c4 pvc4 hc4 => ?_)
   have hwp : IntKind.i64.wrap (1 + vc4) = 1 + vc4 := wrap_i64 (by omega) (by omega)
   (repeat ((repeat1' (first | simp -implicitDefEqProofs -dsimp only [go_sem, Cur.ren, map_ren_rows, hwp] | simp -dsimp (disch := omega) only [wrap_i64])); repeat (with_reducible refine sideA ?_)))
   refine callS.rel [0] (quake_ok hB (by omega) hc4 (1 + vc4) tick ⟨by omega, by omega⟩ ⟨by omega, by omega⟩) (by decide) ⟨leO, leO, leO, trivial⟩ (lendCur rfl) rfl (fun r hout hΦ => ?_)
   obtain ⟨q, c5, hq, hc5, rfl, rfl⟩ := hΦ
   refine ⟨⟨⟨rfl, rfl⟩, trivial⟩, ?_⟩
   have hsn : rows QuakeRow.cs L ++ [.int .i64 q.Id, .int .i64 q.Tick, .int .i64 q.X, .int .i64 q.Y, .int .i64 q.Deep, .int .i64 q.Size, .int .i64 q.Grade] = rows QuakeRow.cs (L ++ [q]) := rows_snoc L q
   have hll : (L ++ [q]).length = L.length + 1 := by simp
   have hLq : ∀ y ∈ L ++ [q], y.ok := by
     intro y hy
     rcases List.mem_append.1 hy with h | h
     · exact x2 y h
     · rw [List.mem_singleton.1 h]; exact hq
   (repeat ((repeat1' (first | simp -implicitDefEqProofs -dsimp only [go_sem, Cur.ren, map_ren_rows, QuakeRow.v, hsn] | simp -dsimp (disch := omega) only [wrap_i64])); repeat (with_reducible refine sideA ?_)))
   have hn1 : ((n - 1 : Nat) : Int) = (n : Int) - 1 := by omega
   (have ct := l24Good_ok (L ++ [q]) (by omega); (first | refine callT.at ct ⟨leA, trivial⟩ ?_ | refine callS.at ct ⟨leA, trivial⟩ ?_); clear ct)
   (repeat ((repeat1' (first | simp -implicitDefEqProofs -dsimp only [go_sem] | simp -dsimp (disch := omega) only [wrap_i64])); repeat (with_reducible refine sideA ?_)))
   cases hgd : bulB (L ++ [q]) with
   | true =>
     (repeat ((repeat1' (first | simp -implicitDefEqProofs -dsimp only [go_sem, hgd] | simp -dsimp (disch := omega) only [wrap_i64])); repeat (with_reducible refine sideA ?_)))
     obtain ⟨c6, hc6e⟩ : ∃ c6, c6 = c5 := ⟨_, rfl⟩
     rw [← hc6e] at hc5 ⊢
     have hc6 : c6.le (k + 10 + 60 * (7 - (n : Int)) + 40) := lmonoQ hc5 (by omega)
     refine among_call hB hc6 (by omega) [1, 200, 300, 301, 900] (by simp) (by simp) rfl rfl rfl (fun vc7 c7 pvc7 hc7 => ?_)
     have ht7 : 1 ≤ vc7 ∧ vc7 ≤ 900 := by
       simp at pvc7
       rcases pvc7 with rfl | rfl | rfl | rfl | rfl <;> omega
     have hw7 : IntKind.i64.wrap (tick + vc7) = tick + vc7 := wrap_i64 (by omega) (by omega)
     (repeat ((repeat1' (first | simp -implicitDefEqProofs -dsimp only [go_sem, Cur.ren, map_ren_rows, hw7] | simp -dsimp (disch := omega) only [wrap_i64])); repeat (with_reducible refine sideA ?_)))
     refine ⟨(n - 1, L ++ [q], tick + vc7, c7), ⟨by simp only []; omega, by simp only []; omega, hLq, ⟨by simp only []; omega, by simp only []; omega⟩, lmonoQ hc7 (by simp only []; omega)⟩, ?_, by simp only []; omega⟩
     refine Weak.pick [0, 2] (by decide) (fun j hj => by cases j <;> simp_all) ?_ ?_
     · simp [LeG, LeC, LeV, ren, pickF, posOf, hn1]
     · simp [pickH, pickB, Cur.ren, ren, map_ren_rows]
   | false =>
     (repeat ((repeat1' (first | simp -implicitDefEqProofs -dsimp only [go_sem, hgd] | simp -dsimp (disch := omega) only [wrap_i64])); repeat (with_reducible refine sideA ?_)))
     refine one_call hB hc5 (by omega) 60 (by omega) rfl (fun vc6 c6 hc6 => ?_)
     (repeat ((repeat1' (first | simp -implicitDefEqProofs -dsimp only [go_sem, Cur.ren, map_ren_rows] | simp -dsimp (disch := omega) only [wrap_i64])); repeat (with_reducible refine sideA ?_)))
     have hc6 : c6.le (k + 10 + 60 * (7 - (n : Int)) + 40) := lmonoQ hc6 (by omega)
     refine condT.split (fun h3 => ?_) (fun h3 => ?_)
     · (repeat ((repeat1' (first | simp -implicitDefEqProofs -dsimp only [go_sem, h3] | simp -dsimp (disch := omega) only [wrap_i64])); repeat (with_reducible refine sideA ?_)))
       refine among_call hB hc6 (by omega) [1, 200, 300, 301, 900] (by simp) (by simp) rfl rfl rfl (fun vc7 c7 pvc7 hc7 => ?_)
       have ht7 : 1 ≤ vc7 ∧ vc7 ≤ 900 := by
         simp at pvc7
         rcases pvc7 with rfl | rfl | rfl | rfl | rfl <;> omega
       have hw7 : IntKind.i64.wrap (tick + vc7) = tick + vc7 := wrap_i64 (by omega) (by omega)
       (repeat ((repeat1' (first | simp -implicitDefEqProofs -dsimp only [go_sem, Cur.ren, map_ren_rows, hw7] | simp -dsimp (disch := omega) only [wrap_i64])); repeat (with_reducible refine sideA ?_)))
       refine ⟨(n - 1, L ++ [q], tick + vc7, c7), ⟨by simp only []; omega, by simp only []; omega, hLq, ⟨by simp only []; omega, by simp only []; omega⟩, lmonoQ hc7 (by simp only []; omega)⟩, ?_, by simp only []; omega⟩
       refine Weak.pick [0, 2] (by decide) (fun j hj => by cases j <;> simp_all) ?_ ?_
       · simp [LeG, LeC, LeV, ren, pickF, posOf, hn1]
       · simp [pickH, pickB, Cur.ren, ren, map_ren_rows]
     · (repeat ((repeat1' (first | simp -implicitDefEqProofs -dsimp only [go_sem, h3] | simp -dsimp (disch := omega) only [wrap_i64])); repeat (with_reducible refine sideA ?_)))
       refine among_call hB hc6 (by omega) [1, 200, 300, 301, 900] (by simp) (by simp) rfl rfl rfl (fun vc7 c7 pvc7 hc7 => ?_)
       have ht7 : 1 ≤ vc7 ∧ vc7 ≤ 900 := by
         simp at pvc7
         rcases pvc7 with rfl | rfl | rfl | rfl | rfl <;> omega
       have hw7 : IntKind.i64.wrap (tick + vc7) = tick + vc7 := wrap_i64 (by omega) (by omega)
       (repeat ((repeat1' (first | simp -implicitDefEqProofs -dsimp only [go_sem, Cur.ren, map_ren_rows, hw7] | simp -dsimp (disch := omega) only [wrap_i64])); repeat (with_reducible refine sideA ?_)))
       refine ⟨(n - 1, L, tick + vc7, c7), ⟨by simp only []; omega, by simp only []; omega, x2, ⟨by simp only []; omega, by simp only []; omega⟩, lmonoQ hc7 (by simp only []; omega)⟩, ?_, by simp only []; omega⟩
       refine Weak.pick [0, 1] (by decide) (fun j hj => by cases j <;> simp_all) ?_ ?_
       · simp [LeG, LeC, LeV, ren, pickF, posOf, hn1]
       · simp [pickH, pickB, Cur.ren, ren, map_ren_rows]
 · (repeat ((repeat1' (first | simp -implicitDefEqProofs -dsimp only [go_sem, h1] | simp -dsimp (disch := omega) only [wrap_i64])); repeat (with_reducible refine sideA ?_)))
   refine one_call hB hc3 (by omega) 24 (by omega) rfl (fun vc9 c9 hc9 => ?_)
   (repeat ((repeat1' (first | simp -implicitDefEqProofs -dsimp only [go_sem, Cur.ren, map_ren_rows] | simp -dsimp (disch := omega) only [wrap_i64])); repeat (with_reducible refine sideA ?_)))
   refine condT.split (fun g1 => ?_) (fun g1 => ?_)
   · (repeat ((repeat1' (first | simp -implicitDefEqProofs -dsimp only [go_sem, g1] | simp -dsimp (disch := omega) only [wrap_i64])); repeat (with_reducible refine sideA ?_)))
     refine LoopT.intro (fun x : Nat × List QuakeRow × Cur => x.1 ≤ 13 ∧ x.2.1.length = x.1 ∧ (∀ y ∈ x.2.1, y.ok) ∧ x.2.2.le (k + 600 + 3 * (x.1 : Int))) (fun x => ⟨[.ptr 0 0, .undef, .undef, .osl 1 0 x.2.1.length 7, .undef, .undef, .undef, .int .i64 x.1, .undef, .undef, .undef, .undef, .undef, .undef, .undef, .undef, .undef, .undef, .undef, .undef, .undef, .undef, .undef, .undef, .undef, .undef, .undef, .undef, .undef, .undef, .undef, .undef, .undef, .undef, .undef, .undef, .undef, .undef, .undef, .undef, .undef, .undef, .undef, .undef, .undef, .undef, .undef, .undef, .undef, .undef, .undef, .undef, .undef, .undef, .undef, .undef, .undef, .undef, .undef, .undef, .undef, .undef, .undef, .undef], [some (x.2.2.cs B), some (rows QuakeRow.cs x.2.1)], 1⟩) (fun x => 14 - x.1) (0, [], c9) ⟨by simp only []; omega, rfl, fun y hy => by simp at hy, lmonoQ hc9 (by simp only []; omega)⟩ ?_ (fun x hx => ?_)
     · refine Weak.pick [0, 2] (by decide) (fun j hj => by cases j <;> simp_all) ?_ ?_
       · simp [LeG, LeC, LeV, ren, pickF, posOf]
       · simp [pickH, pickB, Cur.ren, ren, rows]
     obtain ⟨n, L2, c10⟩ := x
     obtain ⟨n1, n2, n3, hc10⟩ := hx
     dsimp only at n1 n2 n3 hc10
     simp -implicitDefEqProofs -dsimp only [go_sem]
     refine pick_call hB hc10 (by omega) 2 (by omega) rfl (fun vc11 c11 pvc11 hc11 => ?_)
     have hwp : IntKind.i64.wrap (12 + vc11) = 12 + vc11 := wrap_i64 (by omega) (by omega)
     (repeat ((repeat1' (first | simp -implicitDefEqProofs -dsimp only [go_sem, Cur.ren, map_ren_rows, hwp] | simp -dsimp (disch := omega) only [wrap_i64])); repeat (with_reducible refine sideA ?_)))
     refine condT.split (fun g2 => ?_) (fun g2 => ?_)
     · have hn : n < 13 := by have := of_decide_eq_true g2; omega
       have hw1 : IntKind.i64.wrap ((n : Int) + 1) = ((n + 1 : Nat) : Int) := by rw [wrap_i64 (by omega) (by omega)]; omega
       have hw2 : IntKind.i64.wrap (50 * (n : Int)) = ((50 * n : Nat) : Int) := by rw [wrap_i64 (by omega) (by omega)]; omega
       have hw3 : IntKind.i64.wrap (60 * (n : Int)) = ((60 * n : Nat) : Int) := by rw [wrap_i64 (by omega) (by omega)]; omega
       have hw4 : Int.tmod ((60 * n : Nat) : Int) 700 = ((60 * n % 700 : Nat) : Int) := rfl
       have hsn : rows QuakeRow.cs L2 ++ [.int .i64 ((n + 1 : Nat) : Int), .int .i64 ((50 * n : Nat) : Int), .int .i64 n, .int .i64 0, .int .i64 ((60 * n % 700 : Nat) : Int), .int .i64 0, .int .i64 2] = rows QuakeRow.cs (L2 ++ [⟨((n + 1 : Nat) : Int), ((50 * n : Nat) : Int), n, 0, ((60 * n % 700 : Nat) : Int), 0, 2⟩]) := rows_snoc (cs := QuakeRow.cs) L2 ⟨((n + 1 : Nat) : Int), ((50 * n : Nat) : Int), n, 0, ((60 * n % 700 : Nat) : Int), 0, 2⟩
       (repeat ((repeat1' (first | simp -implicitDefEqProofs -dsimp only [go_sem, g2, hw1, hw2, hw3, hw4, map_ren_rows, Cur.ren, hsn] | simp -dsimp (disch := omega) only [wrap_i64])); repeat (with_reducible refine sideA ?_)))
       refine ⟨(n + 1, L2 ++ [⟨((n + 1 : Nat) : Int), ((50 * n : Nat) : Int), n, 0, ((60 * n % 700 : Nat) : Int), 0, 2⟩], c11), ⟨by simp only []; omega, by simp only [List.length_append, List.length_cons, List.length_nil]; omega, fun y hy => ?_, lmonoQ hc11 (by simp only []; omega)⟩, ?_, by simp only []; omega⟩
       · rcases List.mem_append.1 hy with h | h
         · exact n3 y h
         · rw [List.mem_singleton.1 h]
           exact ⟨⟨by simp only []; omega, by simp only []; omega⟩, ⟨by simp only []; omega, by simp only []; omega⟩, ⟨by simp only []; omega, by simp only []; omega⟩, by simp [i64R], ⟨by simp only []; omega, by simp only []; omega⟩, by simp [i64R], by simp [i64R]⟩
       · refine Weak.cut (2) (by simp) (by simp) ?_ ?_
         · simp [LeC, LeV, ren, cutF]
         · simp [cutH, cutB, Cur.ren, ren, map_ren_rows]
     · (repeat ((repeat1' (first | simp -implicitDefEqProofs -dsimp only [go_sem, g2] | simp -dsimp (disch := omega) only [wrap_i64])); repeat (with_reducible refine sideA ?_)))
       exact bul_fin rfl rfl n3 (by omega) (lmonoQ hc11 (by omega))
   · (repeat ((repeat1' (first | simp -implicitDefEqProofs -dsimp only [go_sem, g1] | simp -dsimp (disch := omega) only [wrap_i64])); repeat (with_reducible refine sideA ?_)))
     exact bul_fin rfl rfl x2 (by omega) (lmonoQ hc9 (by omega))
end Go.Proofs
end
section
set_option maxRecDepth 100000
set_option maxHeartbeats 2000000
namespace Go.Proofs
open Go.Lv
def okQ (L : List QuakeRow) : Prop := (∀ x ∈ L, x.ok) ∧ L.length ≤ 20
def okI (v : Int) : Prop := -10000000 ≤ v ∧ v ≤ 10000000
theorem quo11 {x : Int} (h : 0 ≤ x ∧ (1 ≤ (24 : Int) → x < 24)) : ∃ j : Nat, Int.tdiv x 11 = j ∧ j ≤ 2 := by
 obtain ⟨n, rfl⟩ : ∃ n : Nat, x = n := ⟨x.toNat, by omega⟩
 refine ⟨n / 11, rfl, by omega⟩
theorem curq_le {k : Int} (h : 0 ≤ k) : (Cur.mk 0 0).le k := ⟨by simp, by simpa using h⟩
end Go.Proofs
end
section
set_option maxRecDepth 100000
set_option maxHeartbeats 2000000
namespace Go.Proofs
open Go.Lv
theorem lmono' {c : Cur} {a b : Int} (h : c.le a) (hab : a ≤ b) : c.le b := ⟨h.1, Int.le_trans h.2 hab⟩
def txtP (B : List Int) (b : Nat) (k : Int) (r : V) (hout : Hp) : Prop := ∃ (s : ByteArray) (c : Cur), s.size ≤ b ∧ c.le k ∧ r = .str s ∧ hout = [some (c.cs B)]
theorem txt_fin {B : List Int} {b : Nat} {k : Int} {h : Hp} {x : ByteArray} {c : Cur} (h0 : h[0]? = some (some (c.cs B))) (hx : x.size ≤ b) (hc : c.le k) : RelR 1 (.str x) h (txtP B b k) := by
 refine ⟨_, _, ⟨x, c, hx, hc, rfl, rfl⟩, WeakR.pick [0] (by decide) (fun j hj => by cases j <;> simp_all) (.inl rfl) ?_⟩
 simp only [pickH, List.map_cons, List.map_nil, pickB, h0, Cur.ren]
theorem spoilt_ok {B : List Int} (hB : CB B) {k : Int} (hk : k ≤ 1000000) {c : Cur} (hc : c.le k) (t w : ByteArray) (ht : t.size ≤ 1000000) (hw : 1 ≤ w.size ∧ w.size ≤ 100) : CtrP Tryz.prog 33 [.ptr 0 0, .str t, .str w] [some (c.cs B)] (txtP B (t.size + 1) (k + 20)) := by
 have hcb : ∀ {c' : Cur} {k' : Int}, c'.le k' → k' ≤ 4000000 → c'.le 4611686018427387903 := fun h h' => ⟨h.1, by have := h.2; omega⟩
 refine CtrP.intro Tryz.mixed Tryz.func33 rfl Tryz.okF33 ?_
 simp -implicitDefEqProofs -dsimp only [go_sem, Tryz.ntmps33, Tryz.results33]
 (repeat ((repeat1' (first | simp -implicitDefEqProofs -dsimp only [go_sem] | simp -dsimp (disch := omega) only [wrap_i64])); repeat (with_reducible refine And.intro ?_ ?_; focus (first | omega | with_reducible rfl | (show drawOk _ = true; kernel_rfl) | (simp only [rows_length, rows_cell, List.length_append, List.length_cons, List.length_nil, List.all_append, List.all_cons, List.all_nil, isCell, Nat.mul_one, Nat.one_mul, Bool.and_self]; first | done | omega) | (simp only [ByteArray.size_append, ba_size, List.size_toArray, List.length_cons, List.length_nil]; omega)))))
 refine condT.split (fun h1 => ?_) (fun h1 => ?_)
 · (repeat ((repeat1' (first | simp -implicitDefEqProofs -dsimp only [go_sem, h1] | simp -dsimp (disch := omega) only [wrap_i64])); repeat (with_reducible refine And.intro ?_ ?_; focus (first | omega | with_reducible rfl | (show drawOk _ = true; kernel_rfl) | (simp only [rows_length, rows_cell, List.length_append, List.length_cons, List.length_nil, List.all_append, List.all_cons, List.all_nil, isCell, Nat.mul_one, Nat.one_mul, Bool.and_self]; first | done | omega) | (simp only [ByteArray.size_append, ba_size, List.size_toArray, List.length_cons, List.length_nil]; omega)))))
   exact txt_fin rfl (by rw [ByteArray.size_extract]; omega) (lmono' hc (by omega))
 · (repeat ((repeat1' (first | simp -implicitDefEqProofs -dsimp only [go_sem, h1] | simp -dsimp (disch := omega) only [wrap_i64])); repeat (with_reducible refine And.intro ?_ ?_; focus (first | omega | with_reducible rfl | (show drawOk _ = true; kernel_rfl) | (simp only [rows_length, rows_cell, List.length_append, List.length_cons, List.length_nil, List.all_append, List.all_cons, List.all_nil, isCell, Nat.mul_one, Nat.one_mul, Bool.and_self]; first | done | omega) | (simp only [ByteArray.size_append, ba_size, List.size_toArray, List.length_cons, List.length_nil]; omega)))))
   have ht0 : 0 < t.size := by
     rcases Nat.eq_zero_or_pos t.size with h | h
     · have : t = ByteArray.empty := by
         apply ByteArray.ext
         exact Array.eq_empty_of_size_eq_zero h
       subst this
       simp at h1
     · exact h
   refine pick_call hB hc (by omega) (t.size : Int) (by omega) rfl (fun vc1 c1 pvc1 hc1 => ?_)
   (repeat ((repeat1' (first | simp -implicitDefEqProofs -dsimp only [go_sem, Cur.ren] | simp -dsimp (disch := omega) only [wrap_i64])); repeat (with_reducible refine And.intro ?_ ?_; focus (first | omega | with_reducible rfl | (show drawOk _ = true; kernel_rfl) | (simp only [rows_length, rows_cell, List.length_append, List.length_cons, List.length_nil, List.all_append, List.all_cons, List.all_nil, isCell, Nat.mul_one, Nat.one_mul, Bool.and_self]; first | done | omega) | (simp only [ByteArray.size_append, ba_size, List.size_toArray, List.length_cons, List.length_nil]; omega)))))
   refine pick_call hB hc1 (by omega) (w.size : Int) (by omega) rfl (fun vc2 c2 pvc2 hc2 => ?_)
   (repeat ((repeat1' (first | simp -implicitDefEqProofs -dsimp only [go_sem, Cur.ren] | simp -dsimp (disch := omega) only [wrap_i64])); repeat (with_reducible refine And.intro ?_ ?_; focus (first | omega | with_reducible rfl | (show drawOk _ = true; kernel_rfl) | (simp only [rows_length, rows_cell, List.length_append, List.length_cons, List.length_nil, List.all_append, List.all_cons, List.all_nil, isCell, Nat.mul_one, Nat.one_mul, Bool.and_self]; first | done | omega) | (simp only [ByteArray.size_append, ba_size, List.size_toArray, List.length_cons, List.length_nil]; omega)))))
   obtain ⟨i, hi⟩ : ∃ i : Nat, vc1 = i := ⟨vc1.toNat, by omega⟩
   obtain ⟨j, hj⟩ : ∃ j : Nat, vc2 = j := ⟨vc2.toNat, by omega⟩
   subst hi hj
   have hx0 : (w.extract j w.size).size = w.size - j := by rw [ByteArray.size_extract]; omega
   have hx1 : ((w.extract j w.size).extract 0 1).size = 1 := by rw [ByteArray.size_extract, hx0]; omega
   simp only [Int.toNat_natCast]
   refine ⟨by omega, ?_⟩
   generalize (w.extract j w.size).extract 0 1 = x at hx1 ⊢
   refine pick_call hB hc2 (by omega) 3 (by omega) rfl (fun vc3 c3 pvc3 hc3 => ?_)
   have hi1 : IntKind.i64.wrap ((i : Int) + 1) = ((i + 1 : Nat) : Int) := by rw [wrap_i64 (by omega) (by omega)]; omega
   have e1 : (t.extract 0 i).size = i := by rw [ByteArray.size_extract]; omega
   have e2 : (t.extract i t.size).size = t.size - i := by rw [ByteArray.size_extract]; omega
   have e3 : (t.extract (i + 1) t.size).size = t.size - (i + 1) := by rw [ByteArray.size_extract]; omega
   (repeat ((repeat1' (first | simp -implicitDefEqProofs -dsimp only [go_sem, Cur.ren] | simp -dsimp (disch := omega) only [wrap_i64])); repeat (with_reducible refine And.intro ?_ ?_; focus (first | omega | with_reducible rfl | (show drawOk _ = true; kernel_rfl) | (simp only [rows_length, rows_cell, List.length_append, List.length_cons, List.length_nil, List.all_append, List.all_cons, List.all_nil, isCell, Nat.mul_one, Nat.one_mul, Bool.and_self]; first | done | omega) | (simp only [ByteArray.size_append, ba_size, List.size_toArray, List.length_cons, List.length_nil]; omega)))))
   refine condT.split (fun h2 => ?_) (fun h2 => ?_)
   · (repeat ((repeat1' (first | simp -implicitDefEqProofs -dsimp only [go_sem, h2, hi1, Int.toNat_natCast] | simp -dsimp (disch := omega) only [wrap_i64])); repeat (with_reducible refine And.intro ?_ ?_; focus (first | omega | with_reducible rfl | (show drawOk _ = true; kernel_rfl) | (simp only [rows_length, rows_cell, List.length_append, List.length_cons, List.length_nil, List.all_append, List.all_cons, List.all_nil, isCell, Nat.mul_one, Nat.one_mul, Bool.and_self]; first | done | omega) | (simp only [ByteArray.size_append, ba_size, List.size_toArray, List.length_cons, List.length_nil]; omega)))))
     exact txt_fin rfl (by simp only [ByteArray.size_append]; omega) (lmono' hc3 (by omega))
   · (repeat ((repeat1' (first | simp -implicitDefEqProofs -dsimp only [go_sem, h2] | simp -dsimp (disch := omega) only [wrap_i64])); repeat (with_reducible refine And.intro ?_ ?_; focus (first | omega | with_reducible rfl | (show drawOk _ = true; kernel_rfl) | (simp only [rows_length, rows_cell, List.length_append, List.length_cons, List.length_nil, List.all_append, List.all_cons, List.all_nil, isCell, Nat.mul_one, Nat.one_mul, Bool.and_self]; first | done | omega) | (simp only [ByteArray.size_append, ba_size, List.size_toArray, List.length_cons, List.length_nil]; omega)))))
     refine condT.split (fun h3 => ?_) (fun h3 => ?_)
     · (repeat ((repeat1' (first | simp -implicitDefEqProofs -dsimp only [go_sem, h3, hi1, Int.toNat_natCast] | simp -dsimp (disch := omega) only [wrap_i64])); repeat (with_reducible refine And.intro ?_ ?_; focus (first | omega | with_reducible rfl | (show drawOk _ = true; kernel_rfl) | (simp only [rows_length, rows_cell, List.length_append, List.length_cons, List.length_nil, List.all_append, List.all_cons, List.all_nil, isCell, Nat.mul_one, Nat.one_mul, Bool.and_self]; first | done | omega) | (simp only [ByteArray.size_append, ba_size, List.size_toArray, List.length_cons, List.length_nil]; omega)))))
       exact txt_fin rfl (by simp only [ByteArray.size_append]; omega) (lmono' hc3 (by omega))
     · (repeat ((repeat1' (first | simp -implicitDefEqProofs -dsimp only [go_sem, h3, hi1, Int.toNat_natCast] | simp -dsimp (disch := omega) only [wrap_i64])); repeat (with_reducible refine And.intro ?_ ?_; focus (first | omega | with_reducible rfl | (show drawOk _ = true; kernel_rfl) | (simp only [rows_length, rows_cell, List.length_append, List.length_cons, List.length_nil, List.all_append, List.all_cons, List.all_nil, isCell, Nat.mul_one, Nat.one_mul, Bool.and_self]; first | done | omega) | (simp only [ByteArray.size_append, ba_size, List.size_toArray, List.length_cons, List.length_nil]; omega)))))
       exact txt_fin rfl (by simp only [ByteArray.size_append]; omega) (lmono' hc3 (by omega))
end Go.Proofs
end
section
set_option maxRecDepth 100000
set_option maxHeartbeats 2000000
namespace Go.Proofs
open Go.Lv
def dQRowP (r : V) (hout : Hp) : Prop := ∃ q : QuakeRow, q.ok ∧ r = q.v ∧ hout = []
def dQTxtP (r : V) (hout : Hp) : Prop := ∃ s : ByteArray, s.size ≤ 1000 ∧ r = .str s ∧ hout = []
def dQBulP (r : V) (hout : Hp) : Prop := ∃ L : List QuakeRow, okQ L ∧ r = QuakeRow.sl L ∧ hout = []
def dQLargeP (r : V) (hout : Hp) : Prop := ∃ (L : List QuakeRow) (t : Int), okQ L ∧ okI t ∧ r = .tup [QuakeRow.sl L, .int .i64 t] ∧ hout = []
theorem drawIsQuakeRow_ok {B : List Int} (hB : CB B) : CtrP Tryz.prog 19 [ByteS.sl B] [] dQRowP := by
 have hcb : ∀ {c' : Cur} {k' : Int}, c'.le k' → k' ≤ 4000000 → c'.le 4611686018427387903 := fun h h' => ⟨h.1, by have := h.2; omega⟩
 obtain ⟨c, hcd⟩ : ∃ c : Cur, c = ⟨0, 0⟩ := ⟨_, rfl⟩
 have hc : c.le 0 := by rw [hcd]; exact curq_le (by omega)
 have hcc : c.cs B = [ByteS.sl B, .int .i64 0, .int .u64 0] := by rw [hcd]; rfl
 refine CtrP.intro Tryz.mixed Tryz.func19 rfl Tryz.okF19 ?_
 simp -implicitDefEqProofs -dsimp only [go_sem, Tryz.ntmps19, Tryz.results19]
 (repeat ((repeat1' (first | simp -implicitDefEqProofs -dsimp only [go_sem, ByteS.sl] | simp -dsimp (disch := omega) only [wrap_i64])); repeat (with_reducible refine And.intro ?_ ?_; focus (first | omega | with_reducible rfl | (show drawOk _ = true; kernel_rfl) | (simp only [rows_length, rows_cell, List.length_append, List.length_cons, List.length_nil, List.all_append, List.all_cons, List.all_nil, isCell, Nat.mul_one, Nat.one_mul, Bool.and_self]; first | done | omega) | (simp only [ByteArray.size_append, ba_size, List.size_toArray, List.length_cons, List.length_nil]; omega)))))
 rw [← ByteS.sl, ← hcc]
 refine among_call hB hc (by omega) [1, 42, 9999] (by simp) (by simp) rfl rfl rfl (fun vc1 c1 pvc1 hc1 => ?_)
 (repeat ((repeat1' (first | simp -implicitDefEqProofs -dsimp only [go_sem, Cur.ren, map_ren_rows] | simp -dsimp (disch := omega) only [wrap_i64])); repeat (with_reducible refine And.intro ?_ ?_; focus (first | omega | with_reducible rfl | (show drawOk _ = true; kernel_rfl) | (simp only [rows_length, rows_cell, List.length_append, List.length_cons, List.length_nil, List.all_append, List.all_cons, List.all_nil, isCell, Nat.mul_one, Nat.one_mul, Bool.and_self]; first | done | omega) | (simp only [ByteArray.size_append, ba_size, List.size_toArray, List.length_cons, List.length_nil]; omega)))))
 refine among_call hB hc1 (by omega) [0, 77, 1000000] (by simp) (by simp) rfl rfl rfl (fun vc2 c2 pvc2 hc2 => ?_)
 (repeat ((repeat1' (first | simp -implicitDefEqProofs -dsimp only [go_sem, Cur.ren, map_ren_rows] | simp -dsimp (disch := omega) only [wrap_i64])); repeat (with_reducible refine And.intro ?_ ?_; focus (first | omega | with_reducible rfl | (show drawOk _ = true; kernel_rfl) | (simp only [rows_length, rows_cell, List.length_append, List.length_cons, List.length_nil, List.all_append, List.all_cons, List.all_nil, isCell, Nat.mul_one, Nat.one_mul, Bool.and_self]; first | done | omega) | (simp only [ByteArray.size_append, ba_size, List.size_toArray, List.length_cons, List.length_nil]; omega)))))
 refine callS.rel [1] (quake_ok hB (by omega) hc2 vc1 vc2 (i64M (memR pvc1 (by decide))) (i64M (memR pvc2 (by decide)))) (by decide) ⟨leO, leO, leO, trivial⟩ (lendCur rfl) rfl (fun r hout hΦ => ?_)
 obtain ⟨q, c3, hq, hc3, rfl, rfl⟩ := hΦ
 refine ⟨⟨⟨rfl, rfl⟩, trivial⟩, ?_⟩
 (repeat ((repeat1' (first | simp -implicitDefEqProofs -dsimp only [go_sem, Cur.ren, map_ren_rows, QuakeRow.v] | simp -dsimp (disch := omega) only [wrap_i64])); repeat (with_reducible refine And.intro ?_ ?_; focus (first | omega | with_reducible rfl | (show drawOk _ = true; kernel_rfl) | (simp only [rows_length, rows_cell, List.length_append, List.length_cons, List.length_nil, List.all_append, List.all_cons, List.all_nil, isCell, Nat.mul_one, Nat.one_mul, Bool.and_self]; first | done | omega) | (simp only [ByteArray.size_append, ba_size, List.size_toArray, List.length_cons, List.length_nil]; omega)))))
 exact ⟨_, _, ⟨q, hq, rfl, rfl⟩, WeakR.drop' rfl (by simp [noOwn, rows_noOwn, QuakeRow.v])⟩
theorem drawQuakeLine_ok {B : List Int} (hB : CB B) : CtrP Tryz.prog 5 [ByteS.sl B] [] dQRowP := by
 refine CtrP.intro Tryz.mixed Tryz.func5 rfl Tryz.okF5 ?_
 simp -implicitDefEqProofs -dsimp only [go_sem, Tryz.ntmps5, Tryz.results5]
 (repeat ((repeat1' (first | simp -implicitDefEqProofs -dsimp only [go_sem] | simp -dsimp (disch := omega) only [wrap_i64])); repeat (with_reducible refine And.intro ?_ ?_; focus (first | omega | with_reducible rfl | (show drawOk _ = true; kernel_rfl) | (simp only [rows_length, rows_cell, List.length_append, List.length_cons, List.length_nil, List.all_append, List.all_cons, List.all_nil, isCell, Nat.mul_one, Nat.one_mul, Bool.and_self]; first | done | omega) | (simp only [ByteArray.size_append, ba_size, List.size_toArray, List.length_cons, List.length_nil]; omega)))))
 refine callS.rel [] (drawIsQuakeRow_ok hB) (by decide) ⟨leO, trivial⟩ rfl rfl (fun r hout hΦ => ?_)
 obtain ⟨q, hq, rfl, rfl⟩ := hΦ
 refine ⟨trivial, ?_⟩
 (repeat ((repeat1' (first | simp -implicitDefEqProofs -dsimp only [go_sem, QuakeRow.v] | simp -dsimp (disch := omega) only [wrap_i64])); repeat (with_reducible refine And.intro ?_ ?_; focus (first | omega | with_reducible rfl | (show drawOk _ = true; kernel_rfl) | (simp only [rows_length, rows_cell, List.length_append, List.length_cons, List.length_nil, List.all_append, List.all_cons, List.all_nil, isCell, Nat.mul_one, Nat.one_mul, Bool.and_self]; first | done | omega) | (simp only [ByteArray.size_append, ba_size, List.size_toArray, List.length_cons, List.length_nil]; omega)))))
 exact ⟨_, _, ⟨q, hq, rfl, rfl⟩, WeakR.drop' rfl (by simp [noOwn, rows_noOwn, QuakeRow.v])⟩
theorem qlineR_eq (r : QuakeRow) : ∃ s : ByteArray, qlineR r = .tup [.str s, .bool (qrB r)] ∧ s.size ≤ 400 ∧ (qrB r = true → s = quakeLine r) := by
 unfold qlineR
 cases h : qrB r with
 | true => exact ⟨_, by simp, quakeLine_size h, fun _ => rfl⟩
 | false => exact ⟨ByteArray.empty, by simp, by decide, fun h => by cases h⟩
theorem drawParseQuake_ok {B : List Int} (hB : CB B) : CtrP Tryz.prog 10 [ByteS.sl B] [] dQTxtP := by
 have hcb : ∀ {c' : Cur} {k' : Int}, c'.le k' → k' ≤ 4000000 → c'.le 4611686018427387903 := fun h h' => ⟨h.1, by have := h.2; omega⟩
 obtain ⟨c, hcd⟩ : ∃ c : Cur, c = ⟨0, 0⟩ := ⟨_, rfl⟩
 have hc : c.le 0 := by rw [hcd]; exact curq_le (by omega)
 have hcc : c.cs B = [ByteS.sl B, .int .i64 0, .int .u64 0] := by rw [hcd]; rfl
 refine CtrP.intro Tryz.mixed Tryz.func10 rfl Tryz.okF10 ?_
 simp -implicitDefEqProofs -dsimp only [go_sem, Tryz.ntmps10, Tryz.results10]
 (repeat ((repeat1' (first | simp -implicitDefEqProofs -dsimp only [go_sem, ByteS.sl] | simp -dsimp (disch := omega) only [wrap_i64])); repeat (with_reducible refine And.intro ?_ ?_; focus (first | omega | with_reducible rfl | (show drawOk _ = true; kernel_rfl) | (simp only [rows_length, rows_cell, List.length_append, List.length_cons, List.length_nil, List.all_append, List.all_cons, List.all_nil, isCell, Nat.mul_one, Nat.one_mul, Bool.and_self]; first | done | omega) | (simp only [ByteArray.size_append, ba_size, List.size_toArray, List.length_cons, List.length_nil]; omega)))))
 rw [← ByteS.sl, ← hcc]
 refine callS.rel [] (drawIsQuakeRow_ok hB) (by decide) ⟨leO, trivial⟩ rfl rfl (fun r hout hΦ => ?_)
 obtain ⟨q, hq, rfl, rfl⟩ := hΦ
 refine ⟨trivial, ?_⟩
 (repeat ((repeat1' (first | simp -implicitDefEqProofs -dsimp only [go_sem, QuakeRow.v] | simp -dsimp (disch := omega) only [wrap_i64])); repeat (with_reducible refine And.intro ?_ ?_; focus (first | omega | with_reducible rfl | (show drawOk _ = true; kernel_rfl) | (simp only [rows_length, rows_cell, List.length_append, List.length_cons, List.length_nil, List.all_append, List.all_cons, List.all_nil, isCell, Nat.mul_one, Nat.one_mul, Bool.and_self]; first | done | omega) | (simp only [ByteArray.size_append, ba_size, List.size_toArray, List.length_cons, List.length_nil]; omega)))))
 obtain ⟨s, e, hs, _⟩ := qlineR_eq q
 have hl := sQuakeLine_ok q
 rw [e] at hl
 (first | refine callT.at (hl) ⟨leA, trivial⟩ ?_ | refine callS.at (hl) ⟨leA, trivial⟩ ?_)
 (repeat ((repeat1' (first | simp -implicitDefEqProofs -dsimp only [go_sem] | simp -dsimp (disch := omega) only [wrap_i64])); repeat (with_reducible refine And.intro ?_ ?_; focus (first | omega | with_reducible rfl | (show drawOk _ = true; kernel_rfl) | (simp only [rows_length, rows_cell, List.length_append, List.length_cons, List.length_nil, List.all_append, List.all_cons, List.all_nil, isCell, Nat.mul_one, Nat.one_mul, Bool.and_self]; first | done | omega) | (simp only [ByteArray.size_append, ba_size, List.size_toArray, List.length_cons, List.length_nil]; omega)))))
 refine one_call hB hc (by omega) 3 (by omega) rfl (fun vc1 c1 hc1 => ?_)
 (repeat ((repeat1' (first | simp -implicitDefEqProofs -dsimp only [go_sem, Cur.ren, map_ren_rows] | simp -dsimp (disch := omega) only [wrap_i64])); repeat (with_reducible refine And.intro ?_ ?_; focus (first | omega | with_reducible rfl | (show drawOk _ = true; kernel_rfl) | (simp only [rows_length, rows_cell, List.length_append, List.length_cons, List.length_nil, List.all_append, List.all_cons, List.all_nil, isCell, Nat.mul_one, Nat.one_mul, Bool.and_self]; first | done | omega) | (simp only [ByteArray.size_append, ba_size, List.size_toArray, List.length_cons, List.length_nil]; omega)))))
 refine condT.split (fun h1 => ?_) (fun h1 => ?_) <;> (repeat ((repeat1' (first | simp -implicitDefEqProofs -dsimp only [go_sem, h1] | simp -dsimp (disch := omega) only [wrap_i64])); repeat (with_reducible refine And.intro ?_ ?_; focus (first | omega | with_reducible rfl | (show drawOk _ = true; kernel_rfl) | (simp only [rows_length, rows_cell, List.length_append, List.length_cons, List.length_nil, List.all_append, List.all_cons, List.all_nil, isCell, Nat.mul_one, Nat.one_mul, Bool.and_self]; first | done | omega) | (simp only [ByteArray.size_append, ba_size, List.size_toArray, List.length_cons, List.length_nil]; omega)))))
 · refine callS.rel [0] (spoilt_ok hB (by omega) hc1 s ⟨#[48, 46, 45, 32, 44, 65]⟩ (by omega) (by decide)) (by decide) ⟨leO, leO, leO, trivial⟩ (lendCur rfl) rfl (fun r hout hΦ => ?_)
   obtain ⟨x, c2, hx, hc2, rfl, rfl⟩ := hΦ
   refine ⟨⟨⟨rfl, rfl⟩, trivial⟩, ?_⟩
   (repeat ((repeat1' (first | simp -implicitDefEqProofs -dsimp only [go_sem, Cur.ren, map_ren_rows] | simp -dsimp (disch := omega) only [wrap_i64])); repeat (with_reducible refine And.intro ?_ ?_; focus (first | omega | with_reducible rfl | (show drawOk _ = true; kernel_rfl) | (simp only [rows_length, rows_cell, List.length_append, List.length_cons, List.length_nil, List.all_append, List.all_cons, List.all_nil, isCell, Nat.mul_one, Nat.one_mul, Bool.and_self]; first | done | omega) | (simp only [ByteArray.size_append, ba_size, List.size_toArray, List.length_cons, List.length_nil]; omega)))))
   exact ⟨_, _, ⟨x, by omega, rfl, rfl⟩, WeakR.drop' rfl (by simp [noOwn, rows_noOwn])⟩
 · exact ⟨_, _, ⟨s, by omega, rfl, rfl⟩, WeakR.drop' rfl (by simp [noOwn, rows_noOwn])⟩
theorem drawIsBulletin_ok {B : List Int} (hB : CB B) : CtrP Tryz.prog 41 [ByteS.sl B] [] dQBulP := by
 have hcb : ∀ {c' : Cur} {k' : Int}, c'.le k' → k' ≤ 4000000 → c'.le 4611686018427387903 := fun h h' => ⟨h.1, by have := h.2; omega⟩
 obtain ⟨c, hcd⟩ : ∃ c : Cur, c = ⟨0, 0⟩ := ⟨_, rfl⟩
 have hc : c.le 0 := by rw [hcd]; exact curq_le (by omega)
 have hcc : c.cs B = [ByteS.sl B, .int .i64 0, .int .u64 0] := by rw [hcd]; rfl
 refine CtrP.intro Tryz.mixed Tryz.func41 rfl Tryz.okF41 ?_
 simp -implicitDefEqProofs -dsimp only [go_sem, Tryz.ntmps41, Tryz.results41]
 (repeat ((repeat1' (first | simp -implicitDefEqProofs -dsimp only [go_sem, ByteS.sl] | simp -dsimp (disch := omega) only [wrap_i64])); repeat (with_reducible refine And.intro ?_ ?_; focus (first | omega | with_reducible rfl | (show drawOk _ = true; kernel_rfl) | (simp only [rows_length, rows_cell, List.length_append, List.length_cons, List.length_nil, List.all_append, List.all_cons, List.all_nil, isCell, Nat.mul_one, Nat.one_mul, Bool.and_self]; first | done | omega) | (simp only [ByteArray.size_append, ba_size, List.size_toArray, List.length_cons, List.length_nil]; omega)))))
 rw [← ByteS.sl, ← hcc]
 refine callS.rel [0] (bulletin_ok hB (by omega) hc) (by decide) ⟨leO, trivial⟩ (lendCur rfl) rfl (fun r hout hΦ => ?_)
 obtain ⟨L, c1, x1, x2, hc1, rfl, rfl⟩ := hΦ
 refine ⟨⟨⟨rfl, rfl⟩, trivial⟩, ?_⟩
 (repeat ((repeat1' (first | simp -implicitDefEqProofs -dsimp only [go_sem, Cur.ren, map_ren_rows] | simp -dsimp (disch := omega) only [wrap_i64])); repeat (with_reducible refine And.intro ?_ ?_; focus (first | omega | with_reducible rfl | (show drawOk _ = true; kernel_rfl) | (simp only [rows_length, rows_cell, List.length_append, List.length_cons, List.length_nil, List.all_append, List.all_cons, List.all_nil, isCell, Nat.mul_one, Nat.one_mul, Bool.and_self]; first | done | omega) | (simp only [ByteArray.size_append, ba_size, List.size_toArray, List.length_cons, List.length_nil]; omega)))))
 exact ⟨_, _, ⟨L, ⟨x1, x2⟩, rfl, rfl⟩, WeakR.drop' rfl (by simp [noOwn, rows_noOwn])⟩
theorem drawBulletinText_ok {B : List Int} (hB : CB B) : CtrP Tryz.prog 15 [ByteS.sl B] [] dQBulP := by
 refine CtrP.intro Tryz.mixed Tryz.func15 rfl Tryz.okF15 ?_
 simp -implicitDefEqProofs -dsimp only [go_sem, Tryz.ntmps15, Tryz.results15]
 (repeat ((repeat1' (first | simp -implicitDefEqProofs -dsimp only [go_sem] | simp -dsimp (disch := omega) only [wrap_i64])); repeat (with_reducible refine And.intro ?_ ?_; focus (first | omega | with_reducible rfl | (show drawOk _ = true; kernel_rfl) | (simp only [rows_length, rows_cell, List.length_append, List.length_cons, List.length_nil, List.all_append, List.all_cons, List.all_nil, isCell, Nat.mul_one, Nat.one_mul, Bool.and_self]; first | done | omega) | (simp only [ByteArray.size_append, ba_size, List.size_toArray, List.length_cons, List.length_nil]; omega)))))
 refine callS.rel [] (drawIsBulletin_ok hB) (by decide) ⟨leO, trivial⟩ rfl rfl (fun r hout hΦ => ?_)
 obtain ⟨L, hL, rfl, rfl⟩ := hΦ
 refine ⟨trivial, ?_⟩
 (repeat ((repeat1' (first | simp -implicitDefEqProofs -dsimp only [go_sem] | simp -dsimp (disch := omega) only [wrap_i64])); repeat (with_reducible refine And.intro ?_ ?_; focus (first | omega | with_reducible rfl | (show drawOk _ = true; kernel_rfl) | (simp only [rows_length, rows_cell, List.length_append, List.length_cons, List.length_nil, List.all_append, List.all_cons, List.all_nil, isCell, Nat.mul_one, Nat.one_mul, Bool.and_self]; first | done | omega) | (simp only [ByteArray.size_append, ba_size, List.size_toArray, List.length_cons, List.length_nil]; omega)))))
 exact ⟨_, _, ⟨L, hL, rfl, rfl⟩, WeakR.drop' rfl (by simp [noOwn, rows_noOwn])⟩
theorem wrap5' {j : Nat} (h : j ≤ 2) : IntKind.i64.wrap (5 + (j : Int)) = ((5 + j : Nat) : Int) := by
 rw [wrap_i64 (by omega) (by omega)]; omega
theorem drawLargestSince_ok {B : List Int} (hB : CB B) : CtrP Tryz.prog 12 [ByteS.sl B] [] dQLargeP := by
 have hcb : ∀ {c' : Cur} {k' : Int}, c'.le k' → k' ≤ 4000000 → c'.le 4611686018427387903 := fun h h' => ⟨h.1, by have := h.2; omega⟩
 obtain ⟨c, hcd⟩ : ∃ c : Cur, c = ⟨0, 0⟩ := ⟨_, rfl⟩
 have hc : c.le 0 := by rw [hcd]; exact curq_le (by omega)
 have hcc : c.cs B = [ByteS.sl B, .int .i64 0, .int .u64 0] := by rw [hcd]; rfl
 refine CtrP.intro Tryz.mixed Tryz.func12 rfl Tryz.okF12 ?_
 simp -implicitDefEqProofs -dsimp only [go_sem, Tryz.ntmps12, Tryz.results12]
 (repeat ((repeat1' (first | simp -implicitDefEqProofs -dsimp only [go_sem, ByteS.sl] | simp -dsimp (disch := omega) only [wrap_i64])); repeat (with_reducible refine And.intro ?_ ?_; focus (first | omega | with_reducible rfl | (show drawOk _ = true; kernel_rfl) | (simp only [rows_length, rows_cell, List.length_append, List.length_cons, List.length_nil, List.all_append, List.all_cons, List.all_nil, isCell, Nat.mul_one, Nat.one_mul, Bool.and_self]; first | done | omega) | (simp only [ByteArray.size_append, ba_size, List.size_toArray, List.length_cons, List.length_nil]; omega)))))
 rw [← ByteS.sl, ← hcc]
 refine callS.rel [0] (bulletin_ok hB (by omega) hc) (by decide) ⟨leO, trivial⟩ (lendCur rfl) rfl (fun r hout hΦ => ?_)
 obtain ⟨L, c1, x1, x2, hc1, rfl, rfl⟩ := hΦ
 refine ⟨⟨⟨rfl, rfl⟩, trivial⟩, ?_⟩
 (repeat ((repeat1' (first | simp -implicitDefEqProofs -dsimp only [go_sem, Cur.ren, map_ren_rows] | simp -dsimp (disch := omega) only [wrap_i64])); repeat (with_reducible refine And.intro ?_ ?_; focus (first | omega | with_reducible rfl | (show drawOk _ = true; kernel_rfl) | (simp only [rows_length, rows_cell, List.length_append, List.length_cons, List.length_nil, List.all_append, List.all_cons, List.all_nil, isCell, Nat.mul_one, Nat.one_mul, Bool.and_self]; first | done | omega) | (simp only [ByteArray.size_append, ba_size, List.size_toArray, List.length_cons, List.length_nil]; omega)))))
 refine pick_call hB hc1 (by omega) 24 (by omega) rfl (fun vc2 c2 pvc2 hc2 => ?_)
 obtain ⟨j1, hj1, hjb1⟩ := quo11 pvc2
 have hw1 := wrap5' hjb1
 (repeat ((repeat1' (first | simp -implicitDefEqProofs -dsimp only [go_sem, Cur.ren, map_ren_rows, hj1, hw1] | simp -dsimp (disch := omega) only [wrap_i64])); repeat (with_reducible refine And.intro ?_ ?_; focus (first | omega | with_reducible rfl | (show drawOk _ = true; kernel_rfl) | (simp only [rows_length, rows_cell, List.length_append, List.length_cons, List.length_nil, List.all_append, List.all_cons, List.all_nil, isCell, Nat.mul_one, Nat.one_mul, Bool.and_self]; first | done | omega) | (simp only [ByteArray.size_append, ba_size, List.size_toArray, List.length_cons, List.length_nil]; omega)))))
 have e1 : (5 + (j1 : Int)).toNat - 0 = 5 + j1 := by omega
 simp only [e1]
 have pc3 := amongN_ok hB (hcb hc2 (by omega)) [0, 100, 301, 990000, 1000000, -1, 1000001] (n := (5 + j1)) (by omega) (by simp only [List.length_cons, List.length_nil]; omega) (by simp); have hc3 := pickC_le (B := B) (n := (((5 + j1) : Nat) : Int)) hc2; have pvc3 := amongNV_mem hB (K := [0, 100, 301, 990000, 1000000, -1, 1000001]) (n := (5 + j1)) (by omega) (by simp only [List.length_cons, List.length_nil]; omega) hc2.1; generalize amongNV B [0, 100, 301, 990000, 1000000, -1, 1000001] (5 + j1) c2 = vc3 at pc3 pvc3; generalize pickC B (((5 + j1) : Nat) : Int) c2 = c3 at pc3 hc3; (first | refine callS.lend [0, 1] false pc3 (by decide) ⟨leO, leO, trivial⟩ (lendCur2 rfl rfl) (growCur2 B _ _) (.inl rfl) ?_)
 (repeat ((repeat1' (first | simp -implicitDefEqProofs -dsimp only [go_sem, Cur.ren, map_ren_rows] | simp -dsimp (disch := omega) only [wrap_i64])); repeat (with_reducible refine And.intro ?_ ?_; focus (first | omega | with_reducible rfl | (show drawOk _ = true; kernel_rfl) | (simp only [rows_length, rows_cell, List.length_append, List.length_cons, List.length_nil, List.all_append, List.all_cons, List.all_nil, isCell, Nat.mul_one, Nat.one_mul, Bool.and_self]; first | done | omega) | (simp only [ByteArray.size_append, ba_size, List.size_toArray, List.length_cons, List.length_nil]; omega)))))
 exact ⟨_, _, ⟨L, vc3, ⟨x1, x2⟩, memR pvc3 (by decide), rfl, rfl⟩, WeakR.drop' rfl (by simp [noOwn, rows_noOwn])⟩
end Go.Proofs
end
section
set_option maxRecDepth 100000
set_option maxHeartbeats 4000000
namespace Go.Proofs
open Go.Lv
--IF laws.rBig
theorem rBig_ok (L : List Int) : Ctr Tryz.prog 4 [ByteS.sl L] [] (.bool (decide (65536 < (L.length : Int)))) [] := by
 refine Ctr.intro Tryz.mixed Tryz.func4 rfl Tryz.okF4 ?_
 simp -implicitDefEqProofs -dsimp only [go_sem, Tryz.ntmps4, Tryz.results4]
 (repeat ((repeat1' (first | simp -implicitDefEqProofs -dsimp only [go_sem] | simp -dsimp (disch := omega) only [wrap_i64])); repeat (with_reducible refine sideA ?_)))
 exact WeakR.drop' rfl (by rfl)
theorem parseV_eq (s : ByteArray) : ∃ (q : QuakeRow) (b : Bool), parseV s = .tup [q.v, .bool b] ∧ (∀ r, qrB r = true → s = quakeLine r → q = r ∧ b = true) := by
 unfold parseV
 cases h : parseR s with
 | none =>
   refine ⟨_, _, rfl, fun r h1 h2 => ?_⟩
   rw [parseR_some h1 h2.symm] at h; cases h
 | some q =>
   refine ⟨_, _, rfl, fun r h1 h2 => ⟨?_, rfl⟩⟩
   rw [parseR_some h1 h2.symm] at h
   exact (Option.some.inj h).symm
theorem fnBulletinsLaw_ok (L : List Int) (hL : lstR ByteS.ok L) : Ctr Tryz.prog 3 [ByteS.sl L] [] (.bool true) [] := by
 have hB : CB L := hL
 refine Ctr.intro Tryz.mixed Tryz.func3 rfl Tryz.okF3 ?_
 simp -implicitDefEqProofs -dsimp only [go_sem, Tryz.ntmps3, Tryz.results3]
 (repeat ((repeat1' (first | simp -implicitDefEqProofs -dsimp only [go_sem] | simp -dsimp (disch := omega) only [wrap_i64])); repeat (with_reducible refine sideA ?_)))
 (first | refine callT.at (rBig_ok L) ⟨leA, trivial⟩ ?_ | refine callS.at (rBig_ok L) ⟨leA, trivial⟩ ?_)
 (repeat ((repeat1' (first | simp -implicitDefEqProofs -dsimp only [go_sem] | simp -dsimp (disch := omega) only [wrap_i64])); repeat (with_reducible refine sideA ?_)))
 refine condT.split (fun h1 => ?_) (fun h1 => ?_) <;> (repeat ((repeat1' (first | simp -implicitDefEqProofs -dsimp only [go_sem, h1] | simp -dsimp (disch := omega) only [wrap_i64])); repeat (with_reducible refine sideA ?_)))
 · exact WeakR.drop' rfl (by rfl)
 refine callS.rel [] (drawQuakeLine_ok hB) (by decide) ⟨leO, trivial⟩ rfl rfl (fun r hout hΦ => ?_)
 obtain ⟨r, hr0, rfl, rfl⟩ := hΦ
 refine ⟨trivial, ?_⟩
 (repeat ((repeat1' (first | simp -implicitDefEqProofs -dsimp only [go_sem, QuakeRow.v] | simp -dsimp (disch := omega) only [wrap_i64])); repeat (with_reducible refine sideA ?_)))
 obtain ⟨s, e, hs, hsl⟩ := qlineR_eq r
 have il := iQuakeLine_ok r
 have sl := sQuakeLine_ok r
 have iq := iIsQuakeRow_ok r
 rw [e] at il sl
 have ip := iParseQuake_ok s (by omega)
 obtain ⟨q, b, ep, hp⟩ := parseV_eq s
 rw [ep] at ip
 have hp' := hp r
 cases hqr : qrB r with
 | false =>
   rw [hqr] at il sl iq
   (first | refine callT.at (il) ⟨leA, trivial⟩ ?_ | refine callS.at (il) ⟨leA, trivial⟩ ?_)
   (repeat ((repeat1' (first | simp -implicitDefEqProofs -dsimp only [go_sem, QuakeRow.v] | simp -dsimp (disch := omega) only [wrap_i64])); repeat (with_reducible refine sideA ?_)))
   (first | refine callT.at (sl) ⟨leA, trivial⟩ ?_ | refine callS.at (sl) ⟨leA, trivial⟩ ?_)
   (repeat ((repeat1' (first | simp -implicitDefEqProofs -dsimp only [go_sem, QuakeRow.v] | simp -dsimp (disch := omega) only [wrap_i64])); repeat (with_reducible refine sideA ?_)))
   (first | refine callT.at (iq) ⟨leA, trivial⟩ ?_ | refine callS.at (iq) ⟨leA, trivial⟩ ?_)
   (repeat ((repeat1' (first | simp -implicitDefEqProofs -dsimp only [go_sem, QuakeRow.v] | simp -dsimp (disch := omega) only [wrap_i64])); repeat (with_reducible refine sideA ?_)))
   (first | refine callT.at (ip) ⟨leA, trivial⟩ ?_ | refine callS.at (ip) ⟨leA, trivial⟩ ?_)
   (repeat ((repeat1' (first | simp -implicitDefEqProofs -dsimp only [go_sem, QuakeRow.v] | simp -dsimp (disch := omega) only [wrap_i64])); repeat (with_reducible refine sideA ?_)))
   refine callS.rel [] (drawParseQuake_ok hB) (by decide) ⟨leO, trivial⟩ rfl rfl (fun r hout hΦ => ?_)
   obtain ⟨t, ht, rfl, rfl⟩ := hΦ
   refine ⟨trivial, ?_⟩
   (repeat ((repeat1' (first | simp -implicitDefEqProofs -dsimp only [go_sem] | simp -dsimp (disch := omega) only [wrap_i64])); repeat (with_reducible refine sideA ?_)))
   have ipt := iParseQuake_ok t (by omega)
   have spt := sParseQuake_ok t (by omega)
   obtain ⟨p, pb, ept, _⟩ := parseV_eq t
   rw [ept] at ipt spt
   (first | refine callT.at (ipt) ⟨leA, trivial⟩ ?_ | refine callS.at (ipt) ⟨leA, trivial⟩ ?_)
   (repeat ((repeat1' (first | simp -implicitDefEqProofs -dsimp only [go_sem, QuakeRow.v] | simp -dsimp (disch := omega) only [wrap_i64])); repeat (with_reducible refine sideA ?_)))
   (first | refine callT.at (spt) ⟨leA, trivial⟩ ?_ | refine callS.at (spt) ⟨leA, trivial⟩ ?_)
   (repeat ((repeat1' (first | simp -implicitDefEqProofs -dsimp only [go_sem, QuakeRow.v] | simp -dsimp (disch := omega) only [wrap_i64])); repeat (with_reducible refine sideA ?_)))
   refine callS.rel [] (drawLargestSince_ok hB) (by decide) ⟨leO, trivial⟩ rfl rfl (fun r hout hΦ => ?_)
   obtain ⟨L3, tk, hL3, htk, rfl, rfl⟩ := hΦ
   refine ⟨trivial, ?_⟩
   (repeat ((repeat1' (first | simp -implicitDefEqProofs -dsimp only [go_sem] | simp -dsimp (disch := omega) only [wrap_i64])); repeat (with_reducible refine sideA ?_)))
   have ila := iLargestSince_ok L3 tk (by have := hL3.2; omega)
   have sla := sLargestSince_ok L3 tk (by have := hL3.2; omega)
   obtain ⟨bst, told, ela, hla⟩ := largeR_eq L3 tk
   rw [ela] at ila sla
   (first | refine callT.at (ila) ⟨leA, leA, trivial⟩ ?_ | refine callS.at (ila) ⟨leA, leA, trivial⟩ ?_)
   (repeat ((repeat1' (first | simp -implicitDefEqProofs -dsimp only [go_sem] | simp -dsimp (disch := omega) only [wrap_i64])); repeat (with_reducible refine sideA ?_)))
   (first | refine callT.at (sla) ⟨leA, leA, trivial⟩ ?_ | refine callS.at (sla) ⟨leA, leA, trivial⟩ ?_)
   (repeat ((repeat1' (first | simp -implicitDefEqProofs -dsimp only [go_sem] | simp -dsimp (disch := omega) only [wrap_i64])); repeat (with_reducible refine sideA ?_)))
   have hl3 := hL3.2
   refine LoopT.intro (fun i : Nat => i ≤ L3.length) (fun i => ⟨[ByteS.sl L, .undef, .undef, .undef, .undef, .undef, .undef, .undef, .undef, .undef, .undef, .undef, .undef, .undef, .undef, QuakeRow.sl L3, .int .i64 tk, .int .i64 bst, .bool told, .undef, .undef, .int .i64 i, .undef, .undef, .undef, .undef, .undef, .undef, .undef, .undef, .undef, .undef, .undef, .undef, .undef, .undef, .undef, .undef, .undef, .undef, .undef, .undef, .undef, .undef, .undef, .undef, .undef, .undef, .undef, .undef, .undef, .undef, .undef, .undef, .undef, .undef, .undef, .undef, .undef, .undef, .undef, .undef, .undef, .undef, .undef, .undef, .undef, .undef, .undef, .undef, .undef, .undef, .undef, .undef, .undef, .undef, .undef, .undef, .undef, .undef, .undef, .undef, .undef, .undef, .undef, .undef, .undef, .undef, .undef, .undef, .undef, .undef, .undef, .undef, .undef, .undef, .undef, .undef, .undef, .undef, .undef, .undef, .undef, .undef, .undef, .undef, .undef, .undef, .undef, .undef, .undef, .undef, .undef, .undef, .undef, .undef, .undef, .undef, .undef, .undef, .undef, .undef, .undef, .undef, .undef, .undef, .undef, .undef, .undef, .undef, .undef, .undef, .undef, .undef, .undef, .undef, .undef, .undef, .undef, .undef, .undef, .undef, .undef, .undef, .undef, .undef, .undef, .undef, .undef, .undef, .undef, .undef, .undef, .undef, .undef, .undef, .undef, .undef, .undef, .undef, .undef, .undef, .undef, .undef, .undef, .undef, .undef, .undef, .undef, .undef, .undef, .undef, .undef, .undef, .undef, .undef, .undef, .undef, .undef, .undef, .undef, .undef, .undef, .undef, .undef, .undef, .undef, .undef, .undef, .undef, .undef, .undef, .undef, .undef, .undef, .undef, .undef, .undef, .undef, .undef, .undef, .undef, .undef, .undef, .undef, .undef, .undef, .undef, .undef, .undef, .undef, .undef, .undef, .undef, .undef, .undef, .undef], [], 0⟩) (fun i => L3.length - i) 0 (Nat.zero_le _) ?_ (fun i hi => ?_)
   · refine Weak.cut (0) (by simp) (by simp) ?_ ?_
     · simp [LeC, LeV, ren, cutF]
     · rfl
   by_cases hil : i < L3.length
   · have hd : decide ((i : Int) < (L3.length : Int)) = true := decide_eq_true (by omega)
     have hw1 : IntKind.i64.wrap ((i : Int) + 1) = ((i + 1 : Nat) : Int) := by rw [wrap_i64 (by omega) (by omega)]; omega
     cases told with
     | false =>
       (repeat ((repeat1' (first | simp -implicitDefEqProofs -dsimp only [go_sem, hd] | simp -dsimp (disch := omega) only [wrap_i64])); repeat (with_reducible refine sideA ?_)))
       refine callS.rel [] (drawBulletinText_ok hB) (by decide) ⟨leO, trivial⟩ rfl rfl (fun r hout hΦ => ?_)
       obtain ⟨L4, hL4, rfl, rfl⟩ := hΦ
       refine ⟨trivial, ?_⟩
       (repeat ((repeat1' (first | simp -implicitDefEqProofs -dsimp only [go_sem] | simp -dsimp (disch := omega) only [wrap_i64])); repeat (with_reducible refine sideA ?_)))
       have ib := iBulletinText_ok L4 (by have := hL4.2; omega)
       have sb := sBulletinText_ok L4 (by have := hL4.2; omega)
       have iv := iIsBulletin_ok L4 (by have := hL4.2; omega)
       obtain ⟨tx, ex, hnl, htx⟩ := bulTextR_eq L4
       rw [ex] at ib sb
       generalize bulB L4 = kb at *
       (first | refine callT.at (ib) ⟨leA, trivial⟩ ?_ | refine callS.at (ib) ⟨leA, trivial⟩ ?_)
       (repeat ((repeat1' (first | simp -implicitDefEqProofs -dsimp only [go_sem] | simp -dsimp (disch := omega) only [wrap_i64])); repeat (with_reducible refine sideA ?_)))
       (first | refine callT.at (sb) ⟨leA, trivial⟩ ?_ | refine callS.at (sb) ⟨leA, trivial⟩ ?_)
       (repeat ((repeat1' (first | simp -implicitDefEqProofs -dsimp only [go_sem] | simp -dsimp (disch := omega) only [wrap_i64])); repeat (with_reducible refine sideA ?_)))
       (first | refine callT.at (iv) ⟨leA, trivial⟩ ?_ | refine callS.at (iv) ⟨leA, trivial⟩ ?_)
       (repeat ((repeat1' (first | simp -implicitDefEqProofs -dsimp only [go_sem] | simp -dsimp (disch := omega) only [wrap_i64])); repeat (with_reducible refine sideA ?_)))
       refine LoopT.intro (fun i : Nat => i ≤ tx.size) (fun i => ⟨[.undef, .undef, .undef, .undef, .undef, .undef, .undef, .undef, .undef, .undef, .undef, .undef, .undef, .undef, .undef, .undef, .undef, .undef, .undef, .undef, .undef, .undef, .undef, QuakeRow.sl L4, .str tx, .bool kb, .undef, .undef, .int .i64 (nlTo tx i), .int .i64 i, .undef, .undef, .undef, .undef, .undef, .undef, .undef, .undef, .undef, .undef, .undef, .undef, .undef, .undef, .undef, .undef, .undef, .undef, .undef, .undef, .undef, .undef, .undef, .undef, .undef, .undef, .undef, .undef, .undef, .undef, .undef, .undef, .undef, .undef, .undef, .undef, .undef, .undef, .undef, .undef, .undef, .undef, .undef, .undef, .undef, .undef, .undef, .undef, .undef, .undef, .undef, .undef, .undef, .undef, .undef, .undef, .undef, .undef, .undef, .undef, .undef, .undef, .undef, .undef, .undef, .undef, .undef, .undef, .undef, .undef, .undef, .undef, .undef, .undef, .undef, .undef, .undef, .undef, .undef, .undef, .undef, .undef, .undef, .undef, .undef, .undef, .undef, .undef, .undef, .undef, .undef, .undef, .undef, .undef, .undef, .undef, .undef, .undef, .undef, .undef, .undef, .undef, .undef, .undef, .undef, .undef, .undef, .undef, .undef, .undef, .undef, .undef, .undef, .undef, .undef, .undef, .undef, .undef, .undef, .undef, .undef, .undef, .undef, .undef, .undef, .undef, .undef, .undef, .undef, .undef, .undef, .undef, .undef, .undef, .undef, .undef, .undef, .undef, .undef, .undef, .undef, .undef, .undef, .undef, .undef, .undef, .undef, .undef, .undef, .undef, .undef, .undef, .undef, .undef, .undef, .undef, .undef, .undef, .undef, .undef, .undef, .undef, .undef, .undef, .undef, .undef, .undef, .undef, .undef, .undef, .undef, .undef, .undef, .undef, .undef, .undef, .undef, .undef, .undef, .undef, .undef, .undef, .undef, .undef, .undef, .undef, .undef], [], 0⟩) (fun i => tx.size - i) 0 (Nat.zero_le _) ?_ (fun i hi => ?_)
       · refine Weak.cut (0) (by simp) (by simp) ?_ ?_
         · simp [LeC, LeV, ren, cutF, nlTo]
         · rfl
       have hnt := nlTo_le tx i
       simp -implicitDefEqProofs -dsimp only [go_sem]
       refine condT.split (fun g1 => ?_) (fun g1 => ?_)
       · have hi' : i < tx.size := by simpa using g1
         have hsc := nlTo_succ hi'
         (repeat ((repeat1' (first | simp -implicitDefEqProofs -dsimp only [go_sem, g1] | simp -dsimp (disch := omega) only [wrap_i64])); repeat (with_reducible refine sideA ?_)))
         refine ⟨⟨by omega, by omega⟩, ?_⟩
         refine condT.split (fun g2 => ?_) (fun g2 => ?_)
         · rw [if_pos g2] at hsc
           (repeat ((repeat1' (first | simp -implicitDefEqProofs -dsimp only [go_sem, g2] | simp -dsimp (disch := omega) only [wrap_i64])); repeat (with_reducible refine sideA ?_)))
           refine ⟨i + 1, hi', ?_, by omega⟩
           refine Weak.cut (0) (by simp) (by simp) ?_ ?_
           · simp [LeC, LeV, ren, cutF, hsc]
           · rfl
         · rw [if_neg (by rw [g2]; decide)] at hsc
           (repeat ((repeat1' (first | simp -implicitDefEqProofs -dsimp only [go_sem, g2] | simp -dsimp (disch := omega) only [wrap_i64])); repeat (with_reducible refine sideA ?_)))
           refine ⟨i + 1, hi', ?_, by omega⟩
           refine Weak.cut (0) (by simp) (by simp) ?_ ?_
           · simp [LeC, LeV, ren, cutF, hsc]
           · rfl
       have hi' : i = tx.size := by simp at g1; omega
       subst hi'
       rw [nlTo_all]
       (repeat ((repeat1' (first | simp -implicitDefEqProofs -dsimp only [go_sem, g1] | simp -dsimp (disch := omega) only [wrap_i64])); repeat (with_reducible refine sideA ?_)))
       cases kb with
       | false =>
         (repeat ((repeat1' (first | simp -implicitDefEqProofs -dsimp only [go_sem] | simp -dsimp (disch := omega) only [wrap_i64])); repeat (with_reducible refine sideA ?_)))
         exact WeakR.drop' (by simp) (by rfl)
       | true =>
         rw [hnl rfl]
         (repeat ((repeat1' (first | simp -implicitDefEqProofs -dsimp only [go_sem] | simp -dsimp (disch := omega) only [wrap_i64])); repeat (with_reducible refine sideA ?_)))
         exact WeakR.drop' (by simp) (by rfl)
     | true =>
       have hr := rows_at QuakeRow.csl hil
       (repeat ((repeat1' (first | simp -implicitDefEqProofs -dsimp only [go_sem, hd] | simp -dsimp (disch := omega) only [wrap_i64])); repeat (with_reducible refine sideA ?_)))
       refine LoopT.intro (fun k : Nat => k ≤ L3.length) (fun k => ⟨[ByteS.sl L, .undef, .undef, .undef, .undef, .undef, .undef, .undef, .undef, .undef, .undef, .undef, .undef, .undef, .undef, QuakeRow.sl L3, .int .i64 tk, .int .i64 bst, .bool true, .undef, .undef, .int .i64 i, .int .i64 k, .undef, .undef, .undef, .undef, .undef, .undef, .undef, .undef, .undef, .undef, .undef, .undef, .undef, .undef, .undef, .undef, .undef, .undef, .undef, .undef, .undef, .undef, .undef, .undef, .undef, .undef, .undef, .undef, .undef, .undef, .undef, .undef, .undef, .undef, .undef, .undef, .undef, .undef, .undef, .undef, .undef, .undef, .undef, .undef, .undef, .undef, .undef, .undef, .undef, .undef, .undef, .undef, .undef, .undef, .undef, .undef, .undef, .undef, .undef, .undef, .undef, .undef, .undef, .undef, .undef, .undef, .undef, .undef, .undef, .undef, .undef, .undef, .undef, .undef, .undef, .undef, .undef, .undef, .undef, .undef, .undef, .undef, .undef, .undef, .undef, .undef, .undef, .undef, .undef, .undef, .undef, .undef, .undef, .undef, .undef, .undef, .undef, .undef, .undef, .undef, .undef, .undef, .undef, .undef, .undef, .undef, .undef, .undef, .undef, .undef, .undef, .undef, .undef, .undef, .undef, .undef, .undef, .undef, .undef, .undef, .undef, .undef, .undef, .undef, .undef, .undef, .undef, .undef, .undef, .undef, .undef, .undef, .undef, .undef, .undef, .undef, .undef, .undef, .undef, .undef, .undef, .undef, .undef, .undef, .undef, .undef, .undef, .undef, .undef, .undef, .undef, .undef, .undef, .undef, .undef, .undef, .undef, .undef, .undef, .undef, .undef, .undef, .undef, .undef, .undef, .undef, .undef, .undef, .undef, .undef, .undef, .undef, .undef, .undef, .undef, .undef, .undef, .undef, .undef, .undef, .undef, .undef, .undef, .undef, .undef, .undef, .undef, .undef, .undef, .undef, .undef, .undef, .undef, .undef], [], 0⟩) (fun k => L3.length - k) 0 (Nat.zero_le _) ?_ (fun k hk => ?_)
       · refine Weak.cut (0) (by simp) (by simp) ?_ ?_
         · simp [LeC, LeV, ren, cutF]
         · rfl
       simp -implicitDefEqProofs -dsimp only [go_sem]
       refine condT.split (fun g1 => ?_) (fun g1 => ?_)
       · have hkl : k < L3.length := by simpa using g1
         have hrk := rows_at QuakeRow.csl hkl
         have hw2 : IntKind.i64.wrap ((k : Int) + 1) = ((k + 1 : Nat) : Int) := by rw [wrap_i64 (by omega) (by omega)]; omega
         have fin : ∀ s : St, True := fun _ => trivial
         by_cases hid : L3[i].Id = bst
         · obtain ⟨f1, f2⟩ := hla rfl i hil hid
           have c1 : (L3[i].Id == bst) = true := by simpa using hid
           have c2 : decide (L3[i].Tick < tk) = false := decide_eq_false (by omega)
           by_cases htk2 : tk ≤ L3[k].Tick
           · have c3 : decide (tk ≤ L3[k].Tick) = true := decide_eq_true htk2
             have c4 : decide (L3[i].Size < L3[k].Size) = false := decide_eq_false (by have := f2 k hkl htk2; omega)
             (repeat ((repeat1' (first | simp -implicitDefEqProofs -dsimp only [go_sem, g1, hr, hrk, QuakeRow.cs, c1, c2, c3, c4] | simp -dsimp (disch := omega) only [wrap_i64])); repeat (with_reducible refine sideA ?_)))
             refine ⟨k + 1, hkl, ?_, by omega⟩
             refine Weak.cut (0) (by simp) (by simp) ?_ ?_
             · simp [LeC, LeV, ren, cutF, hw2]
             · rfl
           · have c3 : decide (tk ≤ L3[k].Tick) = false := decide_eq_false htk2
             (repeat ((repeat1' (first | simp -implicitDefEqProofs -dsimp only [go_sem, g1, hr, hrk, QuakeRow.cs, c1, c2, c3] | simp -dsimp (disch := omega) only [wrap_i64])); repeat (with_reducible refine sideA ?_)))
             refine ⟨k + 1, hkl, ?_, by omega⟩
             refine Weak.cut (0) (by simp) (by simp) ?_ ?_
             · simp [LeC, LeV, ren, cutF, hw2]
             · rfl
         · have c1 : (L3[i].Id == bst) = false := by simpa using hid
           (repeat ((repeat1' (first | simp -implicitDefEqProofs -dsimp only [go_sem, g1, hr, hrk, QuakeRow.cs, c1] | simp -dsimp (disch := omega) only [wrap_i64])); repeat (with_reducible refine sideA ?_)))
           refine ⟨k + 1, hkl, ?_, by omega⟩
           refine Weak.cut (0) (by simp) (by simp) ?_ ?_
           · simp [LeC, LeV, ren, cutF, hw2]
           · rfl
       · (repeat ((repeat1' (first | simp -implicitDefEqProofs -dsimp only [go_sem, g1] | simp -dsimp (disch := omega) only [wrap_i64])); repeat (with_reducible refine sideA ?_)))
         refine ⟨i + 1, hil, ?_, by omega⟩
         refine Weak.cut (0) (by simp) (by simp) ?_ ?_
         · simp [LeC, LeV, ren, cutF, hw1]
         · rfl
   · have hd : decide ((i : Int) < (L3.length : Int)) = false := decide_eq_false (by omega)
     (repeat ((repeat1' (first | simp -implicitDefEqProofs -dsimp only [go_sem, hd] | simp -dsimp (disch := omega) only [wrap_i64])); repeat (with_reducible refine sideA ?_)))
     refine callS.rel [] (drawBulletinText_ok hB) (by decide) ⟨leO, trivial⟩ rfl rfl (fun r hout hΦ => ?_)
     obtain ⟨L4, hL4, rfl, rfl⟩ := hΦ
     refine ⟨trivial, ?_⟩
     (repeat ((repeat1' (first | simp -implicitDefEqProofs -dsimp only [go_sem] | simp -dsimp (disch := omega) only [wrap_i64])); repeat (with_reducible refine sideA ?_)))
     have ib := iBulletinText_ok L4 (by have := hL4.2; omega)
     have sb := sBulletinText_ok L4 (by have := hL4.2; omega)
     have iv := iIsBulletin_ok L4 (by have := hL4.2; omega)
     obtain ⟨tx, ex, hnl, htx⟩ := bulTextR_eq L4
     rw [ex] at ib sb
     generalize bulB L4 = kb at *
     (first | refine callT.at (ib) ⟨leA, trivial⟩ ?_ | refine callS.at (ib) ⟨leA, trivial⟩ ?_)
     (repeat ((repeat1' (first | simp -implicitDefEqProofs -dsimp only [go_sem] | simp -dsimp (disch := omega) only [wrap_i64])); repeat (with_reducible refine sideA ?_)))
     (first | refine callT.at (sb) ⟨leA, trivial⟩ ?_ | refine callS.at (sb) ⟨leA, trivial⟩ ?_)
     (repeat ((repeat1' (first | simp -implicitDefEqProofs -dsimp only [go_sem] | simp -dsimp (disch := omega) only [wrap_i64])); repeat (with_reducible refine sideA ?_)))
     (first | refine callT.at (iv) ⟨leA, trivial⟩ ?_ | refine callS.at (iv) ⟨leA, trivial⟩ ?_)
     (repeat ((repeat1' (first | simp -implicitDefEqProofs -dsimp only [go_sem] | simp -dsimp (disch := omega) only [wrap_i64])); repeat (with_reducible refine sideA ?_)))
     refine LoopT.intro (fun i : Nat => i ≤ tx.size) (fun i => ⟨[.undef, .undef, .undef, .undef, .undef, .undef, .undef, .undef, .undef, .undef, .undef, .undef, .undef, .undef, .undef, .undef, .undef, .undef, .undef, .undef, .undef, .undef, .undef, QuakeRow.sl L4, .str tx, .bool kb, .undef, .undef, .int .i64 (nlTo tx i), .int .i64 i, .undef, .undef, .undef, .undef, .undef, .undef, .undef, .undef, .undef, .undef, .undef, .undef, .undef, .undef, .undef, .undef, .undef, .undef, .undef, .undef, .undef, .undef, .undef, .undef, .undef, .undef, .undef, .undef, .undef, .undef, .undef, .undef, .undef, .undef, .undef, .undef, .undef, .undef, .undef, .undef, .undef, .undef, .undef, .undef, .undef, .undef, .undef, .undef, .undef, .undef, .undef, .undef, .undef, .undef, .undef, .undef, .undef, .undef, .undef, .undef, .undef, .undef, .undef, .undef, .undef, .undef, .undef, .undef, .undef, .undef, .undef, .undef, .undef, .undef, .undef, .undef, .undef, .undef, .undef, .undef, .undef, .undef, .undef, .undef, .undef, .undef, .undef, .undef, .undef, .undef, .undef, .undef, .undef, .undef, .undef, .undef, .undef, .undef, .undef, .undef, .undef, .undef, .undef, .undef, .undef, .undef, .undef, .undef, .undef, .undef, .undef, .undef, .undef, .undef, .undef, .undef, .undef, .undef, .undef, .undef, .undef, .undef, .undef, .undef, .undef, .undef, .undef, .undef, .undef, .undef, .undef, .undef, .undef, .undef, .undef, .undef, .undef, .undef, .undef, .undef, .undef, .undef, .undef, .undef, .undef, .undef, .undef, .undef, .undef, .undef, .undef, .undef, .undef, .undef, .undef, .undef, .undef, .undef, .undef, .undef, .undef, .undef, .undef, .undef, .undef, .undef, .undef, .undef, .undef, .undef, .undef, .undef, .undef, .undef, .undef, .undef, .undef, .undef, .undef, .undef, .undef, .undef, .undef, .undef, .undef, .undef, .undef], [], 0⟩) (fun i => tx.size - i) 0 (Nat.zero_le _) ?_ (fun i hi => ?_)
     · refine Weak.cut (0) (by simp) (by simp) ?_ ?_
       · simp [LeC, LeV, ren, cutF, nlTo]
       · rfl
     have hnt := nlTo_le tx i
     simp -implicitDefEqProofs -dsimp only [go_sem]
     refine condT.split (fun g1 => ?_) (fun g1 => ?_)
     · have hi' : i < tx.size := by simpa using g1
       have hsc := nlTo_succ hi'
       (repeat ((repeat1' (first | simp -implicitDefEqProofs -dsimp only [go_sem, g1] | simp -dsimp (disch := omega) only [wrap_i64])); repeat (with_reducible refine sideA ?_)))
       refine ⟨⟨by omega, by omega⟩, ?_⟩
       refine condT.split (fun g2 => ?_) (fun g2 => ?_)
       · rw [if_pos g2] at hsc
         (repeat ((repeat1' (first | simp -implicitDefEqProofs -dsimp only [go_sem, g2] | simp -dsimp (disch := omega) only [wrap_i64])); repeat (with_reducible refine sideA ?_)))
         refine ⟨i + 1, hi', ?_, by omega⟩
         refine Weak.cut (0) (by simp) (by simp) ?_ ?_
         · simp [LeC, LeV, ren, cutF, hsc]
         · rfl
       · rw [if_neg (by rw [g2]; decide)] at hsc
         (repeat ((repeat1' (first | simp -implicitDefEqProofs -dsimp only [go_sem, g2] | simp -dsimp (disch := omega) only [wrap_i64])); repeat (with_reducible refine sideA ?_)))
         refine ⟨i + 1, hi', ?_, by omega⟩
         refine Weak.cut (0) (by simp) (by simp) ?_ ?_
         · simp [LeC, LeV, ren, cutF, hsc]
         · rfl
     have hi' : i = tx.size := by simp at g1; omega
     subst hi'
     rw [nlTo_all]
     (repeat ((repeat1' (first | simp -implicitDefEqProofs -dsimp only [go_sem, g1] | simp -dsimp (disch := omega) only [wrap_i64])); repeat (with_reducible refine sideA ?_)))
     cases kb with
     | false =>
       (repeat ((repeat1' (first | simp -implicitDefEqProofs -dsimp only [go_sem] | simp -dsimp (disch := omega) only [wrap_i64])); repeat (with_reducible refine sideA ?_)))
       exact WeakR.drop' (by simp) (by rfl)
     | true =>
       rw [hnl rfl]
       (repeat ((repeat1' (first | simp -implicitDefEqProofs -dsimp only [go_sem] | simp -dsimp (disch := omega) only [wrap_i64])); repeat (with_reducible refine sideA ?_)))
       exact WeakR.drop' (by simp) (by rfl)
 | true =>
   obtain ⟨rfl, rfl⟩ := hp' hqr (hsl hqr)
   rw [hqr] at il sl iq
   (first | refine callT.at (il) ⟨leA, trivial⟩ ?_ | refine callS.at (il) ⟨leA, trivial⟩ ?_)
   (repeat ((repeat1' (first | simp -implicitDefEqProofs -dsimp only [go_sem, QuakeRow.v] | simp -dsimp (disch := omega) only [wrap_i64])); repeat (with_reducible refine sideA ?_)))
   (first | refine callT.at (sl) ⟨leA, trivial⟩ ?_ | refine callS.at (sl) ⟨leA, trivial⟩ ?_)
   (repeat ((repeat1' (first | simp -implicitDefEqProofs -dsimp only [go_sem, QuakeRow.v] | simp -dsimp (disch := omega) only [wrap_i64])); repeat (with_reducible refine sideA ?_)))
   (first | refine callT.at (iq) ⟨leA, trivial⟩ ?_ | refine callS.at (iq) ⟨leA, trivial⟩ ?_)
   (repeat ((repeat1' (first | simp -implicitDefEqProofs -dsimp only [go_sem, QuakeRow.v] | simp -dsimp (disch := omega) only [wrap_i64])); repeat (with_reducible refine sideA ?_)))
   (first | refine callT.at (ip) ⟨leA, trivial⟩ ?_ | refine callS.at (ip) ⟨leA, trivial⟩ ?_)
   (repeat ((repeat1' (first | simp -implicitDefEqProofs -dsimp only [go_sem, QuakeRow.v] | simp -dsimp (disch := omega) only [wrap_i64])); repeat (with_reducible refine sideA ?_)))
   refine callS.rel [] (drawParseQuake_ok hB) (by decide) ⟨leO, trivial⟩ rfl rfl (fun r hout hΦ => ?_)
   obtain ⟨t, ht, rfl, rfl⟩ := hΦ
   refine ⟨trivial, ?_⟩
   (repeat ((repeat1' (first | simp -implicitDefEqProofs -dsimp only [go_sem] | simp -dsimp (disch := omega) only [wrap_i64])); repeat (with_reducible refine sideA ?_)))
   have ipt := iParseQuake_ok t (by omega)
   have spt := sParseQuake_ok t (by omega)
   obtain ⟨p, pb, ept, _⟩ := parseV_eq t
   rw [ept] at ipt spt
   (first | refine callT.at (ipt) ⟨leA, trivial⟩ ?_ | refine callS.at (ipt) ⟨leA, trivial⟩ ?_)
   (repeat ((repeat1' (first | simp -implicitDefEqProofs -dsimp only [go_sem, QuakeRow.v] | simp -dsimp (disch := omega) only [wrap_i64])); repeat (with_reducible refine sideA ?_)))
   (first | refine callT.at (spt) ⟨leA, trivial⟩ ?_ | refine callS.at (spt) ⟨leA, trivial⟩ ?_)
   (repeat ((repeat1' (first | simp -implicitDefEqProofs -dsimp only [go_sem, QuakeRow.v] | simp -dsimp (disch := omega) only [wrap_i64])); repeat (with_reducible refine sideA ?_)))
   refine callS.rel [] (drawLargestSince_ok hB) (by decide) ⟨leO, trivial⟩ rfl rfl (fun r hout hΦ => ?_)
   obtain ⟨L3, tk, hL3, htk, rfl, rfl⟩ := hΦ
   refine ⟨trivial, ?_⟩
   (repeat ((repeat1' (first | simp -implicitDefEqProofs -dsimp only [go_sem] | simp -dsimp (disch := omega) only [wrap_i64])); repeat (with_reducible refine sideA ?_)))
   have ila := iLargestSince_ok L3 tk (by have := hL3.2; omega)
   have sla := sLargestSince_ok L3 tk (by have := hL3.2; omega)
   obtain ⟨bst, told, ela, hla⟩ := largeR_eq L3 tk
   rw [ela] at ila sla
   (first | refine callT.at (ila) ⟨leA, leA, trivial⟩ ?_ | refine callS.at (ila) ⟨leA, leA, trivial⟩ ?_)
   (repeat ((repeat1' (first | simp -implicitDefEqProofs -dsimp only [go_sem] | simp -dsimp (disch := omega) only [wrap_i64])); repeat (with_reducible refine sideA ?_)))
   (first | refine callT.at (sla) ⟨leA, leA, trivial⟩ ?_ | refine callS.at (sla) ⟨leA, leA, trivial⟩ ?_)
   (repeat ((repeat1' (first | simp -implicitDefEqProofs -dsimp only [go_sem] | simp -dsimp (disch := omega) only [wrap_i64])); repeat (with_reducible refine sideA ?_)))
   have hl3 := hL3.2
   refine LoopT.intro (fun i : Nat => i ≤ L3.length) (fun i => ⟨[ByteS.sl L, .undef, .undef, .undef, .undef, .undef, .undef, .undef, .undef, .undef, .undef, .undef, .undef, .undef, .undef, QuakeRow.sl L3, .int .i64 tk, .int .i64 bst, .bool told, .undef, .undef, .int .i64 i, .undef, .undef, .undef, .undef, .undef, .undef, .undef, .undef, .undef, .undef, .undef, .undef, .undef, .undef, .undef, .undef, .undef, .undef, .undef, .undef, .undef, .undef, .undef, .undef, .undef, .undef, .undef, .undef, .undef, .undef, .undef, .undef, .undef, .undef, .undef, .undef, .undef, .undef, .undef, .undef, .undef, .undef, .undef, .undef, .undef, .undef, .undef, .undef, .undef, .undef, .undef, .undef, .undef, .undef, .undef, .undef, .undef, .undef, .undef, .undef, .undef, .undef, .undef, .undef, .undef, .undef, .undef, .undef, .undef, .undef, .undef, .undef, .undef, .undef, .undef, .undef, .undef, .undef, .undef, .undef, .undef, .undef, .undef, .undef, .undef, .undef, .undef, .undef, .undef, .undef, .undef, .undef, .undef, .undef, .undef, .undef, .undef, .undef, .undef, .undef, .undef, .undef, .undef, .undef, .undef, .undef, .undef, .undef, .undef, .undef, .undef, .undef, .undef, .undef, .undef, .undef, .undef, .undef, .undef, .undef, .undef, .undef, .undef, .undef, .undef, .undef, .undef, .undef, .undef, .undef, .undef, .undef, .undef, .undef, .undef, .undef, .undef, .undef, .undef, .undef, .undef, .undef, .undef, .undef, .undef, .undef, .undef, .undef, .undef, .undef, .undef, .undef, .undef, .undef, .undef, .undef, .undef, .undef, .undef, .undef, .undef, .undef, .undef, .undef, .undef, .undef, .undef, .undef, .undef, .undef, .undef, .undef, .undef, .undef, .undef, .undef, .undef, .undef, .undef, .undef, .undef, .undef, .undef, .undef, .undef, .undef, .undef, .undef, .undef, .undef, .undef, .undef, .undef, .undef, .undef], [], 0⟩) (fun i => L3.length - i) 0 (Nat.zero_le _) ?_ (fun i hi => ?_)
   · refine Weak.cut (0) (by simp) (by simp) ?_ ?_
     · simp [LeC, LeV, ren, cutF]
     · rfl
   by_cases hil : i < L3.length
   · have hd : decide ((i : Int) < (L3.length : Int)) = true := decide_eq_true (by omega)
     have hw1 : IntKind.i64.wrap ((i : Int) + 1) = ((i + 1 : Nat) : Int) := by rw [wrap_i64 (by omega) (by omega)]; omega
     cases told with
     | false =>
       (repeat ((repeat1' (first | simp -implicitDefEqProofs -dsimp only [go_sem, hd] | simp -dsimp (disch := omega) only [wrap_i64])); repeat (with_reducible refine sideA ?_)))
       refine callS.rel [] (drawBulletinText_ok hB) (by decide) ⟨leO, trivial⟩ rfl rfl (fun r hout hΦ => ?_)
       obtain ⟨L4, hL4, rfl, rfl⟩ := hΦ
       refine ⟨trivial, ?_⟩
       (repeat ((repeat1' (first | simp -implicitDefEqProofs -dsimp only [go_sem] | simp -dsimp (disch := omega) only [wrap_i64])); repeat (with_reducible refine sideA ?_)))
       have ib := iBulletinText_ok L4 (by have := hL4.2; omega)
       have sb := sBulletinText_ok L4 (by have := hL4.2; omega)
       have iv := iIsBulletin_ok L4 (by have := hL4.2; omega)
       obtain ⟨tx, ex, hnl, htx⟩ := bulTextR_eq L4
       rw [ex] at ib sb
       generalize bulB L4 = kb at *
       (first | refine callT.at (ib) ⟨leA, trivial⟩ ?_ | refine callS.at (ib) ⟨leA, trivial⟩ ?_)
       (repeat ((repeat1' (first | simp -implicitDefEqProofs -dsimp only [go_sem] | simp -dsimp (disch := omega) only [wrap_i64])); repeat (with_reducible refine sideA ?_)))
       (first | refine callT.at (sb) ⟨leA, trivial⟩ ?_ | refine callS.at (sb) ⟨leA, trivial⟩ ?_)
       (repeat ((repeat1' (first | simp -implicitDefEqProofs -dsimp only [go_sem] | simp -dsimp (disch := omega) only [wrap_i64])); repeat (with_reducible refine sideA ?_)))
       (first | refine callT.at (iv) ⟨leA, trivial⟩ ?_ | refine callS.at (iv) ⟨leA, trivial⟩ ?_)
       (repeat ((repeat1' (first | simp -implicitDefEqProofs -dsimp only [go_sem] | simp -dsimp (disch := omega) only [wrap_i64])); repeat (with_reducible refine sideA ?_)))
       refine LoopT.intro (fun i : Nat => i ≤ tx.size) (fun i => ⟨[.undef, .undef, .undef, .undef, .undef, .undef, .undef, .undef, .undef, .undef, .undef, .undef, .undef, .undef, .undef, .undef, .undef, .undef, .undef, .undef, .undef, .undef, .undef, QuakeRow.sl L4, .str tx, .bool kb, .undef, .undef, .int .i64 (nlTo tx i), .int .i64 i, .undef, .undef, .undef, .undef, .undef, .undef, .undef, .undef, .undef, .undef, .undef, .undef, .undef, .undef, .undef, .undef, .undef, .undef, .undef, .undef, .undef, .undef, .undef, .undef, .undef, .undef, .undef, .undef, .undef, .undef, .undef, .undef, .undef, .undef, .undef, .undef, .undef, .undef, .undef, .undef, .undef, .undef, .undef, .undef, .undef, .undef, .undef, .undef, .undef, .undef, .undef, .undef, .undef, .undef, .undef, .undef, .undef, .undef, .undef, .undef, .undef, .undef, .undef, .undef, .undef, .undef, .undef, .undef, .undef, .undef, .undef, .undef, .undef, .undef, .undef, .undef, .undef, .undef, .undef, .undef, .undef, .undef, .undef, .undef, .undef, .undef, .undef, .undef, .undef, .undef, .undef, .undef, .undef, .undef, .undef, .undef, .undef, .undef, .undef, .undef, .undef, .undef, .undef, .undef, .undef, .undef, .undef, .undef, .undef, .undef, .undef, .undef, .undef, .undef, .undef, .undef, .undef, .undef, .undef, .undef, .undef, .undef, .undef, .undef, .undef, .undef, .undef, .undef, .undef, .undef, .undef, .undef, .undef, .undef, .undef, .undef, .undef, .undef, .undef, .undef, .undef, .undef, .undef, .undef, .undef, .undef, .undef, .undef, .undef, .undef, .undef, .undef, .undef, .undef, .undef, .undef, .undef, .undef, .undef, .undef, .undef, .undef, .undef, .undef, .undef, .undef, .undef, .undef, .undef, .undef, .undef, .undef, .undef, .undef, .undef, .undef, .undef, .undef, .undef, .undef, .undef, .undef, .undef, .undef, .undef, .undef, .undef], [], 0⟩) (fun i => tx.size - i) 0 (Nat.zero_le _) ?_ (fun i hi => ?_)
       · refine Weak.cut (0) (by simp) (by simp) ?_ ?_
         · simp [LeC, LeV, ren, cutF, nlTo]
         · rfl
       have hnt := nlTo_le tx i
       simp -implicitDefEqProofs -dsimp only [go_sem]
       refine condT.split (fun g1 => ?_) (fun g1 => ?_)
       · have hi' : i < tx.size := by simpa using g1
         have hsc := nlTo_succ hi'
         (repeat ((repeat1' (first | simp -implicitDefEqProofs -dsimp only [go_sem, g1] | simp -dsimp (disch := omega) only [wrap_i64])); repeat (with_reducible refine sideA ?_)))
         refine ⟨⟨by omega, by omega⟩, ?_⟩
         refine condT.split (fun g2 => ?_) (fun g2 => ?_)
         · rw [if_pos g2] at hsc
           (repeat ((repeat1' (first | simp -implicitDefEqProofs -dsimp only [go_sem, g2] | simp -dsimp (disch := omega) only [wrap_i64])); repeat (with_reducible refine sideA ?_)))
           refine ⟨i + 1, hi', ?_, by omega⟩
           refine Weak.cut (0) (by simp) (by simp) ?_ ?_
           · simp [LeC, LeV, ren, cutF, hsc]
           · rfl
         · rw [if_neg (by rw [g2]; decide)] at hsc
           (repeat ((repeat1' (first | simp -implicitDefEqProofs -dsimp only [go_sem, g2] | simp -dsimp (disch := omega) only [wrap_i64])); repeat (with_reducible refine sideA ?_)))
           refine ⟨i + 1, hi', ?_, by omega⟩
           refine Weak.cut (0) (by simp) (by simp) ?_ ?_
           · simp [LeC, LeV, ren, cutF, hsc]
           · rfl
       have hi' : i = tx.size := by simp at g1; omega
       subst hi'
       rw [nlTo_all]
       (repeat ((repeat1' (first | simp -implicitDefEqProofs -dsimp only [go_sem, g1] | simp -dsimp (disch := omega) only [wrap_i64])); repeat (with_reducible refine sideA ?_)))
       cases kb with
       | false =>
         (repeat ((repeat1' (first | simp -implicitDefEqProofs -dsimp only [go_sem] | simp -dsimp (disch := omega) only [wrap_i64])); repeat (with_reducible refine sideA ?_)))
         exact WeakR.drop' (by simp) (by rfl)
       | true =>
         rw [hnl rfl]
         (repeat ((repeat1' (first | simp -implicitDefEqProofs -dsimp only [go_sem] | simp -dsimp (disch := omega) only [wrap_i64])); repeat (with_reducible refine sideA ?_)))
         exact WeakR.drop' (by simp) (by rfl)
     | true =>
       have hr := rows_at QuakeRow.csl hil
       (repeat ((repeat1' (first | simp -implicitDefEqProofs -dsimp only [go_sem, hd] | simp -dsimp (disch := omega) only [wrap_i64])); repeat (with_reducible refine sideA ?_)))
       refine LoopT.intro (fun k : Nat => k ≤ L3.length) (fun k => ⟨[ByteS.sl L, .undef, .undef, .undef, .undef, .undef, .undef, .undef, .undef, .undef, .undef, .undef, .undef, .undef, .undef, QuakeRow.sl L3, .int .i64 tk, .int .i64 bst, .bool true, .undef, .undef, .int .i64 i, .int .i64 k, .undef, .undef, .undef, .undef, .undef, .undef, .undef, .undef, .undef, .undef, .undef, .undef, .undef, .undef, .undef, .undef, .undef, .undef, .undef, .undef, .undef, .undef, .undef, .undef, .undef, .undef, .undef, .undef, .undef, .undef, .undef, .undef, .undef, .undef, .undef, .undef, .undef, .undef, .undef, .undef, .undef, .undef, .undef, .undef, .undef, .undef, .undef, .undef, .undef, .undef, .undef, .undef, .undef, .undef, .undef, .undef, .undef, .undef, .undef, .undef, .undef, .undef, .undef, .undef, .undef, .undef, .undef, .undef, .undef, .undef, .undef, .undef, .undef, .undef, .undef, .undef, .undef, .undef, .undef, .undef, .undef, .undef, .undef, .undef, .undef, .undef, .undef, .undef, .undef, .undef, .undef, .undef, .undef, .undef, .undef, .undef, .undef, .undef, .undef, .undef, .undef, .undef, .undef, .undef, .undef, .undef, .undef, .undef, .undef, .undef, .undef, .undef, .undef, .undef, .undef, .undef, .undef, .undef, .undef, .undef, .undef, .undef, .undef, .undef, .undef, .undef, .undef, .undef, .undef, .undef, .undef, .undef, .undef, .undef, .undef, .undef, .undef, .undef, .undef, .undef, .undef, .undef, .undef, .undef, .undef, .undef, .undef, .undef, .undef, .undef, .undef, .undef, .undef, .undef, .undef, .undef, .undef, .undef, .undef, .undef, .undef, .undef, .undef, .undef, .undef, .undef, .undef, .undef, .undef, .undef, .undef, .undef, .undef, .undef, .undef, .undef, .undef, .undef, .undef, .undef, .undef, .undef, .undef, .undef, .undef, .undef, .undef, .undef, .undef, .undef, .undef, .undef, .undef, .undef], [], 0⟩) (fun k => L3.length - k) 0 (Nat.zero_le _) ?_ (fun k hk => ?_)
       · refine Weak.cut (0) (by simp) (by simp) ?_ ?_
         · simp [LeC, LeV, ren, cutF]
         · rfl
       simp -implicitDefEqProofs -dsimp only [go_sem]
       refine condT.split (fun g1 => ?_) (fun g1 => ?_)
       · have hkl : k < L3.length := by simpa using g1
         have hrk := rows_at QuakeRow.csl hkl
         have hw2 : IntKind.i64.wrap ((k : Int) + 1) = ((k + 1 : Nat) : Int) := by rw [wrap_i64 (by omega) (by omega)]; omega
         have fin : ∀ s : St, True := fun _ => trivial
         by_cases hid : L3[i].Id = bst
         · obtain ⟨f1, f2⟩ := hla rfl i hil hid
           have c1 : (L3[i].Id == bst) = true := by simpa using hid
           have c2 : decide (L3[i].Tick < tk) = false := decide_eq_false (by omega)
           by_cases htk2 : tk ≤ L3[k].Tick
           · have c3 : decide (tk ≤ L3[k].Tick) = true := decide_eq_true htk2
             have c4 : decide (L3[i].Size < L3[k].Size) = false := decide_eq_false (by have := f2 k hkl htk2; omega)
             (repeat ((repeat1' (first | simp -implicitDefEqProofs -dsimp only [go_sem, g1, hr, hrk, QuakeRow.cs, c1, c2, c3, c4] | simp -dsimp (disch := omega) only [wrap_i64])); repeat (with_reducible refine sideA ?_)))
             refine ⟨k + 1, hkl, ?_, by omega⟩
             refine Weak.cut (0) (by simp) (by simp) ?_ ?_
             · simp [LeC, LeV, ren, cutF, hw2]
             · rfl
           · have c3 : decide (tk ≤ L3[k].Tick) = false := decide_eq_false htk2
             (repeat ((repeat1' (first | simp -implicitDefEqProofs -dsimp only [go_sem, g1, hr, hrk, QuakeRow.cs, c1, c2, c3] | simp -dsimp (disch := omega) only [wrap_i64])); repeat (with_reducible refine sideA ?_)))
             refine ⟨k + 1, hkl, ?_, by omega⟩
             refine Weak.cut (0) (by simp) (by simp) ?_ ?_
             · simp [LeC, LeV, ren, cutF, hw2]
             · rfl
         · have c1 : (L3[i].Id == bst) = false := by simpa using hid
           (repeat ((repeat1' (first | simp -implicitDefEqProofs -dsimp only [go_sem, g1, hr, hrk, QuakeRow.cs, c1] | simp -dsimp (disch := omega) only [wrap_i64])); repeat (with_reducible refine sideA ?_)))
           refine ⟨k + 1, hkl, ?_, by omega⟩
           refine Weak.cut (0) (by simp) (by simp) ?_ ?_
           · simp [LeC, LeV, ren, cutF, hw2]
           · rfl
       · (repeat ((repeat1' (first | simp -implicitDefEqProofs -dsimp only [go_sem, g1] | simp -dsimp (disch := omega) only [wrap_i64])); repeat (with_reducible refine sideA ?_)))
         refine ⟨i + 1, hil, ?_, by omega⟩
         refine Weak.cut (0) (by simp) (by simp) ?_ ?_
         · simp [LeC, LeV, ren, cutF, hw1]
         · rfl
   · have hd : decide ((i : Int) < (L3.length : Int)) = false := decide_eq_false (by omega)
     (repeat ((repeat1' (first | simp -implicitDefEqProofs -dsimp only [go_sem, hd] | simp -dsimp (disch := omega) only [wrap_i64])); repeat (with_reducible refine sideA ?_)))
     refine callS.rel [] (drawBulletinText_ok hB) (by decide) ⟨leO, trivial⟩ rfl rfl (fun r hout hΦ => ?_)
     obtain ⟨L4, hL4, rfl, rfl⟩ := hΦ
     refine ⟨trivial, ?_⟩
     (repeat ((repeat1' (first | simp -implicitDefEqProofs -dsimp only [go_sem] | simp -dsimp (disch := omega) only [wrap_i64])); repeat (with_reducible refine sideA ?_)))
     have ib := iBulletinText_ok L4 (by have := hL4.2; omega)
     have sb := sBulletinText_ok L4 (by have := hL4.2; omega)
     have iv := iIsBulletin_ok L4 (by have := hL4.2; omega)
     obtain ⟨tx, ex, hnl, htx⟩ := bulTextR_eq L4
     rw [ex] at ib sb
     generalize bulB L4 = kb at *
     (first | refine callT.at (ib) ⟨leA, trivial⟩ ?_ | refine callS.at (ib) ⟨leA, trivial⟩ ?_)
     (repeat ((repeat1' (first | simp -implicitDefEqProofs -dsimp only [go_sem] | simp -dsimp (disch := omega) only [wrap_i64])); repeat (with_reducible refine sideA ?_)))
     (first | refine callT.at (sb) ⟨leA, trivial⟩ ?_ | refine callS.at (sb) ⟨leA, trivial⟩ ?_)
     (repeat ((repeat1' (first | simp -implicitDefEqProofs -dsimp only [go_sem] | simp -dsimp (disch := omega) only [wrap_i64])); repeat (with_reducible refine sideA ?_)))
     (first | refine callT.at (iv) ⟨leA, trivial⟩ ?_ | refine callS.at (iv) ⟨leA, trivial⟩ ?_)
     (repeat ((repeat1' (first | simp -implicitDefEqProofs -dsimp only [go_sem] | simp -dsimp (disch := omega) only [wrap_i64])); repeat (with_reducible refine sideA ?_)))
     refine LoopT.intro (fun i : Nat => i ≤ tx.size) (fun i => ⟨[.undef, .undef, .undef, .undef, .undef, .undef, .undef, .undef, .undef, .undef, .undef, .undef, .undef, .undef, .undef, .undef, .undef, .undef, .undef, .undef, .undef, .undef, .undef, QuakeRow.sl L4, .str tx, .bool kb, .undef, .undef, .int .i64 (nlTo tx i), .int .i64 i, .undef, .undef, .undef, .undef, .undef, .undef, .undef, .undef, .undef, .undef, .undef, .undef, .undef, .undef, .undef, .undef, .undef, .undef, .undef, .undef, .undef, .undef, .undef, .undef, .undef, .undef, .undef, .undef, .undef, .undef, .undef, .undef, .undef, .undef, .undef, .undef, .undef, .undef, .undef, .undef, .undef, .undef, .undef, .undef, .undef, .undef, .undef, .undef, .undef, .undef, .undef, .undef, .undef, .undef, .undef, .undef, .undef, .undef, .undef, .undef, .undef, .undef, .undef, .undef, .undef, .undef, .undef, .undef, .undef, .undef, .undef, .undef, .undef, .undef, .undef, .undef, .undef, .undef, .undef, .undef, .undef, .undef, .undef, .undef, .undef, .undef, .undef, .undef, .undef, .undef, .undef, .undef, .undef, .undef, .undef, .undef, .undef, .undef, .undef, .undef, .undef, .undef, .undef, .undef, .undef, .undef, .undef, .undef, .undef, .undef, .undef, .undef, .undef, .undef, .undef, .undef, .undef, .undef, .undef, .undef, .undef, .undef, .undef, .undef, .undef, .undef, .undef, .undef, .undef, .undef, .undef, .undef, .undef, .undef, .undef, .undef, .undef, .undef, .undef, .undef, .undef, .undef, .undef, .undef, .undef, .undef, .undef, .undef, .undef, .undef, .undef, .undef, .undef, .undef, .undef, .undef, .undef, .undef, .undef, .undef, .undef, .undef, .undef, .undef, .undef, .undef, .undef, .undef, .undef, .undef, .undef, .undef, .undef, .undef, .undef, .undef, .undef, .undef, .undef, .undef, .undef, .undef, .undef, .undef, .undef, .undef, .undef], [], 0⟩) (fun i => tx.size - i) 0 (Nat.zero_le _) ?_ (fun i hi => ?_)
     · refine Weak.cut (0) (by simp) (by simp) ?_ ?_
       · simp [LeC, LeV, ren, cutF, nlTo]
       · rfl
     have hnt := nlTo_le tx i
     simp -implicitDefEqProofs -dsimp only [go_sem]
     refine condT.split (fun g1 => ?_) (fun g1 => ?_)
     · have hi' : i < tx.size := by simpa using g1
       have hsc := nlTo_succ hi'
       (repeat ((repeat1' (first | simp -implicitDefEqProofs -dsimp only [go_sem, g1] | simp -dsimp (disch := omega) only [wrap_i64])); repeat (with_reducible refine sideA ?_)))
       refine ⟨⟨by omega, by omega⟩, ?_⟩
       refine condT.split (fun g2 => ?_) (fun g2 => ?_)
       · rw [if_pos g2] at hsc
         (repeat ((repeat1' (first | simp -implicitDefEqProofs -dsimp only [go_sem, g2] | simp -dsimp (disch := omega) only [wrap_i64])); repeat (with_reducible refine sideA ?_)))
         refine ⟨i + 1, hi', ?_, by omega⟩
         refine Weak.cut (0) (by simp) (by simp) ?_ ?_
         · simp [LeC, LeV, ren, cutF, hsc]
         · rfl
       · rw [if_neg (by rw [g2]; decide)] at hsc
         (repeat ((repeat1' (first | simp -implicitDefEqProofs -dsimp only [go_sem, g2] | simp -dsimp (disch := omega) only [wrap_i64])); repeat (with_reducible refine sideA ?_)))
         refine ⟨i + 1, hi', ?_, by omega⟩
         refine Weak.cut (0) (by simp) (by simp) ?_ ?_
         · simp [LeC, LeV, ren, cutF, hsc]
         · rfl
     have hi' : i = tx.size := by simp at g1; omega
     subst hi'
     rw [nlTo_all]
     (repeat ((repeat1' (first | simp -implicitDefEqProofs -dsimp only [go_sem, g1] | simp -dsimp (disch := omega) only [wrap_i64])); repeat (with_reducible refine sideA ?_)))
     cases kb with
     | false =>
       (repeat ((repeat1' (first | simp -implicitDefEqProofs -dsimp only [go_sem] | simp -dsimp (disch := omega) only [wrap_i64])); repeat (with_reducible refine sideA ?_)))
       exact WeakR.drop' (by simp) (by rfl)
     | true =>
       rw [hnl rfl]
       (repeat ((repeat1' (first | simp -implicitDefEqProofs -dsimp only [go_sem] | simp -dsimp (disch := omega) only [wrap_i64])); repeat (with_reducible refine sideA ?_)))
       exact WeakR.drop' (by simp) (by rfl)
--END
end Go.Proofs
end
section
open Go.ChangeShapes Go.WideShapes
namespace Go.Lv

def ShC (P : Program) : Nat → TypeId → List V → Prop
 | 0, _, _ => False
 | n + 1, t, xs =>
   match P.underlying t with
   | some .bool => ∃ b, xs = [.bool b]
   | some (.int k) => ∃ z, xs = [.int k z] ∧ (Lit.int k z).wf = true
   | some .string => ∃ s : ByteArray, xs = [.str s] ∧ s.size ≤ maxLen
   | some (.slice e) => ∃ l cs, xs = [.sl l (P.cellsOf e) cs] ∧ l ≤ maxLen ∧ cs.length = l * P.cellsOf e ∧ ∀ i, i < l → ShC P n e ((cs.drop (i * P.cellsOf e)).take (P.cellsOf e))
   | some (.struct fs) => xs.length = P.cellsOf t ∧ ∀ f ∈ fs.toList, ShC P n f.type ((xs.drop f.offset).take (P.cellsOf f.type))
   | _ => False

def tiled (P : Program) : List Field → Nat → Nat → Bool
 | [], off, n => off == n
 | f :: fs, off, n => f.offset == off && tiled P fs (off + P.cellsOf f.type) n

def plainT (P : Program) : Nat → TypeId → Bool
 | 0, _ => false
 | n + 1, t =>
   match P.underlying t with
   | some .bool => true
   | some (.int _) => true
   | some .string => true
   | some (.slice e) => decide (0 < P.cellsOf e) && plainT P n e
   | some (.struct fs) => tiled P fs.toList 0 (P.cellsOf t) && fs.toList.all fun f => plainT P n f.type
   | _ => false

section
variable {P : Program} {w : World} {m : Nat → Nat}

def Rds (w : World) (m : Nat → Nat) (cs : List Value) (xs : List V) : Prop :=
 cs.length = xs.length ∧ ∀ i (hi : i < xs.length), RV w m [] (fun _ => False) false (cs.getD i Go.undef) xs[i]

theorem Rds.append {a b : List Value} {x y : List V} (h : Rds w m a x) (k : Rds w m b y) : Rds w m (a ++ b) (x ++ y) := by
 refine ⟨by simp [h.1, k.1], fun i hi => ?_⟩
 by_cases hlt : i < x.length
 · rw [List.getElem_append_left hlt]
   have := h.2 i hlt
   rw [List.getD_eq_getElem?_getD, List.getElem?_append_left (by rw [h.1]; exact hlt), ← List.getD_eq_getElem?_getD]
   exact this
 · rw [List.getElem_append_right (by omega)]
   have := k.2 (i - x.length) (by simp at hi; omega)
   rw [List.getD_eq_getElem?_getD, List.getElem?_append_right (by rw [h.1]; omega), ← List.getD_eq_getElem?_getD, h.1]
   exact this

theorem Rds.one {v : Value} {x : V} (h : RV w m [] (fun _ => False) false v x) : Rds w m [v] [x] :=
 ⟨rfl, fun i hi => by have : i = 0 := by simp at hi; omega
                      subst this; exact h⟩

theorem Rds.nil : Rds w m [] [] := ⟨rfl, fun i hi => by simp at hi⟩

theorem fields_sh {n : Nat} {cs : List Value} : ∀ (fs : List Field) (off : Nat), tiled P fs off cs.length = true → off ≤ cs.length →
   (∀ f ∈ fs, ∃ xs, Rds w m ((cs.drop f.offset).take (P.cellsOf f.type)) xs ∧ ShC P n f.type xs) →
   ∃ ys, Rds w m (cs.drop off) ys ∧ ∀ f ∈ fs, off ≤ f.offset ∧ ShC P n f.type ((ys.drop (f.offset - off)).take (P.cellsOf f.type))
 | [], off, ht, _, _ => by
   simp [tiled] at ht
   subst ht
   refine ⟨[], ?_, fun f hf => by simp at hf⟩
   rw [List.drop_of_length_le (Nat.le_refl _)]
   exact Rds.nil
 | f :: fs, off, ht, hle, h => by
   simp only [tiled, Bool.and_eq_true, beq_iff_eq] at ht
   obtain ⟨rfl, ht⟩ := ht
   have hlen : ∀ (fs : List Field) (o : Nat), tiled P fs o cs.length = true → o ≤ cs.length := by
     intro fs
     induction fs with
     | nil => intro o ht; simp [tiled] at ht; omega
     | cons g fs ih =>
       intro o ht
       simp only [tiled, Bool.and_eq_true, beq_iff_eq] at ht
       have := ih _ ht.2; omega
   have hk := hlen fs _ ht
   obtain ⟨x, hx1, hx2⟩ := h f (by simp)
   obtain ⟨ys, hy1, hy2⟩ := fields_sh fs _ ht hk (fun g hg => h g (by simp [hg]))
   have hxl : x.length = P.cellsOf f.type := by rw [← hx1.1]; simp; omega
   refine ⟨x ++ ys, ?_, fun g hg => ?_⟩
   · have : cs.drop f.offset = (cs.drop f.offset).take (P.cellsOf f.type) ++ cs.drop (f.offset + P.cellsOf f.type) := by
       rw [← List.drop_drop, List.take_append_drop]
     rw [this]
     exact hx1.append hy1
   · rcases List.mem_cons.1 hg with rfl | hg
     · refine ⟨Nat.le_refl _, ?_⟩
       rw [Nat.sub_self, List.drop_zero, List.take_append_of_le_length (by omega), List.take_of_length_le (by omega)]
       exact hx2
     · obtain ⟨h1, h2⟩ := hy2 g hg
       refine ⟨by omega, ?_⟩
       have : (x ++ ys).drop (g.offset - f.offset) = ys.drop (g.offset - (f.offset + P.cellsOf f.type)) := by
         rw [List.drop_append, List.drop_of_length_le (by omega), List.nil_append]
         congr 1
         omega
       rw [this]
       exact h2

theorem elems_sh {n e : Nat} {b off len : Nat} (h : ∀ i, i < len → ∃ cs xs, cs.length = P.cellsOf e ∧ (∀ j, j < P.cellsOf e → w.cell? ⟨b, off + (i * P.cellsOf e + j), none⟩ = cs[j]?) ∧ Rds w m cs xs ∧ ShC P n e xs) :
   ∀ k, k ≤ len → ∃ xs : List V, xs.length = k * P.cellsOf e ∧ (∀ j (hj : j < xs.length), ∃ v, w.cell? ⟨b, off + j, none⟩ = some v ∧ RV w m [] (fun _ => False) false v xs[j]) ∧
     ∀ i, i < k → ShC P n e ((xs.drop (i * P.cellsOf e)).take (P.cellsOf e))
 | 0, _ => ⟨[], by simp, fun j hj => by simp at hj, fun i hi => by omega⟩
 | k + 1, hk => by
   obtain ⟨xs, h1, h2, h3⟩ := elems_sh h k (by omega)
   obtain ⟨cs, ys, g1, g2, g3, g4⟩ := h k (by omega)
   have hyl : ys.length = P.cellsOf e := by rw [← g3.1, g1]
   refine ⟨xs ++ ys, by simp [h1, hyl, Nat.add_mul], fun j hj => ?_, fun i hi => ?_⟩
   · by_cases hlt : j < xs.length
     · rw [List.getElem_append_left hlt]
       exact h2 j hlt
     · rw [List.getElem_append_right (by omega)]
       have hj' : j - xs.length < ys.length := by simp at hj; omega
       have hr := g3.2 _ hj'
       have hc := g2 (j - xs.length) (by omega)
       have e1 : off + (k * P.cellsOf e + (j - xs.length)) = off + j := by omega
       rw [e1] at hc
       have hcl : j - xs.length < cs.length := by omega
       rw [List.getElem?_eq_getElem hcl] at hc
       refine ⟨_, hc, ?_⟩
       simpa [List.getD_eq_getElem?_getD, hcl] using hr
   · by_cases e2 : i = k
     · subst e2
       rw [← h1, List.drop_left, List.take_of_length_le (by omega)]
       exact g4
     · have hm : i * P.cellsOf e + P.cellsOf e ≤ xs.length := mul_room (n := k) (by omega) h1
       rw [List.drop_append_of_le_length (by omega), List.take_append_of_le_length (by simp; omega)]
       exact h3 i (by omega)

theorem trod_sh {H : Type} {enc : TypeId × Value → H} {spare : Nat → Bool} {held : Bool} : ∀ (n : Nat) (fuel : Nat) (t : TypeId) (cs : List Value) (x : DataW H × List MemPlace),
   DataW.trod enc P w 0 spare held fuel t cs = some x → plainT P n t = true → ∃ xs, Rds w m cs xs ∧ ShC P n t xs
 | 0, fuel, t, cs, x, _, hp => by simp [plainT] at hp
 | n + 1, fuel, t, cs, x, hx, hp => by
   unfold plainT at hp
   split at hp
   · rename_i hu
     obtain ⟨b, rfl, _⟩ := DataW.trod_bool hu hx
     exact ⟨[.bool b], Rds.one (.bool b), by unfold ShC; rw [hu]; exact ⟨b, rfl⟩⟩
   · rename_i k hu
     obtain ⟨z, rfl, _, hw⟩ := DataW.trod_int hu hx
     exact ⟨[.int k z], Rds.one (.int k z), by unfold ShC; rw [hu]; exact ⟨z, rfl, hw⟩⟩
   · rename_i hu
     obtain ⟨s, rfl, _, hs⟩ := DataW.trod_string hu hx
     exact ⟨[.str s], Rds.one (.str s), by unfold ShC; rw [hu]; exact ⟨s, rfl, hs⟩⟩
   · rename_i e hu
     simp only [Bool.and_eq_true, decide_eq_true_eq] at hp
     obtain ⟨hpos, hp⟩ := hp
     rcases Deep.open_slice hu hx with ⟨rfl, _⟩ | ⟨a, len, cap, mm, f, D, Pl, rfl, _, hle, hcap, hmm, _, hel⟩
     · refine ⟨[.sl 0 (P.cellsOf e) []], Rds.one (.slz _ _ _), ?_⟩
       unfold ShC; rw [hu]
       exact ⟨0, [], rfl, Nat.zero_le _, by simp, fun i hi => by omega⟩
     · by_cases h0 : len = 0
       · subst h0
         refine ⟨[.sl 0 (P.cellsOf e) []], Rds.one (.slz _ _ _), ?_⟩
         unfold ShC; rw [hu]
         exact ⟨0, [], rfl, Nat.zero_le _, by simp, fun i hi => by omega⟩
       · have hml : len ≤ mm := by rw [hmm]; split <;> omega
         obtain ⟨b, off, spot⟩ := a
         have hspot : spot = none := by
           obtain ⟨cs', hc, _⟩ := hel 0 (by omega)
           obtain ⟨_, hcl, hat⟩ := World.cells?_some hc
           have h1 := hat 0 hpos
           rw [List.getElem?_eq_getElem (by omega)] at h1
           simpa [Addr.add] using World.cell?_spot h1
         subst hspot
         have hall : ∀ i, i < len → ∃ cs xs, cs.length = P.cellsOf e ∧ (∀ j, j < P.cellsOf e → w.cell? ⟨b, off + (i * P.cellsOf e + j), none⟩ = cs[j]?) ∧ Rds w m cs xs ∧ ShC P n e xs := by
           intro i hi
           obtain ⟨cs', hc, ht⟩ := hel i (by omega)
           obtain ⟨_, hcl, hat⟩ := World.cells?_some hc
           obtain ⟨xs, h1, h2⟩ := trod_sh n _ e cs' _ ht hp
           refine ⟨cs', xs, hcl, fun j hj => ?_, h1, h2⟩
           have := hat j hj
           rw [Addr.add_lit, Addr.add_lit] at this
           rw [← this, Nat.add_assoc]
         obtain ⟨xs, h1, h2, h3⟩ := elems_sh hall len (Nat.le_refl _)
         refine ⟨[.sl len (P.cellsOf e) xs], Rds.one (.sl b off len cap (P.cellsOf e) xs (fun j => (w.cell? ⟨b, off + j, none⟩).getD Go.undef) h1 (fun _ h => h) hle (fun j hj => ?_) (fun j hj => ?_)), ?_⟩
         · obtain ⟨v, hv, _⟩ := h2 j hj
           simp [hv]
         · obtain ⟨v, hv, hr⟩ := h2 j hj
           simpa [hv] using hr
         · unfold ShC; rw [hu]
           exact ⟨len, xs, rfl, by omega, h1, h3⟩
   · rename_i fs hu
     simp only [Bool.and_eq_true, List.all_eq_true] at hp
     obtain ⟨xs, f, _, _, hl, hxl, hf⟩ := DataW.trod_struct hu hx
     have hfs : ∀ g ∈ fs.toList, ∃ ys, Rds w m ((cs.drop g.offset).take (P.cellsOf g.type)) ys ∧ ShC P n g.type ys := by
       intro g hg
       obtain ⟨i, hi, rfl⟩ := List.getElem_of_mem hg
       have hi' : i < fs.size := by simpa using hi
       have h1 := hf i fs[i] (Array.getElem?_eq_getElem hi')
       rw [List.getElem?_eq_getElem (by omega)] at h1
       exact trod_sh n _ _ _ _ (by simpa using h1) (hp.2 _ hg)
     obtain ⟨ys, h1, h2⟩ := fields_sh fs.toList 0 (by rw [hl]; exact hp.1) (Nat.zero_le _) hfs
     rw [List.drop_zero] at h1
     refine ⟨ys, h1, ?_⟩
     unfold ShC; rw [hu]
     exact ⟨by rw [← h1.1, hl], fun g hg => by simpa using (h2 g hg).2⟩
   · cases hp

end
section
variable {P : Program} {W : World}

theorem Rds.get {m : Nat → Nat} {a : List Value} {x : List V} (h : Rds W m a x) : a.length = x.length := h.1

theorem arg_one {H : Type} {enc : TypeId × Value → H} {spare : Nat → Bool} {held : Bool} {n : Nat} {t : TypeId} {v : Value} {d : DataW H} {p : List MemPlace} (m : Nat → Nat)
   (hv : v.cells = #[v]) (h : DataW.Trod enc P W 0 spare held t v d p) (hp : plainT P n t = true) : ∃ x, RV W m [] (fun _ => False) true v x ∧ ShC P n t [x] := by
 obtain ⟨fuel, hf⟩ := h
 rw [hv] at hf
 obtain ⟨xs, h1, h2⟩ := trod_sh (m := m) n fuel t _ _ hf hp
 match xs, h1 with
 | [x], h1 => exact ⟨x, by have := h1.2 0 (by simp); exact this.weak, h2⟩
 | [], h1 => simp [Rds] at h1
 | _ :: _ :: _, h1 => simp [Rds] at h1

theorem law_walk {f : FuncId} {xs : List V} {vs : Array Value} (m : Nat → Nat) (hc : Ctr P f xs [] (.bool true) []) (hgl : GL W (fun _ => False)) (hsz : vs.size = xs.length)
   (hr : ∀ i (hi : i < xs.length), RV W m [] (fun _ => False) true (vs.getD i Go.undef) xs[i]) :
   Calls P f vs W fun e w' => e = .returned (.bool true) ∧ RowKit.Below W.heap.size W w' := by
 refine (hc.2 W vs m (fun _ => False) ⟨fun i j ci cj h => by simp at h, fun id cs h => by simp at h, fun id cs h => by simp at h⟩ (fun b h => h.elim) hgl hsz hr).mono ?_
 rintro e w' ⟨v, m', rfl, hE, _, hv, _⟩
 refine ⟨by cases hv; rfl, hE.os, hE.tape, hE.output, hE.size, fun k hk => hE.block k hk (fun ⟨id, cs, h, _⟩ => by simp at h)⟩

end
end Go.Lv
end
section
namespace Go.Lv

theorem shC_u8 {P : Program} {t : TypeId} {n : Nat} {xs : List V} (hs : P.underlying t = some (.int .u8)) (h : ShC P (n + 1) t xs) : ∃ z, xs = [.int .u8 z] ∧ 0 ≤ z ∧ z ≤ 255 := by
 simp only [ShC, hs] at h
 obtain ⟨z, h1, h2⟩ := h
 refine ⟨z, h1, ?_⟩
 simp [Lit.wf, IntKind.min, IntKind.max, IntKind.signed, IntKind.bits] at h2
 exact h2

theorem shC_list {P : Program} {t e : TypeId} {n : Nat} {xs : List V} (hs : P.underlying t = some (.slice e)) {α : Type} {cs : α → List V} {w : Nat} (hw : P.cellsOf e = w) {ok : α → Prop}
   (he : ∀ ys, ShC P n e ys → ∃ a, ys = cs a ∧ ok a) (h : ShC P (n + 1) t xs) : ∃ L : List α, xs = [.sl L.length w (rows cs L)] ∧ lstR ok L := by
 simp only [ShC, hs, hw] at h
 obtain ⟨l, ys, rfl, hl, hlen, hel⟩ := h
 suffices ∀ (l : Nat) (ys : List V), ys.length = l * w → (∀ i, i < l → ShC P n e ((ys.drop (i * w)).take w)) → ∃ L : List α, L.length = l ∧ rows cs L = ys ∧ ∀ x ∈ L, ok x by
   obtain ⟨L, h1, h2, h3⟩ := this l ys hlen hel
   exact ⟨L, by rw [h1, h2], by rw [h1]; exact hl, h3⟩
 intro l
 induction l with
 | zero => intro ys h1 _; exact ⟨[], rfl, by simp at h1; simp [rows, h1], fun x hx => by simp at hx⟩
 | succ l ih =>
   intro ys h1 h2
   obtain ⟨a, ha, hoa⟩ := he _ (h2 0 (by omega))
   rw [Nat.zero_mul, List.drop_zero] at ha
   obtain ⟨L, h3, h4, h5⟩ := ih (ys.drop w) (by rw [List.length_drop, h1, Nat.succ_mul]; omega) (fun i hi => by
     have := h2 (i + 1) (by omega)
     rw [List.drop_drop]
     rwa [Nat.succ_mul, Nat.add_comm] at this)
   refine ⟨a :: L, by simp [h3], ?_, ?_⟩
   · rw [rows_cons, h4, ← ha, List.take_append_drop]
   · intro x hx
     rcases List.mem_cons.1 hx with rfl | hx
     · exact hoa
     · exact h5 x hx

end Go.Lv
end
