/-
  A part of the proof: texts put together by a program of the prover. Conditions: none.
-/
import Derived.Test.YtignogijdoaipaaGreatDoorZC4
import Derived.Test.YtignogijdoaipaaGreatDoorZC5
import Derived.Test.YtignogijdoaipaaGreatDoorZC7
import Derived.Lib.AtoiAllCases
import Derived.Lib.AtoiTie
import Derived.Lib.Join
import Derived.Lib.SplitLaws
import Derived.WalkKit
set_option linter.unusedSimpArgs false
set_option linter.unusedVariables false
section
set_option maxRecDepth 100000
namespace Go.Proofs
open Go.Lv
def gg (c : UInt8) : Bool := decide (48 ≤ c.toNat) && decide (c.toNat ≤ 57)
def ac1 (n : Nat) (c : UInt8) : Nat := n * 10 + (c.toNat - 48)
def jy (n : Nat) (l : List UInt8) : Nat := l.foldl ac1 n
theorem k9 (n : Nat) : jy n [] = n := rfl
theorem l6 (n : Nat) (c : UInt8) (l : List UInt8) : jy n (c :: l) = jy (ac1 n c) l := List.foldl_cons ..
theorem oq (n : Nat) (c : UInt8) : ac1 n c = n * 10 + (c.toNat - 48) := rfl
theorem y9 (x y : List UInt8) (n : Nat) : jy n (x ++ y) = jy (jy n x) y := List.foldl_append ..
theorem asl (l : List UInt8) : ∀ n : Nat, n ≤ jy n l := by
 induction l with
 | nil => intro n; rw [k9]; exact Nat.le_refl n
 | cons c l ih =>
  intro n
  have h := ih (ac1 n c)
  rw [l6]
  rw [oq] at h ⊢
  omega
theorem agx {u : Nat} (h : u < 10) : Lib.decDigits u = [UInt8.ofNat (48 + u)] := by rw [Lib.decDigits, dif_pos h]
theorem ajm {u : Nat} (h : ¬ u < 10) : Lib.decDigits u = Lib.decDigits (u / 10) ++ [UInt8.ofNat (48 + u % 10)] := by rw [Lib.decDigits, dif_neg h]
theorem ahe {d : Nat} (h : d < 10) : (UInt8.ofNat (48 + d)).toNat = 48 + d := by
 rw [UInt8.toNat_ofNat']; omega
theorem rj : ∀ k u, u < k → (Lib.decDigits u).all gg = true ∧ jy 0 (Lib.decDigits u) = u ∧ Lib.decDigits u ≠ []
 | 0, u, h => by omega
 | k + 1, u, h => by
  by_cases hu : u < 10
  · rw [agx hu]
    refine ⟨?_, ?_, by simp⟩
    · simp only [List.all_cons, List.all_nil, gg, ahe hu, Bool.and_true, Bool.and_eq_true, decide_eq_true_eq]; omega
    · rw [l6, k9, oq, ahe hu]; omega
  · obtain ⟨h1, h2, h3⟩ := rj k (u / 10) (by omega)
    have hd : u % 10 < 10 := by omega
    rw [ajm hu]
    refine ⟨?_, ?_, by simp⟩
    · rw [List.all_append, h1]
      simp only [List.all_cons, List.all_nil, gg, ahe hd, Bool.and_true, Bool.true_and, Bool.and_eq_true, decide_eq_true_eq]; omega
    · rw [y9, h2]
      rw [l6, k9, oq, ahe hd]; omega
theorem ajh : ∀ (l : List UInt8) (n : Nat), l.all gg = true → jy n l < 1000000000000000000 → Lib.parseUint10 n l = .ok (jy n l)
 | [], n, _, _ => rfl
 | c :: l, n, h, hb => by
  simp only [List.all_cons, Bool.and_eq_true, gg, decide_eq_true_eq] at h
  have hle := asl l (ac1 n c)
  rw [l6] at hb ⊢
  have hst := oq n c
  rw [Lib.parseUint10, if_pos h.1, if_neg (by omega), if_neg (by omega)]
  rw [← hst]
  exact ajh l _ (by simpa [gg] using h.2) hb
theorem yp {n : Int} (h0 : -999999999 ≤ n) (h1 : n ≤ 999999999) : Lib.atoiAll (num n).data.toList = .ok n := by
 have key : ∀ u : Nat, u ≤ 999999999 → Lib.parseMag (Lib.decDigits u) = .ok u := by
  intro u hu
  obtain ⟨d1, d2, d3⟩ := rj (u + 1) u (by omega)
  rw [Lib.parseMag, if_neg d3, ajh _ _ d1 (by omega), d2]
 rcases Int.lt_or_le n 0 with hn | hn
 · obtain ⟨u, rfl⟩ : ∃ u : Nat, n = -(u : Int) := ⟨n.natAbs, by omega⟩
   have e : Lib.itoa (-(u : Int)) = 45 :: Lib.decDigits u := by unfold Lib.itoa; rw [if_pos (by omega)]; simp
   show Lib.atoiAll (Lib.itoa (-(u : Int))) = _
   rw [e, Lib.atoiAll_minus, key u (by omega), Lib.signed, if_neg (by omega)]
 · obtain ⟨u, rfl⟩ : ∃ u : Nat, n = u := ⟨n.toNat, by omega⟩
   show Lib.atoiAll (Lib.itoa (u : Int)) = _
   rw [qs]
   obtain ⟨d1, d2, d3⟩ := rj (u + 1) u (by omega)
   cases hd : Lib.decDigits u with
   | nil => exact absurd hd d3
   | cons c l =>
    have hk := key u (by omega)
    rw [hd] at hk d1
    simp only [List.all_cons, Bool.and_eq_true, gg, decide_eq_true_eq] at d1
    rw [Lib.atoiAll_plain c l (by omega) (by omega), hk, Lib.signless, if_neg (by omega)]
theorem asm {a b : Int} (ha : -999999999 ≤ a ∧ a ≤ 999999999) (hb : -999999999 ≤ b ∧ b ≤ 999999999) (h : num a = num b) : a = b := by
 have h1 := yp ha.1 ha.2
 rw [h, yp hb.1 hb.2] at h1
 injection h1 with h1
 exact h1.symm
def yo (s : ByteArray) (n : Int) : Prop := -999999 ≤ n ∧ n ≤ 999999 ∧ num n = s
open Classical in
noncomputable def da (s : ByteArray) : Option Int := if h : ∃ n, yo s n then some h.choose else none
theorem adk {s : ByteArray} {n : Int} (h : yo s n) : da s = some n := by
 have hx : ∃ n, yo s n := ⟨n, h⟩
 rw [da, dif_pos hx]
 have h2 := hx.choose_spec
 congr 1
 exact asm ⟨by have := h2.1; omega, by have := h2.2.1; omega⟩ ⟨by have := h.1; omega, by have := h.2.1; omega⟩ (h2.2.2.trans h.2.2.symm)
theorem qo {s : ByteArray} (h : ∀ n, ¬ yo s n) : da s = none := by
 rw [da, dif_neg (fun ⟨n, hn⟩ => h n hn)]
theorem xy {s : ByteArray} {n : Int} (h : da s = some n) : yo s n := by
 unfold da at h
 split at h
 · rename_i hx
   simp only [Option.some.injEq] at h
   rw [← h]; exact hx.choose_spec
 · cases h
theorem ab0 : ∀ (k u : Nat), u < 10 ^ (k + 1) → (Lib.decDigits u).length ≤ k + 1
 | 0, u, h => by rw [agx (by omega)]; simp
 | k + 1, u, h => by
  by_cases hu : u < 10
  · rw [agx hu]; simp
  · have h2 : u / 10 < 10 ^ (k + 1) := by rw [Nat.pow_succ] at h; omega
    have := ab0 k (u / 10) h2
    rw [ajm hu, List.length_append]
    simp only [List.length_cons, List.length_nil]; omega
theorem ans {n : Int} (h0 : -999999 ≤ n) (h1 : n ≤ 999999) : (num n).size ≤ 7 := by
 rcases Int.lt_or_le n 0 with hn | hn
 · obtain ⟨u, rfl⟩ : ∃ u : Nat, n = -(u : Int) := ⟨n.natAbs, by omega⟩
   have e : Lib.itoa (-(u : Int)) = 45 :: Lib.decDigits u := by unfold Lib.itoa; rw [if_pos (by omega)]; simp
   have := ab0 5 u (by omega)
   show (Lib.itoa (-(u : Int))).toArray.size ≤ 7
   rw [e]; simp; omega
 · obtain ⟨u, rfl⟩ : ∃ u : Nat, n = u := ⟨n.toNat, by omega⟩
   have := ab0 5 u (by omega)
   show (Lib.itoa (u : Int)).toArray.size ≤ 7
   rw [qs]; simp; omega
theorem ak9 {s : ByteArray} {n : Int} (h : da s = some n) : s.size ≤ 7 := by
 obtain ⟨h1, h2, h3⟩ := xy h
 rw [← h3]; exact ans h1 h2
theorem xj {c : UInt8} {s : ByteArray} {j : Nat} : ∀ (m : Nat), j ≤ m → m ≤ s.size → (∀ t (ht : t < s.size), j ≤ t → t < m → (s[t]'ht == c) = false) → gn c s m = gn c s j
 | 0, h1, _, _ => by rw [show j = 0 by omega]
 | m + 1, h1, h2, h => by
  by_cases e : j = m + 1
  · rw [e]
  · rw [tb (show m < s.size by omega) (h m (by omega) (by omega) (by omega))]
    exact xj m (by omega) (by omega) (fun t ht h3 h4 => h t ht h3 (by omega))
theorem ext_get {s : ByteArray} {j t : Nat} (ht : j + t < s.size) : (s.extract j s.size).data.toList[t]? = some (s[j + t]'ht) := by
 have hl : s.data.toList.length = s.size := ga s
 rw [ep, ← hl, List.take_length, List.getElem?_drop, List.getElem?_eq_getElem (by rw [hl]; exact ht), my s ht]
theorem aia (c : UInt8) (s : ByteArray) : ∀ (k j : Nat), j ≤ s.size → (gn c s j).2 = j → Lib.countB (s.extract j s.size) ⟨#[c]⟩ = k → jt c s = (gn c s j).1 ++ Lib.splitB ⟨#[c]⟩ 0 k (s.extract j s.size)
 | k, j, hj, h2, hk => by
  have hx : Lib.indexB (s.extract j s.size) ⟨#[c]⟩ = Lib.indexByte (s.extract j s.size).data.toList c := Lib.index_one _ _
  have hsz : (s.extract j s.size).size = s.size - j := by rw [ByteArray.size_extract]; omega
  rcases Lib.indexB_cases (s.extract j s.size) ⟨#[c]⟩ with hm | ⟨i, hm, hroom⟩
  · have hnone := Lib.indexByte_none (hx.symm.trans hm)
    rw [Lib.splitB_miss _ _ _ _ hm, jt, xj s.size hj (Nat.le_refl _) (fun t ht h3 _ => by
     have h4 := hnone (t - j)
     rw [ext_get (by omega)] at h4
     have e : j + (t - j) = t := by omega
     simp only [e] at h4
     simpa using h4), h2]
  · have h1 : (⟨#[c]⟩ : ByteArray).size = 1 := rfl
    obtain ⟨g1, g2⟩ := Lib.indexByte_some (hx.symm.trans hm)
    rw [h1, hsz] at hroom
    have hi : j + i < s.size := by omega
    rw [ext_get hi] at g1
    have hc : (s[j + i]'hi == c) = true := by simpa using g1
    have hsk : gn c s (j + i) = gn c s j := xj (j + i) (by omega) (by omega) (fun t ht h3 h4 => by
     have h5 := g2 (t - j) (by omega)
     rw [ext_get (by omega)] at h5
     have e : j + (t - j) = t := by omega
     simp only [e] at h5
     simpa using h5)
    have hst := py hi hc
    rw [hsk, h2] at hst
    have hcount := Lib.countB_hit (s.extract j s.size) ⟨#[c]⟩ i (by rw [h1]; omega) hm
    match k, hk with
    | 0, hk => rw [hk] at hcount; omega
    | k + 1, hk =>
     have hee : (s.extract j s.size).extract (i + (⟨#[c]⟩ : ByteArray).size) (s.extract j s.size).size = s.extract (j + i + 1) s.size := by
      rw [h1, hsz]
      apply sc
      rw [ep, ep, ep]
      have hl : s.data.toList.length = s.size := ga s
      rw [← hl, List.take_length, List.take_of_length_le (by simp), List.drop_drop]
      congr 1
     have he0 : (s.extract j s.size).extract 0 (i + 0) = s.extract j (j + i) := by
      apply sc
      rw [ep, ep, ep, List.drop_zero]
      have hl : s.data.toList.length = s.size := ga s
      rw [← hl, List.take_length, List.drop_take, Nat.add_zero, Nat.add_sub_cancel_left]
     have ih := aia c s k (j + i + 1) (by omega) (by rw [hst]) (by rw [← hee]; omega)
     rw [Lib.splitB_hit _ _ _ _ _ hm, ih, hst, hee, he0, List.append_assoc]
     rfl
theorem air (c : UInt8) (s : ByteArray) : Lib.splitB ⟨#[c]⟩ 0 (Lib.countB s ⟨#[c]⟩) s = jt c s := by
 have h := aia c s (Lib.countB (s.extract 0 s.size) ⟨#[c]⟩) 0 (Nat.zero_le _) rfl rfl
 have e : s.extract 0 s.size = s := by simp
 rw [e] at h
 rw [h]; rfl
def nk : List Int → ByteArray
 | [] => ⟨#[]⟩
 | [n] => num n
 | n :: m :: l => num n ++ (⟨#[32]⟩ ++ nk (m :: l))
def a6e : ByteArray := ⟨#[110, 111, 110, 101]⟩
def wQ : ByteArray := ⟨#[63]⟩
def lg (L : List Int) : ByteArray := if L = [] then a6e else nk L
theorem ac0 : ∀ (L : List Int) (n : Int), L ≠ [] → nk (L ++ [n]) = nk L ++ ⟨#[32]⟩ ++ num n
 | [], n, h => absurd rfl h
 | [a], n, _ => by
  show num a ++ (⟨#[32]⟩ ++ num n) = num a ++ ⟨#[32]⟩ ++ num n
  rw [ByteArray.append_assoc]
 | a :: b :: l, n, _ => by
  have ih := ac0 (b :: l) n (by simp)
  show num a ++ (⟨#[32]⟩ ++ nk ((b :: l) ++ [n])) = num a ++ (⟨#[32]⟩ ++ nk (b :: l)) ++ ⟨#[32]⟩ ++ num n
  rw [ih]
  simp only [ByteArray.append_assoc]
theorem afw : ∀ L : List Int, (nk L).data.toList = Lib.join ((L.map num).map (·.data.toList)) [32]
 | [] => rfl
 | [a] => by simp [nk, Lib.join]
 | a :: b :: l => by
  have ih := afw (b :: l)
  rw [nk, lv, lv, ih]
  simp [Lib.join, List.intercalate, List.intersperse]
theorem yb : ∀ L : List Int, (∀ n ∈ L, bt n) → (nk L).size ≤ 22 * L.length
 | [], _ => Nat.le_refl _
 | [a], h => by
  have := zt (h a (by simp))
  simp only [nk, List.length_cons, List.length_nil]; omega
 | a :: b :: l, h => by
  have ih := yb (b :: l) (fun n hn => h n (by simp at hn ⊢; exact .inr hn))
  have h1 := zt (h a (by simp))
  have h2 : (⟨#[32]⟩ : ByteArray).size = 1 := rfl
  rw [nk, ByteArray.size_append, ByteArray.size_append]
  simp only [List.length_cons] at ih ⊢; omega
end Go.Proofs
end
section
set_option maxRecDepth 100000
set_option maxHeartbeats 4000000
namespace Go.Proofs
open Go.Lv Go.RowKit
theorem asg {w : World} {m : Nat → Nat} {h : Hp} {av : Nat → Prop} {vs : Array Value} {s t : ByteArray} (hsz : vs.size = [V.str s, V.str t].length)
 (ha : ∀ i (hi : i < [V.str s, V.str t].length), RV w m h av true (vs.getD i Go.undef) [V.str s, V.str t][i]) : vs = #[.string s, .string t] := by
 obtain ⟨v, u, rfl⟩ : ∃ v u, vs = #[v, u] := by
  match vs, hsz with
  | ⟨[v, u]⟩, _ => exact ⟨v, u, rfl⟩
 have h0 := ha 0 (by simp)
 have h1 := ha 1 (by simp)
 simp only [List.getElem_cons_zero, List.getElem_cons_succ] at h0 h1
 obtain rfl : v = .string s := by
  simp at h0; cases h0; rfl
 obtain rfl : u = .string t := by
  simp at h1; cases h1; rfl
 rfl
theorem adv {w : World} {m : Nat → Nat} {av : Nat → Prop} : RH w m [] av := ⟨fun i j ci cj h => by simp at h, fun id cs h => by simp at h, fun id cs h => by simp at h⟩
theorem aa1 {O : Nat → Prop} {w w' : World} (hb : Below w.heap.size w w') : Ext O w w' :=
 ⟨hb.os, hb.tape, hb.output, hb.size, fun g hg _ => hb.block g hg, fun g hg => Nat.le_of_eq (ik (hb.block g hg)).symm⟩
theorem ao1 (s : ByteArray) (c : UInt8) (hs : s.size ≤ 16777216) : Ctr Tryz.prog 45 [.str s, .str ⟨#[c]⟩] [] (.osl 0 0 (jt c s).length 1) [some (rows StringS.cs (jt c s))] := by
 refine ⟨Tryz.a2m, fun w vs m av hH hav hgl hsz ha => ?_⟩
 obtain rfl := asg hsz ha
 obtain ⟨mv, hm, m0, rfl⟩ := hgl.var (g := 0) (e := false) (by simp [aez])
 refine (Tryz.strings_Split s ⟨#[c]⟩ m0 w (by omega) hm (Nat.le_refl 1)).mono ?_
 rintro e w' ⟨rfl, rfl⟩
 rw [air]
 have hl : Lib.countB s ⟨#[c]⟩ + 1 = (jt c s).length := by
  rw [← air, Lib.splitB_all ⟨#[c]⟩ (Nat.le_refl 1) 0 _ _ rfl]
 rw [hl]
 generalize jt c s = L
 have hrl : (rows StringS.cs L).length = L.length := by rw [bb, Nat.mul_one]
 have hrow : ∀ i (hi : i < (rows StringS.cs L).length), ∃ x, (rows StringS.cs L)[i] = .str x ∧ ((L.map Value.string).toArray).getD i Go.undef = .string x := by
  intro i hi
  have hi' : i < L.length := by omega
  refine ⟨L[i], ?_, ?_⟩
  · have := bw StringS.csl hi'
    rw [Nat.mul_one] at this
    have h2 : (rows StringS.cs L)[i]? = some (.str L[i]) := by
     have h3 := congrArg (·[0]?) this
     simpa [StringS.cs, List.getElem?_take] using h3
    rw [List.getElem?_eq_getElem hi] at h2
    exact Option.some.inj h2
  · simp [hi']
 have hnew := heap_alloc_new w (.cells (L.map Value.string).toArray 9)
 refine ⟨_, fun _ => w.heap.size, rfl, Ext.alloc _ _ _, ⟨fun i j ci cj h1 h2 _ => ?_, fun id cs h => .inr ⟨id, cs, h, rfl⟩, fun id cs h => ?_⟩, ?_, fun id cs h => .inr ⟨Nat.zero_le _, Nat.le_refl _⟩⟩
 · have e1 : i < 1 := by have := (List.getElem?_eq_some_iff.1 h1).1; simpa using this
   have e2 : j < 1 := by have := (List.getElem?_eq_some_iff.1 h2).1; simpa using this
   omega
 · have e1 : id < 1 := by have := (List.getElem?_eq_some_iff.1 h).1; simpa using this
   obtain rfl : id = 0 := by omega
   simp only [List.getElem?_cons_zero, Option.some.injEq] at h
   subst h
   refine .inl ⟨_, _, _, hnew, z8.zero _, by simp [hrl], fun i hi => ?_⟩
   obtain ⟨x, h1, h2⟩ := hrow i hi
   rw [h1, h2]
   exact .str _
 · refine .osl 0 0 L.length L.length 1 _ ⟨rfl, mf _⟩ (by simp [hrl]) (Nat.le_refl _) ?_
   simp only [de, hnew]
   simp
theorem ar7 (L : List ByteArray) (hL : (Lib.join (L.map (·.data.toList)) [32]).length ≤ 140737488355328) (hl : L.length ≤ 16777216) : Ctr Tryz.prog 146 [StringS.sl L, .str ⟨#[32]⟩] [] (.str ⟨(Lib.join (L.map (·.data.toList)) [32]).toArray⟩) [] := by
 refine ⟨Tryz.axx, fun w vs m av hH hav hgl hsz ha => ?_⟩
 obtain ⟨v, u, rfl⟩ : ∃ v u, vs = #[v, u] := by
  match vs, hsz with
  | ⟨[v, u]⟩, _ => exact ⟨v, u, rfl⟩
 have h0 := ha 0 (by simp)
 have h1 := ha 1 (by simp)
 simp only [List.getElem_cons_zero, List.getElem_cons_succ] at h0 h1
 obtain rfl : u = .string ⟨#[32]⟩ := by
  simp at h1; cases h1; rfl
 have hrl : (rows StringS.cs L).length = L.length := by rw [bb, Nat.mul_one]
 have hv : (#[v, Value.string ⟨#[32]⟩] : Array Value).getD 0 Go.undef = v := rfl
 rw [hv] at h0
 generalize hy : StringS.sl L = y at h0
 cases h0 with
 | slz a c wd =>
  have e0 : L = [] := by
   simp only [StringS.sl, V.sl.injEq] at hy
   exact List.length_eq_zero_iff.1 hy.1
  subst e0
  refine (Tryz.strings_Join_none a c ⟨#[32]⟩ w).mono ?_
  rintro e w' ⟨rfl, rfl⟩
  exact ⟨_, m, rfl, Ext.refl _ _, adv, .str _, fun id cs h => by simp at h⟩
 | sl b off n cap wd cs vals hl' ha' hc hv' hr =>
  simp only [StringS.sl, V.sl.injEq] at hy
  obtain ⟨rfl, rfl, rfl⟩ := hy
  by_cases he : L = []
  · subst he
    refine (Tryz.strings_Join_none _ cap ⟨#[32]⟩ w).mono ?_
    rintro e w' ⟨rfl, rfl⟩
    exact ⟨_, m, rfl, Ext.refl _ _, adv, .str _, fun id cs h => by simp at h⟩
  have hpos : 0 < L.length := List.length_pos_iff.2 he
  have hcells : ∀ (j : Nat) x, L[j]? = some x → w.cell? ⟨b, off + j, none⟩ = some (.string x) := by
   intro j x hj
   obtain ⟨hj1, hj2⟩ := List.getElem?_eq_some_iff.1 hj
   have hi : j < (rows StringS.cs L).length := by omega
   have h2 : (rows StringS.cs L)[j] = .str x := by
    have := bw StringS.csl hj1
    rw [Nat.mul_one] at this
    have h3 := congrArg (·[0]?) this
    have h4 : (rows StringS.cs L)[j]? = some (.str L[j]) := by simpa [StringS.cs, List.getElem?_take] using h3
    rw [List.getElem?_eq_getElem hi, hj2] at h4
    exact Option.some.inj h4
   have h5 := hr j hi
   rw [h2] at h5
   rw [hv' j hi]
   generalize vals j = vv at h5
   cases h5
   rfl
  have hbk : b < w.heap.size := World.block_lt_of_cell? w ⟨b, off + 0, none⟩ (hcells 0 L[0] (List.getElem?_eq_getElem hpos))
  refine (Tryz.strings_Join b off cap L ⟨#[32]⟩ w hcells hbk (by omega) hc hL).mono ?_
  rintro e w' ⟨rfl, hb⟩
  exact ⟨_, m, rfl, aa1 hb, adv, .str _, fun id cs h => by simp at h⟩
 | _ => simp [StringS.sl] at hy
end Go.Proofs
end
section
namespace Go.Lv
theorem Ctr.w9 {P : Program} {f : FuncId} {args : List V} {r r' : V} {hout hout' : Hp} (h : Ctr P f args [] r hout) (hw : ak 0 r hout r' hout') : Ctr P f args [] r' hout' :=
 ⟨h.1, fun w vs m av h1 h2 h3 h4 h5 => (h.2 w vs m av h1 h2 h3 h4 h5).mono fun e w' ⟨v, m', g1, g2, g3, g4, g5⟩ => by
  obtain ⟨m2, k1, k2, k3⟩ := hw w m [] av w' m' v rfl (Nat.zero_le _) h2 g2.size g3 g4 g5
  exact ⟨v, m2, g1, g2, k1, k2, k3⟩⟩
section
variable {α : Type} {cs : α → List V} {w : Nat} [nc cs w]
end
end Go.Lv
end
section
set_option maxRecDepth 100000
namespace Go.Proofs
open Go.Lv
theorem tt (c : UInt8) (s : ByteArray) : ∀ (i : Nat) (x : ByteArray), x ∈ (gn c s i).1 → x.size ≤ s.size
 | 0, x, h => by simp [gn] at h
 | i + 1, x, h => by
  by_cases hi : i < s.size
  · cases hc : (s[i]'hi == c) with
    | true =>
     rw [py hi hc] at h
     rcases List.mem_append.1 h with h | h
     · exact tt c s i x h
     · simp only [List.mem_singleton] at h
       subst h
       rw [ByteArray.size_extract]; omega
    | false =>
     rw [tb hi hc] at h
     exact tt c s i x h
  · rw [gn, dif_neg hi] at h
    exact tt c s i x h
theorem aas (c : UInt8) (s : ByteArray) {x : ByteArray} (h : x ∈ jt c s) : x.size ≤ s.size := by
 rw [jt] at h
 rcases List.mem_append.1 h with h | h
 · exact tt c s _ x h
 · simp only [List.mem_singleton] at h
   subst h
   rw [ByteArray.size_extract]; omega
theorem afr (s : ByteArray) (c : UInt8) (hs : s.size ≤ 16777216) : Ctr Tryz.prog 45 [.str s, .str ⟨#[c]⟩] [] (StringS.sl (jt c s)) [] :=
 (ao1 s c hs).w9 (by
  refine ak.pick [] (by decide) (fun j hj => by omega) (.inl ?_) rfl
  have e := dc (cs := StringS.cs) (jt c s)
  simp [ren, bc, posOf, o4, ae] at e ⊢
  exact e.symm)
theorem aix (s : ByteArray) (c : UInt8) (hs : s.size ≤ 16777216) : Ctr Tryz.prog 46 [.str s, .int .u8 c.toNat] [] (StringS.sl (jt c s)) [] :=
 (ue s c hs).w9 (by
  refine ak.pick [] (by decide) (fun j hj => by omega) (.inl ?_) rfl
  have e := dc (cs := StringS.cs) (jt c s)
  simp [ren, bc, posOf, o4, ae] at e ⊢
  exact e.symm)
end Go.Proofs
end
section
set_option maxRecDepth 100000
set_option maxHeartbeats 4000000
namespace Go.Proofs
open Go.Lv Go.RowKit
noncomputable def jv (s : ByteArray) : V := .tup [.int .i64 ((da s).getD 0), .bool (da s).isSome]
theorem agf {w w' : World} (h : GL w (fun _ => False)) (hE : Ext (fun _ => False) w w') : GL w' (fun _ => False) := by
 refine ⟨fun p hp => ?_, fun p hp => ?_⟩
 · obtain ⟨h1, T, fr, h2⟩ := h.1 p hp
   exact ⟨h1, T, fr, by rw [hE.block _ (Array.getElem?_eq_some_iff.1 h2).1 (fun h => h)]; exact h2⟩
 · obtain ⟨h1, C, T, fr, v, h2, h3⟩ := h.2 p hp
   exact ⟨h1, C, T, fr, v, by rw [hE.block _ (Array.getElem?_eq_some_iff.1 h2).1 (fun h => h)]; exact h2, h3⟩
theorem ant {P : Program} {f : FuncId} {args : List V} {r : V} (h : Ctr P f args [] r []) {w : World} (hgl : GL w (fun _ => False)) {vs : Array Value} (hsz : vs.size = args.length)
 (ha : ∀ i (hi : i < args.length), RV w (fun _ => 0) [] (fun _ => False) true (vs.getD i Go.undef) args[i]) :
 Calls P f vs w fun e w' => ∃ v, e = .returned v ∧ Ext (fun _ => False) w w' ∧ RV w' (fun _ => 0) [] (fun _ => False) true v r := by
 refine (h.2 w vs (fun _ => 0) (fun _ => False) adv (fun b hb => hb.elim) hgl hsz ha).mono ?_
 rintro e w' ⟨v, m', rfl, hE, _, hR, _⟩
 refine ⟨v, rfl, hE.mono (fun b _ ⟨id, cs, h, _⟩ => by simp at h), ?_⟩
 exact RV.step (w := w') (w' := w') (m := m') (m' := fun _ => 0) (h := []) (h' := []) (av := avm (fun _ => False) m' []) (av' := fun _ => False) (fun b off v hb hc => ⟨fun h => h, hc⟩) (fun id c hid => by simp at hid) hR
theorem aer (n : Int) (hn : bt n) : Ctr Tryz.prog 108 [.int .i64 n] [] (.tup [.str (if ez n (-999999) 999999 = true then num n else ⟨#[]⟩), .bool (ez n (-999999) 999999)]) [] := by
 refine Ctr.intro Tryz.mixed Tryz.func108 rfl Tryz.av4 ?_
 refine ev2 @Tryz.ntmps108 @Tryz.results108 ?_
 (have ct := j1 n (-999999) 999999; (first | refine al.at ct ⟨leA, leA, leA, trivial⟩ ?_ | refine ah.at ct ⟨leA, leA, leA, trivial⟩ ?_); clear ct)
 refine rn0 ?_
 refine ay.split (fun h => ?_) (fun h => ?_) <;> refine rn1 @h ?_
 · have h' : ez n (-999999) 999999 = false := by simpa using h
   exact ak.aq (by rw [h']; rfl) (by rfl)
 · have h' : ez n (-999999) 999999 = true := by simpa using h
   (first | refine al.at (n6 n hn) ⟨leA, trivial⟩ ?_ | refine ah.at (n6 n hn) ⟨leA, trivial⟩ ?_)
   refine rn0 ?_
   exact ak.aq (by rw [h']; rfl) (by rfl)
theorem sf (n : Int) (hn : bt n) {w : World} (hgl : GL w (fun _ => False)) : Calls Tryz.prog 108 #[.int .i64 n] w fun e w' =>
 e = .returned (.tuple #[.string (if ez n (-999999) 999999 = true then num n else ⟨#[]⟩), .bool (ez n (-999999) 999999)]) ∧ Ext (fun _ => False) w w' := by
 refine (ant (aer n hn) hgl rfl (fun i hi => ?_)).mono ?_
 · have e : i = 0 := by simp at hi; omega
   subst e
   exact .int _ _
 · rintro e w' ⟨v, rfl, hE, hR⟩
   refine ⟨?_, hE⟩
   cases hR with
   | tup a a' ha hra =>
    have h0 := hra 0 (by simp)
    have h1 := hra 1 (by simp)
    simp only [List.getElem_cons_zero, List.getElem_cons_succ] at h0 h1
    match a, ha with
    | ⟨[x, y]⟩, _ =>
     have e0 : (⟨[x, y]⟩ : Array Value).getD 0 Go.undef = x := rfl
     have e1 : (⟨[x, y]⟩ : Array Value).getD 1 Go.undef = y := rfl
     rw [e0] at h0
     rw [e1] at h1
     generalize (if ez n (-999999) 999999 = true then num n else (⟨#[]⟩ : ByteArray)) = tx at *
     generalize ez n (-999999) 999999 = bx at *
     cases h0
     cases h1
     rfl
theorem ag8 (s : ByteArray) (hs : s.size ≤ 281474976710656) {w : World} (hgl : GL w (fun _ => False)) : Calls Tryz.prog 70 #[.string s] w fun e w' =>
 e = .returned (.tuple #[.int .i64 ((da s).getD 0), .bool (da s).isSome]) ∧ Ext (fun _ => False) w w' := by
 by_cases hl : s.size ≤ 7
 rotate_left
 · have hno : da s = none := by
    cases h : da s with
    | none => rfl
    | some n => exact absurd (ak9 h) hl
   have hd : decide ((s.size : Int) > 7) = true := decide_eq_true (by omega)
   rw [hno]
   go_enter Tryz.func70, Tryz.ntmps70
   go_wp2
   go_ret2
   exact ⟨rfl, Ext.refl _ _⟩
 have hd : decide ((s.size : Int) > 7) = false := decide_eq_false (by omega)
 cases ha : Lib.atoiAll s.data.toList with
 | range =>
  exfalso
  rw [Lib.atoiAll_short _ (by have := ga s; omega)] at ha
  cases hx : Lib.atoi s.data.toList <;> rw [hx] at ha <;> cases ha
 | ok v =>
  obtain ⟨vb0, vb1⟩ := Lib.atoiAll_bounds ha
  have hvi : bt v := ⟨vb0, vb1⟩
  have hun : ∀ n, yo s n → n = v := fun n hn => by
   have := yp (n := n) (by have := hn.1; omega) (by have := hn.2.1; omega)
   rw [hn.2.2, ha] at this
   injection this with this
   exact this.symm
  have hW : ∀ W1, (W1 = w ∨ ∃ t, W1 = Lib.bytesWorld w 5 t) → Ext (fun _ => False) w W1 := by
   rintro W1 (rfl | ⟨t, rfl⟩)
   · exact Ext.refl _ _
   · exact aa1 (Lib.bytesWorld_below _ _ _)
  cases hin : ez v (-999999) 999999 with
  | false =>
   have hno : da s = none := qo (fun n hn => by
    have h1 := hun n hn
    subst h1
    have : ez n (-999999) 999999 = true := gp.2 ⟨hn.1, hn.2.1⟩
    rw [hin] at this
    cases this)
   have hF := fun {W : World} (h : GL W (fun _ => False)) => sf v hvi h
   simp only [hin] at hF
   rw [hno]
   go_enter Tryz.func70, Tryz.ntmps70
   go_wp2_with (go_at_call 107; refine (Tryz.strconv_Atoi_ok s (by omega) v ha _).mono ?_; rintro e W1 ⟨rfl, hw1⟩)
   have hE1 := hW W1 hw1
   go_wp2_with (go_at_call 108; refine (hF (agf hgl hE1)).mono ?_; rintro e W2 ⟨rfl, hE⟩)
   go_wp2
   go_ret2
   exact ⟨rfl, hE1.trans hE⟩
  | true =>
   have hF := fun {W : World} (h : GL W (fun _ => False)) => sf v hvi h
   simp only [hin, if_true] at hF
   by_cases hq : num v = s
   · have hp : yo s v := ⟨(gp.1 hin).1, (gp.1 hin).2, hq⟩
     rw [adk hp]
     rw [hq] at hF
     go_enter Tryz.func70, Tryz.ntmps70
     go_wp2_with (go_at_call 107; refine (Tryz.strconv_Atoi_ok s (by omega) v ha _).mono ?_; rintro e W1 ⟨rfl, hw1⟩)
     have hE1 := hW W1 hw1
     go_wp2_with (go_at_call 108; refine (hF (agf hgl hE1)).mono ?_; rintro e W2 ⟨rfl, hE⟩)
     go_wp2
     go_ret2
     exact ⟨rfl, hE1.trans hE⟩
   · have hno : da s = none := qo (fun n hn => by
      have h1 := hun n hn
      subst h1
      exact hq hn.2.2)
     have hq2 : ((num v).toList == s.toList) = false := by rw [gw]; exact decide_eq_false hq
     rw [hno]
     go_enter Tryz.func70, Tryz.ntmps70
     go_wp2_with (go_at_call 107; refine (Tryz.strconv_Atoi_ok s (by omega) v ha _).mono ?_; rintro e W1 ⟨rfl, hw1⟩)
     have hE1 := hW W1 hw1
     go_wp2_with (go_at_call 108; refine (hF (agf hgl hE1)).mono ?_; rintro e W2 ⟨rfl, hE⟩)
     go_wp2
     all_goals first | (go_ret2; exact ⟨rfl, hE1.trans hE⟩) | (exfalso; simp_all; done)
 | _ =>
  have hno : da s = none := qo (fun n hn => by
   have := yp (n := n) (by have := hn.1; omega) (by have := hn.2.1; omega)
   rw [hn.2.2, ha] at this
   cases this)
  obtain ⟨ev, hv, hev⟩ := hgl.var (g := 1) (e := true) (by simp [aez])
  rw [hno]
  go_enter Tryz.func70, Tryz.ntmps70
  go_wp2_with (go_at_call 107; refine (Tryz.strconv_Atoi_syntax s hs ha (by intro h; cases h) (by intro v h; cases h) ev _ hv hev).mono ?_; rintro e W1 ⟨N, rfl, hN1, hN2, hb⟩)
  have hE1 : Ext (fun _ => False) w W1 := aa1 hb
  go_wp2_with (go_at_call 108; refine (sf 0 ⟨by omega, by omega⟩ (agf hgl hE1)).mono ?_; rintro e W2 ⟨rfl, hE⟩)
  go_wp2
  go_ret2
  exact ⟨rfl, hE1.trans hE⟩
theorem yj (s : ByteArray) (hs : s.size ≤ 281474976710656) : Ctr Tryz.prog 70 [.str s] [] (jv s) [] := by
 refine ⟨Tryz.a1d, fun w vs m av hH hav hgl hsz ha => ?_⟩
 obtain ⟨v, rfl⟩ : ∃ v, vs = #[v] := by
  match vs, hsz with
  | ⟨[v]⟩, _ => exact ⟨v, rfl⟩
 have h0 := ha 0 (by simp)
 simp only [List.getElem_cons_zero] at h0
 obtain rfl : v = .string s := by
  simp at h0; cases h0; rfl
 refine (ag8 s hs (hgl.mono (fun b hb => hb.elim))).mono ?_
 rintro e w' ⟨rfl, hE⟩
 refine ⟨_, m, rfl, hE.mono (fun b _ h => h.elim), adv, ?_, fun id cs h => by simp at h⟩
 refine .tup _ _ rfl (fun i hi => ?_)
 match i, hi with
 | 0, _ => exact .int _ _
 | 1, _ => exact .bool _
theorem ae0 {s : ByteArray} {n : Int} (h : yo s n) : s.data.toList = if n < 0 then 45 :: Lib.decDigits n.natAbs else Lib.decDigits n.toNat := by
 rw [← h.2.2]
 show Lib.itoa n = _
 rfl
theorem a52 {u : Nat} {l : List UInt8} {c : UInt8} (h : Lib.decDigits u = c :: l) : (c == 45) = false := by
 have := (rj (u + 1) u (by omega)).1
 rw [h] at this
 simp only [List.all_cons, Bool.and_eq_true, gg, decide_eq_true_eq] at this
 rw [beq_eq_false_iff_ne]
 intro e
 subst e
 have : (45 : UInt8).toNat = 45 := rfl
 omega
theorem as1 : ∀ (l : List UInt8) (n : Nat), l.all gg = true → jy n l + 1 ≤ (n + 1) * 10 ^ l.length := by
 intro l
 induction l with
 | nil => intro n _; rw [k9]; simp
 | cons c l ih =>
  intro n h
  simp only [List.all_cons, Bool.and_eq_true] at h
  have h1 := ih (ac1 n c) h.2
  have h2 := h.1
  simp only [gg, Bool.and_eq_true, decide_eq_true_eq] at h2
  rw [l6, List.length_cons, Nat.pow_succ]
  have h3 : ac1 n c + 1 ≤ (n + 1) * 10 := by rw [oq]; omega
  have h4 := Nat.mul_le_mul_right (10 ^ l.length) h3
  have e : (n + 1) * (10 ^ l.length * 10) = (n + 1) * 10 * 10 ^ l.length := by rw [Nat.mul_comm (10 ^ l.length) 10, ← Nat.mul_assoc]
  omega
theorem lx {l : List UInt8} (h : l.all gg = true) (hl : l.length ≤ 6) : jy 0 l ≤ 999999 := by
 have h1 := as1 l 0 h
 have h2 : (10 : Nat) ^ l.length ≤ 10 ^ 6 := Nat.pow_le_pow_right (by decide) hl
 omega
structure q8 (s t : ByteArray) : Prop where
 rd : ∀ n, yo s n → t.data.toList = Lib.decDigits n.natAbs ∧ (n < 0 ↔ t.size < s.size)
 le : t.size ≤ s.size
theorem akn {s : ByteArray} (h1 : 1 < s.size) (h2 : (s[0]'(by omega) == 45) = true) : q8 s (s.extract 1 s.size) := by
 have e0 : s.data.toList = s[0]'(by omega) :: s.data.toList.drop 1 := by
  have := List.drop_eq_getElem_cons (l := s.data.toList) (i := 0) (by rw [ga]; omega)
  rw [List.drop_zero, my s (by omega)] at this
  exact this
 have et : (s.extract 1 s.size).data.toList = s.data.toList.drop 1 := by
  have hl : s.data.toList.length = s.size := ga s
  rw [ep, ← hl, List.take_length]
 refine ⟨fun n hn => ?_, by rw [ByteArray.size_extract]; omega⟩
 have hL := ae0 hn
 split at hL
 · rename_i hneg
   rw [et, hL]
   refine ⟨rfl, fun _ => by rw [ByteArray.size_extract]; omega, fun _ => hneg⟩
 · exfalso
   rw [e0] at hL
   have := a52 hL.symm
   rw [h2] at this
   cases this
theorem afh {s : ByteArray} (h : s.size ≤ 1 ∨ ∃ h1 : 1 < s.size, (s[0]'(by omega) == 45) = false) : q8 s s := by
 refine ⟨fun n hn => ?_, Nat.le_refl _⟩
 have hL := ae0 hn
 have hl : s.data.toList.length = s.size := ga s
 split at hL
 · rename_i hneg
   exfalso
   have hd := (rj (n.natAbs + 1) n.natAbs (by omega)).2.2
   have h3 : 0 < (Lib.decDigits n.natAbs).length := List.length_pos_iff.2 hd
   have h4 : s.size = (Lib.decDigits n.natAbs).length + 1 := by rw [← hl, hL, List.length_cons]
   rcases h with h | ⟨h1, h2⟩
   · omega
   · have e0 : s.data.toList = s[0]'(by omega) :: s.data.toList.drop 1 := by
      have := List.drop_eq_getElem_cons (l := s.data.toList) (i := 0) (by rw [ga]; omega)
      rw [List.drop_zero, my s (by omega)] at this
      exact this
     rw [e0] at hL
     injection hL with hL _
     rw [hL] at h2
     cases h2
 · rename_i hneg
   rw [hL]
   have e : n.toNat = n.natAbs := by omega
   rw [e]
   exact ⟨rfl, fun h => absurd h hneg, fun h => by omega⟩
theorem q8.no {s t : ByteArray} (h : q8 s t) (hb : ¬ (1 ≤ t.size ∧ t.size ≤ 6) ∨ t.data.toList.all gg = false) : da s = none := qo (fun n hn => by
 obtain ⟨h1, _⟩ := h.rd n hn
 obtain ⟨d1, _, d3⟩ := rj (n.natAbs + 1) n.natAbs (by omega)
 rcases hb with hb | hb
 · have h2 : 0 < (Lib.decDigits n.natAbs).length := List.length_pos_iff.2 d3
   have h3 := ab0 5 n.natAbs (by have := hn.1; have := hn.2.1; omega)
   rw [← h1, ga] at h2 h3
   omega
 · rw [h1, d1] at hb; cases hb)
def aan (s t : ByteArray) (u : Nat) : Int := if t.size < s.size then -(u : Int) else u
theorem q8.yes {s t : ByteArray} (h : q8 s t) (hd : t.data.toList.all gg = true) (h6 : t.size ≤ 6) (hq : num (aan s t (jy 0 t.data.toList)) = s) : da s = some (aan s t (jy 0 t.data.toList)) := by
 have hb := lx hd (by rw [ga]; exact h6)
 refine adk ⟨?_, ?_, hq⟩ <;> (unfold aan; split <;> omega)
theorem q8.not {s t : ByteArray} (h : q8 s t) (hq : ¬ num (aan s t (jy 0 t.data.toList)) = s) : da s = none := qo (fun n hn => by
 obtain ⟨h1, h2⟩ := h.rd n hn
 obtain ⟨_, d2, _⟩ := rj (n.natAbs + 1) n.natAbs (by omega)
 apply hq
 rw [h1, d2, ← hn.2.2]
 congr 1
 unfold aan
 have e : (num n).size = s.size := by rw [hn.2.2]
 split
 · rename_i h3
   have := h2.2 (by omega)
   omega
 · rename_i h3
   have : ¬ n < 0 := fun h4 => h3 (by have := h2.1 h4; omega)
   omega)
theorem an0 (s : ByteArray) (hs : s.size ≤ 281474976710656) : Ctr Tryz.prog 121 [.str s] [] (jv s) [] := by
 refine Ctr.intro Tryz.mixed Tryz.func121 rfl Tryz.axy ?_
 refine ev2 @Tryz.ntmps121 @Tryz.results121 ?_
 refine ax.bu (fun g0 => ?_) (fun g0 => ?_) <;> refine rn1 @g0 ?_
 · have hs1 : 1 < s.size := by simp at g0; omega
   have hbb : (s[0]'(by omega) == 45) = (((s[0]'(by omega)).toNat : Int) == 45) := by
    rw [Bool.eq_iff_iff]; simp only [beq_iff_eq]
    constructor
    · intro g; rw [g]; rfl
    · intro g; exact UInt8.toNat_inj.1 (by have : (45 : UInt8).toNat = 45 := rfl; omega)
   refine ⟨by omega, ?_⟩
   refine ay.split (fun g2 => ?_) (fun g2 => ?_)
   · have hB : q8 s (s.extract 1 s.size) := akn hs1 (by rw [hbb]; exact g2)
     refine rn1 @g2 ?_
     have hts := hB.le
     refine rn0 ?_
     (have ct := dy ((s.extract 1 s.size).size : Int) 1 6; (first | refine al.at ct ⟨leA, leA, leA, trivial⟩ ?_ | refine ah.at ct ⟨leA, leA, leA, trivial⟩ ?_); clear ct)
     refine rn0 ?_
     refine ay.split (fun g1 => ?_) (fun g1 => ?_) <;> refine rn1 @g1 ?_
     · have hr : ¬ (1 ≤ (s.extract 1 s.size).size ∧ (s.extract 1 s.size).size ≤ 6) := by
        have : ez ((s.extract 1 s.size).size : Int) 1 6 = false := by simpa using g1
        intro hx
        have h2 : ez ((s.extract 1 s.size).size : Int) 1 6 = true := gp.2 ⟨by omega, by omega⟩
        rw [this] at h2; cases h2
       rw [jv, hB.no (.inl hr)]
       exact ak.aq rfl (by rfl)
     have hr : ez ((s.extract 1 s.size).size : Int) 1 6 = true := by simpa using g1
     have hr2 := gp.1 hr
     have hl : (s.extract 1 s.size).data.toList.length = (s.extract 1 s.size).size := ga (s.extract 1 s.size)
     have hl6 : (s.extract 1 s.size).size ≤ 6 := by omega
     refine dr.intro (fun i : Nat => i ≤ (s.extract 1 s.size).size ∧ ((s.extract 1 s.size).data.toList.take i).all gg = true) (fun i => ⟨(.str s :: (un 3 (.str (s.extract 1 s.size) :: .int .i64 (jy 0 ((s.extract 1 s.size).data.toList.take i)) :: .int .i64 i :: (un 51 [])))), [], 0⟩) (fun i => (s.extract 1 s.size).size - i) 0 ⟨Nat.zero_le _, rfl⟩ ?_ (fun i hi => ?_)
     · refine au.cut (0) (by simp) (by simp) ?_ ?_
       · simp [LeC, LeV, ren, bq, k9]
       · rfl
     refine ev0 ?_
     refine ay.split (fun h1 => ?_) (fun h1 => ?_)
     · have hi' : i < (s.extract 1 s.size).size := by simpa using h1
       have hsm := lx hi.2 (by rw [List.length_take]; omega)
       have hst : (s.extract 1 s.size).data.toList.take (i + 1) = (s.extract 1 s.size).data.toList.take i ++ [(s.extract 1 s.size)[i]'hi'] := by
        rw [List.take_succ_eq_append_getElem (by rw [hl]; exact hi'), my (s.extract 1 s.size) hi']
       have hbad : gg ((s.extract 1 s.size)[i]'hi') = false → da s = none := fun hd => hB.no (.inr (by
        rw [List.all_eq_false]
        exact ⟨(s.extract 1 s.size)[i]'hi', by rw [← my (s.extract 1 s.size) hi']; exact List.getElem_mem _, by simp [hd]⟩))
       refine ev1 @h1 ?_
       refine ⟨⟨by omega, hi'⟩, ?_⟩
       refine ax.cq (fun h2 => ?_) (fun h2 => ?_) <;> refine ev1 @h2 ?_
       · refine ⟨⟨by omega, hi'⟩, ?_⟩
         refine ay.split (fun h3 => ?_) (fun h3 => ?_) <;> refine ev1 @h3 ?_
         · rw [jv, hbad (by simp at h3; simp only [gg, Bool.and_eq_false_iff, decide_eq_false_iff_not]; omega)]
           exact ak.aq rfl (by rfl)
         · have hdg : gg ((s.extract 1 s.size)[i]'hi') = true := by simp at h2 h3; simp only [gg, Bool.and_eq_true, decide_eq_true_eq]; omega
           have hdg2 := hdg
           simp only [gg, Bool.and_eq_true, decide_eq_true_eq] at hdg2
           have hvs : jy 0 ((s.extract 1 s.size).data.toList.take (i + 1)) = jy 0 ((s.extract 1 s.size).data.toList.take i) * 10 + (((s.extract 1 s.size)[i]'hi').toNat - 48) := by rw [hst, y9, l6, k9, oq]
           have hw8 : IntKind.u8.wrap ((((s.extract 1 s.size)[i]'hi').toNat : Int) - 48) = (((s.extract 1 s.size)[i]'hi').toNat : Int) - 48 := by rw [IntKind.wrap_u8]; omega
           refine ⟨⟨by omega, hi'⟩, i + 1, ⟨hi', by rw [hst, List.all_append, hi.2]; simp [hdg]⟩, ?_, by omega⟩
           refine au.cut (0) (by simp) (by simp) ?_ ?_
           · rw [hvs, hw8, wrap_i64 (n := 10 * _) (by omega) (by omega), wrap_i64 (n := _ - 48) (by omega) (by omega), wrap_i64 (n := 10 * _ + _) (by omega) (by omega), wrap_i64 (n := (i : Int) + 1) (by omega) (by omega)]
             simp [LeC, LeV, ren, bq]
             try omega
           · rfl
       · rw [jv, hbad (by simp at h2; simp only [gg, Bool.and_eq_false_iff, decide_eq_false_iff_not]; omega)]
         exact ak.aq rfl (by rfl)
     · have hi' : i = (s.extract 1 s.size).size := by have := of_decide_eq_false h1; omega
       subst hi'
       have htk : (s.extract 1 s.size).data.toList.take (s.extract 1 s.size).size = (s.extract 1 s.size).data.toList := by rw [← hl, List.take_length]
       simp only [htk] at hi ⊢
       have hsm := lx hi.2 (by omega)
       refine ev1 @h1 ?_
       refine ay.split (fun h2 => ?_) (fun h2 => ?_)
       · have hsg : aan s (s.extract 1 s.size) (jy 0 (s.extract 1 s.size).data.toList) = 0 - ((jy 0 (s.extract 1 s.size).data.toList : Nat) : Int) := by unfold aan; rw [if_pos (by have := of_decide_eq_true h2; omega)]; omega
         refine rn1 @h2 ?_
         (have ct := fj (0 - ((jy 0 (s.extract 1 s.size).data.toList : Nat) : Int)) (by omega) (by omega); (first | refine al.at ct ⟨leA, trivial⟩ ?_ | refine ah.at ct ⟨leA, trivial⟩ ?_); clear ct)
         rw [← hsg]
         refine rn1 @gw ?_
         refine ay.split (fun h3 => ?_) (fun h3 => ?_) <;> refine rn1 @h3 ?_
         · rw [jv, hB.not (by simpa using h3)]
           exact ak.aq rfl (by rfl)
         · rw [jv, hB.yes hi.2 hl6 (by simpa using h3)]
           exact ak.aq (by rw [hsg]; rfl) (by rfl)
       · have hsg : aan s (s.extract 1 s.size) (jy 0 (s.extract 1 s.size).data.toList) = ((jy 0 (s.extract 1 s.size).data.toList : Nat) : Int) := by unfold aan; rw [if_neg (by have := of_decide_eq_false h2; omega)]
         refine rn1 @h2 ?_
         (have ct := fj ((jy 0 (s.extract 1 s.size).data.toList : Nat) : Int) (by omega) (by omega); (first | refine al.at ct ⟨leA, trivial⟩ ?_ | refine ah.at ct ⟨leA, trivial⟩ ?_); clear ct)
         rw [← hsg]
         refine rn1 @gw ?_
         refine ay.split (fun h3 => ?_) (fun h3 => ?_) <;> refine rn1 @h3 ?_
         · rw [jv, hB.not (by simpa using h3)]
           exact ak.aq rfl (by rfl)
         · rw [jv, hB.yes hi.2 hl6 (by simpa using h3)]
           exact ak.aq (by rw [hsg]; rfl) (by rfl)
   · have hB : q8 s s := afh (.inr ⟨hs1, by rw [hbb]; exact g2⟩)
     refine rn1 @g2 ?_
     have hts := hB.le
     refine rn0 ?_
     (have ct := dy (s.size : Int) 1 6; (first | refine al.at ct ⟨leA, leA, leA, trivial⟩ ?_ | refine ah.at ct ⟨leA, leA, leA, trivial⟩ ?_); clear ct)
     refine rn0 ?_
     refine ay.split (fun g1 => ?_) (fun g1 => ?_) <;> refine rn1 @g1 ?_
     · have hr : ¬ (1 ≤ s.size ∧ s.size ≤ 6) := by
        have : ez (s.size : Int) 1 6 = false := by simpa using g1
        intro hx
        have h2 : ez (s.size : Int) 1 6 = true := gp.2 ⟨by omega, by omega⟩
        rw [this] at h2; cases h2
       rw [jv, hB.no (.inl hr)]
       exact ak.aq rfl (by rfl)
     have hr : ez (s.size : Int) 1 6 = true := by simpa using g1
     have hr2 := gp.1 hr
     have hl : s.data.toList.length = s.size := ga s
     have hl6 : s.size ≤ 6 := by omega
     refine dr.intro (fun i : Nat => i ≤ s.size ∧ (s.data.toList.take i).all gg = true) (fun i => ⟨(.str s :: (un 3 (.str s :: .int .i64 (jy 0 (s.data.toList.take i)) :: .int .i64 i :: (un 51 [])))), [], 0⟩) (fun i => s.size - i) 0 ⟨Nat.zero_le _, rfl⟩ ?_ (fun i hi => ?_)
     · refine au.cut (0) (by simp) (by simp) ?_ ?_
       · simp [LeC, LeV, ren, bq, k9]
       · rfl
     refine ev0 ?_
     refine ay.split (fun h1 => ?_) (fun h1 => ?_)
     · have hi' : i < s.size := by simpa using h1
       have hsm := lx hi.2 (by rw [List.length_take]; omega)
       have hst : s.data.toList.take (i + 1) = s.data.toList.take i ++ [s[i]'hi'] := by
        rw [List.take_succ_eq_append_getElem (by rw [hl]; exact hi'), my s hi']
       have hbad : gg (s[i]'hi') = false → da s = none := fun hd => hB.no (.inr (by
        rw [List.all_eq_false]
        exact ⟨s[i]'hi', by rw [← my s hi']; exact List.getElem_mem _, by simp [hd]⟩))
       refine ev1 @h1 ?_
       refine ⟨⟨by omega, hi'⟩, ?_⟩
       refine ax.cq (fun h2 => ?_) (fun h2 => ?_) <;> refine ev1 @h2 ?_
       · refine ⟨⟨by omega, hi'⟩, ?_⟩
         refine ay.split (fun h3 => ?_) (fun h3 => ?_) <;> refine ev1 @h3 ?_
         · rw [jv, hbad (by simp at h3; simp only [gg, Bool.and_eq_false_iff, decide_eq_false_iff_not]; omega)]
           exact ak.aq rfl (by rfl)
         · have hdg : gg (s[i]'hi') = true := by simp at h2 h3; simp only [gg, Bool.and_eq_true, decide_eq_true_eq]; omega
           have hdg2 := hdg
           simp only [gg, Bool.and_eq_true, decide_eq_true_eq] at hdg2
           have hvs : jy 0 (s.data.toList.take (i + 1)) = jy 0 (s.data.toList.take i) * 10 + ((s[i]'hi').toNat - 48) := by rw [hst, y9, l6, k9, oq]
           have hw8 : IntKind.u8.wrap (((s[i]'hi').toNat : Int) - 48) = ((s[i]'hi').toNat : Int) - 48 := by rw [IntKind.wrap_u8]; omega
           refine ⟨⟨by omega, hi'⟩, i + 1, ⟨hi', by rw [hst, List.all_append, hi.2]; simp [hdg]⟩, ?_, by omega⟩
           refine au.cut (0) (by simp) (by simp) ?_ ?_
           · rw [hvs, hw8, wrap_i64 (n := 10 * _) (by omega) (by omega), wrap_i64 (n := _ - 48) (by omega) (by omega), wrap_i64 (n := 10 * _ + _) (by omega) (by omega), wrap_i64 (n := (i : Int) + 1) (by omega) (by omega)]
             simp [LeC, LeV, ren, bq]
             try omega
           · rfl
       · rw [jv, hbad (by simp at h2; simp only [gg, Bool.and_eq_false_iff, decide_eq_false_iff_not]; omega)]
         exact ak.aq rfl (by rfl)
     · have hi' : i = s.size := by have := of_decide_eq_false h1; omega
       subst hi'
       have htk : s.data.toList.take s.size = s.data.toList := by rw [← hl, List.take_length]
       simp only [htk] at hi ⊢
       have hsm := lx hi.2 (by omega)
       refine ev1 @h1 ?_
       have hsg : aan s s (jy 0 s.data.toList) = ((jy 0 s.data.toList : Nat) : Int) := by unfold aan; rw [if_neg (by omega)]
       (have ct := fj ((jy 0 s.data.toList : Nat) : Int) (by omega) (by omega); (first | refine al.at ct ⟨leA, trivial⟩ ?_ | refine ah.at ct ⟨leA, trivial⟩ ?_); clear ct)
       rw [← hsg]
       refine rn1 @gw ?_
       refine ay.split (fun h3 => ?_) (fun h3 => ?_) <;> refine rn1 @h3 ?_
       · rw [jv, hB.not (by simpa using h3)]
         exact ak.aq rfl (by rfl)
       · rw [jv, hB.yes hi.2 hl6 (by simpa using h3)]
         exact ak.aq (by rw [hsg]; rfl) (by rfl)
 · have hB : q8 s s := afh (.inl (by simp at g0; omega))
   have hts := hB.le
   refine rn0 ?_
   (have ct := dy (s.size : Int) 1 6; (first | refine al.at ct ⟨leA, leA, leA, trivial⟩ ?_ | refine ah.at ct ⟨leA, leA, leA, trivial⟩ ?_); clear ct)
   refine rn0 ?_
   refine ay.split (fun g1 => ?_) (fun g1 => ?_) <;> refine rn1 @g1 ?_
   · have hr : ¬ (1 ≤ s.size ∧ s.size ≤ 6) := by
      have : ez (s.size : Int) 1 6 = false := by simpa using g1
      intro hx
      have h2 : ez (s.size : Int) 1 6 = true := gp.2 ⟨by omega, by omega⟩
      rw [this] at h2; cases h2
     rw [jv, hB.no (.inl hr)]
     exact ak.aq rfl (by rfl)
   have hr : ez (s.size : Int) 1 6 = true := by simpa using g1
   have hr2 := gp.1 hr
   have hl : s.data.toList.length = s.size := ga s
   have hl6 : s.size ≤ 6 := by omega
   refine dr.intro (fun i : Nat => i ≤ s.size ∧ (s.data.toList.take i).all gg = true) (fun i => ⟨(.str s :: (un 3 (.str s :: .int .i64 (jy 0 (s.data.toList.take i)) :: .int .i64 i :: (un 51 [])))), [], 0⟩) (fun i => s.size - i) 0 ⟨Nat.zero_le _, rfl⟩ ?_ (fun i hi => ?_)
   · refine au.cut (0) (by simp) (by simp) ?_ ?_
     · simp [LeC, LeV, ren, bq, k9]
     · rfl
   refine ev0 ?_
   refine ay.split (fun h1 => ?_) (fun h1 => ?_)
   · have hi' : i < s.size := by simpa using h1
     have hsm := lx hi.2 (by rw [List.length_take]; omega)
     have hst : s.data.toList.take (i + 1) = s.data.toList.take i ++ [s[i]'hi'] := by
      rw [List.take_succ_eq_append_getElem (by rw [hl]; exact hi'), my s hi']
     have hbad : gg (s[i]'hi') = false → da s = none := fun hd => hB.no (.inr (by
      rw [List.all_eq_false]
      exact ⟨s[i]'hi', by rw [← my s hi']; exact List.getElem_mem _, by simp [hd]⟩))
     refine ev1 @h1 ?_
     refine ⟨⟨by omega, hi'⟩, ?_⟩
     refine ax.cq (fun h2 => ?_) (fun h2 => ?_) <;> refine ev1 @h2 ?_
     · refine ⟨⟨by omega, hi'⟩, ?_⟩
       refine ay.split (fun h3 => ?_) (fun h3 => ?_) <;> refine ev1 @h3 ?_
       · rw [jv, hbad (by simp at h3; simp only [gg, Bool.and_eq_false_iff, decide_eq_false_iff_not]; omega)]
         exact ak.aq rfl (by rfl)
       · have hdg : gg (s[i]'hi') = true := by simp at h2 h3; simp only [gg, Bool.and_eq_true, decide_eq_true_eq]; omega
         have hdg2 := hdg
         simp only [gg, Bool.and_eq_true, decide_eq_true_eq] at hdg2
         have hvs : jy 0 (s.data.toList.take (i + 1)) = jy 0 (s.data.toList.take i) * 10 + ((s[i]'hi').toNat - 48) := by rw [hst, y9, l6, k9, oq]
         have hw8 : IntKind.u8.wrap (((s[i]'hi').toNat : Int) - 48) = ((s[i]'hi').toNat : Int) - 48 := by rw [IntKind.wrap_u8]; omega
         refine ⟨⟨by omega, hi'⟩, i + 1, ⟨hi', by rw [hst, List.all_append, hi.2]; simp [hdg]⟩, ?_, by omega⟩
         refine au.cut (0) (by simp) (by simp) ?_ ?_
         · rw [hvs, hw8, wrap_i64 (n := 10 * _) (by omega) (by omega), wrap_i64 (n := _ - 48) (by omega) (by omega), wrap_i64 (n := 10 * _ + _) (by omega) (by omega), wrap_i64 (n := (i : Int) + 1) (by omega) (by omega)]
           simp [LeC, LeV, ren, bq]
           try omega
         · rfl
     · rw [jv, hbad (by simp at h2; simp only [gg, Bool.and_eq_false_iff, decide_eq_false_iff_not]; omega)]
       exact ak.aq rfl (by rfl)
   · have hi' : i = s.size := by have := of_decide_eq_false h1; omega
     subst hi'
     have htk : s.data.toList.take s.size = s.data.toList := by rw [← hl, List.take_length]
     simp only [htk] at hi ⊢
     have hsm := lx hi.2 (by omega)
     refine ev1 @h1 ?_
     have hsg : aan s s (jy 0 s.data.toList) = ((jy 0 s.data.toList : Nat) : Int) := by unfold aan; rw [if_neg (by omega)]
     (have ct := fj ((jy 0 s.data.toList : Nat) : Int) (by omega) (by omega); (first | refine al.at ct ⟨leA, trivial⟩ ?_ | refine ah.at ct ⟨leA, trivial⟩ ?_); clear ct)
     rw [← hsg]
     refine rn1 @gw ?_
     refine ay.split (fun h3 => ?_) (fun h3 => ?_) <;> refine rn1 @h3 ?_
     · rw [jv, hB.not (by simpa using h3)]
       exact ak.aq rfl (by rfl)
     · rw [jv, hB.yes hi.2 hl6 (by simpa using h3)]
       exact ak.aq (by rw [hsg]; rfl) (by rfl)
end Go.Proofs
end
section
set_option maxRecDepth 100000
namespace Go.Proofs
open Go.Lv
structure aj where
 ab : ab
 Log : Log
def aj.cs (r : aj) : List V := [.int .i64 r.ab.Now, .sl r.ab.Posts.length 3 (Go.Lv.rows bf.cs r.ab.Posts), .sl r.ab.Shocks.length 5 (Go.Lv.rows ai.cs r.ab.Shocks), .int .i64 r.ab.Next, .int .i64 r.ab.Archived, .str r.Log.Durable, .str r.Log.Pending, .int .i64 r.Log.Count]
def aj.v (r : aj) : V := .agg [.int .i64 r.ab.Now, .sl r.ab.Posts.length 3 (Go.Lv.rows bf.cs r.ab.Posts), .sl r.ab.Shocks.length 5 (Go.Lv.rows ai.cs r.ab.Shocks), .int .i64 r.ab.Next, .int .i64 r.ab.Archived, .str r.Log.Durable, .str r.Log.Pending, .int .i64 r.Log.Count]
def aj.o (r : aj) (i0 i1 : Nat) : V := .agg [.int .i64 r.ab.Now, .osl i0 0 r.ab.Posts.length 3, .osl i1 0 r.ab.Shocks.length 5, .int .i64 r.ab.Next, .int .i64 r.ab.Archived, .str r.Log.Durable, .str r.Log.Pending, .int .i64 r.Log.Count]
theorem aj.csl (a : aj) : a.cs.length = 8 := rfl
def aj.ok (r : aj) : Prop := r.ab.ok ∧ r.Log.ok
theorem aj.le {h : Hp} {r : aj} {i0 i1 : Nat} (h0 : h[i0]? = some (some (rows bf.cs r.ab.Posts))) (h1 : h[i1]? = some (some (rows ai.cs r.ab.Shocks))) : LeV (ren (fa h 3) 3 (r.o i0 i1)) r.v := by
 refine .inl ?_
 simp only [aj.o, aj.v, ren, List.map_cons, List.map_nil, fa, h0, h1, ae, List.drop_zero, dc]
end Go.Proofs
end
section
set_option maxRecDepth 100000
set_option maxHeartbeats 1000000
namespace Go.Proofs
open Go.Lv
def sr (s : Int) : ByteArray := if s = 0 then ⟨#[110, 101, 119]⟩ else if s = 1 then ⟨#[108, 111, 99, 97, 116, 101, 100]⟩ else if s = 2 then ⟨#[114, 101, 118, 105, 101, 119, 101, 100]⟩ else ⟨#[112, 117, 98, 108, 105, 115, 104, 101, 100]⟩
def qb (x : ai) : ByteArray := (sr x.State ++ ⟨#[32, 115, 101, 101, 110, 32]⟩) ++ num x.Seen
def l8 (x : ai) : ByteArray := if x.State = 0 then qb x else qb x ++ (⟨#[32, 115, 105, 122, 101, 32]⟩ ++ num x.Size)
theorem ae4 {n x : Int} {s : ai} (h : kq n x s = true) : (num s.Seen).size ≤ 21 ∧ (num s.Size).size ≤ 21 := by
 have := gb.1 h
 exact ⟨jh (by omega) (by omega), jh (by omega) (by omega)⟩
def jc (w : ab) (n : Int) : V := if wB w = true then match w.Shocks.find? (du n) with
 | some x => .tup [.str (l8 x), .bool true]
 | none => .tup [.str ByteArray.empty, .bool false] else .tup [.str ByteArray.empty, .bool false]
theorem yx (n t : Int) (x : ai) (h : kq n t x = true) : Ctr Tryz.prog 48 [x.v] [] (.str (l8 x)) [] := by
 have hv := gb.1 h
 have hs := ae4 h
 obtain ⟨N, S, E, Z, T⟩ := x
 simp only at hv hs
 have hst : S = 0 ∨ S = 1 ∨ S = 2 ∨ S = 3 := by omega
 rcases hst with rfl | rfl | rfl | rfl
 all_goals
  refine Ctr.intro Tryz.mixed Tryz.func48 rfl Tryz.a03 ?_
  refine ev2 @Tryz.ntmps48 @Tryz.results48 ?_
  refine ev1 @ai.v.eq_1 ?_
  repeat (first | ((have ct := rk E ⟨by omega, by omega⟩; (first | refine al.at ct ⟨leA, trivial⟩ ?_ | refine ah.at ct ⟨leA, trivial⟩ ?_); clear ct); refine ev0 ?_) | ((have ct := rk Z ⟨by omega, by omega⟩; (first | refine al.at ct ⟨leA, trivial⟩ ?_ | refine ah.at ct ⟨leA, trivial⟩ ?_); clear ct); refine ev0 ?_) | (with_reducible refine And.intro (by first | omega | (show cd _ = true; kernel_rfl) | (simp only [ByteArray.size_append, ch, List.size_toArray, List.length_cons, List.length_nil]; omega)) ?_; try refine ew0 ?_))
  exact ak.aq (by simp [l8, qb, sr]) (by rfl)
theorem ac9 (n t : Int) (x : ai) (h : kq n t x = true) : Ctr Tryz.prog 50 [x.v] [] (.str (l8 x)) [] := by
 have hv := gb.1 h
 have hs := ae4 h
 obtain ⟨N, S, E, Z, T⟩ := x
 simp only at hv hs
 have hst : S = 0 ∨ S = 1 ∨ S = 2 ∨ S = 3 := by omega
 rcases hst with rfl | rfl | rfl | rfl
 all_goals
  refine Ctr.intro Tryz.mixed Tryz.func50 rfl Tryz.a3v ?_
  refine ev2 @Tryz.ntmps50 @Tryz.results50 ?_
  refine ev1 @ai.v.eq_1 ?_
  repeat (first | ((have ct := fj E (by omega) (by omega); (first | refine al.at ct ⟨leA, trivial⟩ ?_ | refine ah.at ct ⟨leA, trivial⟩ ?_); clear ct); refine ev0 ?_) | ((have ct := fj Z (by omega) (by omega); (first | refine al.at ct ⟨leA, trivial⟩ ?_ | refine ah.at ct ⟨leA, trivial⟩ ?_); clear ct); refine ev0 ?_) | (with_reducible refine And.intro (by first | omega | (show cd _ = true; kernel_rfl) | (simp only [ByteArray.size_append, ch, List.size_toArray, List.length_cons, List.length_nil]; omega)) ?_; try refine ew0 ?_))
  exact ak.aq (by simp [l8, qb, sr, ByteArray.append_assoc]) (by rfl)
theorem aew {α : Type} (p : α → Bool) (L : List α) : (∃ i, ∃ h : i < L.length, jn p L = (i : Int) ∧ L.find? p = some L[i]) ∨ (jn p L = -1 ∧ L.find? p = none) := by
 unfold jn
 cases h : L.findIdx? p with
 | none =>
  right
  refine ⟨rfl, ?_⟩
  rw [List.findIdx?_eq_none_iff] at h
  rw [List.find?_eq_none]
  intro x hx
  simpa using h x hx
 | some i =>
  left
  rw [List.findIdx?_eq_some_iff_getElem] at h
  obtain ⟨hi, h1, h2⟩ := h
  refine ⟨i, hi, rfl, ?_⟩
  rw [List.find?_eq_some_iff_getElem]
  exact ⟨h1, i, hi, rfl, fun j hj => by simpa using h2 j hj⟩
theorem xh (w : ab) (n : Int) (hp : w.Posts.length ≤ 281474976710656) (hs : w.Shocks.length ≤ 281474976710656) : Ctr Tryz.prog 73 [w.v, .int .i64 n] [] (jc w n) [] := by
 refine Ctr.intro Tryz.mixed Tryz.func73 rfl Tryz.a4n ?_
 refine ev2 @Tryz.ntmps73 @Tryz.results73 ?_
 refine ev1 @ab.v.eq_1 ?_
 (have ct := j5 w n hs; (first | refine al.at ct ⟨leA, leA, trivial⟩ ?_ | refine ah.at ct ⟨leA, leA, trivial⟩ ?_); clear ct)
 refine ev0 ?_
 (have ct := ec w hp hs; (first | refine al.at ct ⟨leA, trivial⟩ ?_ | refine ah.at ct ⟨leA, trivial⟩ ?_); clear ct)
 cases h : wB w with
 | false =>
  refine ev1 @h ?_
  exact ak.aq (by simp [jc, h]; rfl) (by rfl)
 | true =>
  have hw := ey h
  rcases aew (du n) w.Shocks with ⟨i, hi, e1, e2⟩ | ⟨e1, e2⟩
  · rw [e1]
    have hsh := hw.shocks _ (List.getElem_mem hi)
    have hr := bw ai.csl hi
    have hd : decide ((i : Int) < 0) = false := decide_eq_false (by omega)
    refine rs5 @h @hd @hr @ai.cs.eq_1 @ab.cs.eq_1 ?_
    (first | refine al.at (yx _ _ w.Shocks[i] hsh) ⟨leA, trivial⟩ ?_ | refine ah.at (yx _ _ w.Shocks[i] hsh) ⟨leA, trivial⟩ ?_)
    refine ev0 ?_
    exact ak.aq (by simp [jc, h, e2]) (by rfl)
  · rw [e1]
    refine ev1 @h ?_
    exact ak.aq (by simp [jc, h, e2]; rfl) (by rfl)
theorem aes (w : ab) (n : Int) (hp : w.Posts.length ≤ 281474976710656) (hs : w.Shocks.length ≤ 281474976710656) : Ctr Tryz.prog 156 [w.v, .int .i64 n] [] (jc w n) [] := by
 refine Ctr.intro Tryz.mixed Tryz.func156 rfl Tryz.axu ?_
 refine ev2 @Tryz.ntmps156 @Tryz.results156 ?_
 refine ev1 @ab.v.eq_1 ?_
 (have ct := j8 w n hs; (first | refine al.at ct ⟨leA, leA, trivial⟩ ?_ | refine ah.at ct ⟨leA, leA, trivial⟩ ?_); clear ct)
 refine ev0 ?_
 (have ct := eg w hp hs; (first | refine al.at ct ⟨leA, trivial⟩ ?_ | refine ah.at ct ⟨leA, trivial⟩ ?_); clear ct)
 cases h : wB w with
 | false =>
  refine ev1 @h ?_
  exact ak.aq (by simp [jc, h]; rfl) (by rfl)
 | true =>
  have hw := ey h
  rcases aew (du n) w.Shocks with ⟨i, hi, e1, e2⟩ | ⟨e1, e2⟩
  · rw [e1]
    have hsh := hw.shocks _ (List.getElem_mem hi)
    have hr := bw ai.csl hi
    have hd : decide ((i : Int) < 0) = false := decide_eq_false (by omega)
    refine rs5 @h @hd @hr @ai.cs.eq_1 @ab.cs.eq_1 ?_
    (first | refine al.at (ac9 _ _ w.Shocks[i] hsh) ⟨leA, trivial⟩ ?_ | refine ah.at (ac9 _ _ w.Shocks[i] hsh) ⟨leA, trivial⟩ ?_)
    refine ev0 ?_
    exact ak.aq (by simp [jc, h, e2]) (by rfl)
  · rw [e1]
    refine ev1 @h ?_
    exact ak.aq (by simp [jc, h, e2]; rfl) (by rfl)
end Go.Proofs
end
section
set_option maxRecDepth 100000
namespace Go.Proofs
open Go.Lv
structure fg where
 Week : Int
 Events : Int
 Felt : Int
 Picks : Int
 Lost : Int
def fg.cs (r : fg) : List V := [.int .i64 r.Week, .int .i64 r.Events, .int .i64 r.Felt, .int .i64 r.Picks, .int .i64 r.Lost]
def fg.v (r : fg) : V := .agg [.int .i64 r.Week, .int .i64 r.Events, .int .i64 r.Felt, .int .i64 r.Picks, .int .i64 r.Lost]
theorem fg.csl (a : fg) : a.cs.length = 5 := rfl
instance : qp fg.cs 5 := ⟨fun _ => rfl, fun _ d => by cases d <;> rfl, fun _ => rfl, fun _ => rfl⟩
def fg.ok (r : fg) : Prop := bt r.Week ∧ bt r.Events ∧ bt r.Felt ∧ bt r.Picks ∧ bt r.Lost
abbrev fg.rows (L : List fg) : List V := Go.Lv.rows fg.cs L
abbrev fg.sl (L : List fg) : V := .sl L.length 5 (Go.Lv.rows fg.cs L)
abbrev fg.zs : List V := [.int .i64 0, .int .i64 0, .int .i64 0, .int .i64 0, .int .i64 0]
def fg.mk1 (k : Int) : fg := ⟨k, k + 1, k + 1 + 1, k + 1 + 1 + 1, k + 1 + 1 + 1 + 1⟩
def fg.marks (k : Int) (n : Nat) : List fg := (List.range n).map fun i : Nat => fg.mk1 (k + 5 * (i : Int))
@[simp] theorem fg.tg (k : Int) (n : Nat) : (fg.marks k n).length = n := by simp [fg.marks]
end Go.Proofs
end
section
set_option maxRecDepth 100000
set_option maxHeartbeats 1000000
namespace Go.Proofs
open Go.Lv
def np (c : aj) : Bool := wB c.ab && j7 c.Log
def aj.fits (c : aj) : Prop := c.ab.Posts.length ≤ 1048576 ∧ c.ab.Shocks.length ≤ 1048576 ∧ c.Log.Durable.size ≤ 4194304 ∧ c.Log.Pending.size ≤ 4194304
theorem e8 (c : aj) (hc : c.fits) : Ctr Tryz.prog 11 [c.v] [] (.bool (np c)) [] := by
 obtain ⟨h0, h1, h2, h3⟩ := hc
 refine Ctr.intro Tryz.mixed Tryz.func11 rfl Tryz.a5a ?_
 refine ev2 @Tryz.ntmps11 @Tryz.results11 ?_
 refine ev1 @aj.v.eq_1 ?_
 (have ct := ec c.ab (by omega) (by omega); (first | refine al.at ct ⟨leA, trivial⟩ ?_ | refine ah.at ct ⟨leA, trivial⟩ ?_); clear ct)
 cases h : wB c.ab with
 | false =>
  refine ev1 @h ?_
  exact ak.aq (by simp [np, h]) (by rfl)
 | true =>
  refine ev1 @h ?_
  (have ct := vp c.Log h2 h3; (first | refine al.at ct ⟨leA, trivial⟩ ?_ | refine ah.at ct ⟨leA, trivial⟩ ?_); clear ct)
  refine ev0 ?_
  exact ak.aq (by simp [np, h]) (by rfl)
theorem tz (c : aj) (hc : c.fits) : Ctr Tryz.prog 38 [c.v] [] (.bool (np c)) [] := by
 obtain ⟨h0, h1, h2, h3⟩ := hc
 refine Ctr.intro Tryz.mixed Tryz.func38 rfl Tryz.a3r ?_
 refine ev2 @Tryz.ntmps38 @Tryz.results38 ?_
 refine ev1 @aj.v.eq_1 ?_
 (have ct := eg c.ab (by omega) (by omega); (first | refine al.at ct ⟨leA, trivial⟩ ?_ | refine ah.at ct ⟨leA, trivial⟩ ?_); clear ct)
 cases h : wB c.ab with
 | false =>
  refine ev1 @h ?_
  exact ak.aq (by simp [np, h]) (by rfl)
 | true =>
  refine ev1 @h ?_
  (have ct := aaq c.Log h2 h3; (first | refine al.at ct ⟨leA, trivial⟩ ?_ | refine ah.at ct ⟨leA, trivial⟩ ?_); clear ct)
  refine ev0 ?_
  exact ak.aq (by simp [np, h]) (by rfl)
theorem xt (c : aj) (hc : c.fits) : Ctr Tryz.prog 12 [c.v] [] (.bool (np c)) [] := by
 refine Ctr.intro Tryz.mixed Tryz.func12 rfl Tryz.a2t ?_
 refine ev2 @Tryz.ntmps12 @Tryz.results12 ?_
 refine ev1 @aj.v.eq_1 ?_
 (first | refine al.at (tz c hc) ⟨leA, trivial⟩ ?_ | refine ah.at (tz c hc) ⟨leA, trivial⟩ ?_)
 refine ev0 ?_
 exact ak.aq rfl (by rfl)
end Go.Proofs
end
section
namespace Go.Lv
variable {α : Type}
def acr (lt : α → α → Bool) (S : List α) (x : α) : Nat → Nat
 | 0 => 0
 | k + 1 => match S[k]? with
  | some y => if lt x y then acr lt S x k else k + 1
  | none => k + 1
theorem afv {lt : α → α → Bool} {S : List α} {x : α} {k : Nat} (hk : k < S.length) (h : lt x S[k] = true) : acr lt S x (k + 1) = acr lt S x k := by
 simp [acr, hk, h]
theorem afb {lt : α → α → Bool} {S : List α} {x : α} {k : Nat} (hk : k < S.length) (h : lt x S[k] = false) : acr lt S x (k + 1) = k + 1 := by
 simp [acr, hk, h]
def putAt (S : List α) (x : α) (j : Nat) : List α := S.take j ++ x :: S.drop j
theorem af0 (S : List α) (x : α) (j : Nat) : (putAt S x j).length = S.length + 1 := by
 simp [putAt]; omega
theorem anb (S : List α) (x : α) : putAt S x S.length = S ++ [x] := by simp [putAt]
def ins (lt : α → α → Bool) (S : List α) (x : α) : List α := putAt S x (acr lt S x S.length)
def cn (lt : α → α → Bool) (L : List α) : List α := L.foldl (ins lt) []
theorem atd (lt : α → α → Bool) (S : List α) (x : α) : (ins lt S x).length = S.length + 1 := af0 _ _ _
theorem ag5 (lt : α → α → Bool) (L : List α) (x : α) : cn lt (L ++ [x]) = ins lt (cn lt L) x := by simp [cn]
theorem zr {lt : α → α → Bool} {L : List α} {i : Nat} (hi : i < L.length) : cn lt (L.take (i + 1)) = ins lt (cn lt (L.take i)) L[i] := by
 rw [List.take_succ_eq_append_getElem hi, ag5]
theorem jm (lt : α → α → Bool) (L : List α) : (cn lt L).length = L.length := by
 have key : ∀ (L S : List α), (L.foldl (ins lt) S).length = S.length + L.length := by
  intro L
  induction L with
  | nil => intro S; simp
  | cons a L ih => intro S; rw [List.foldl_cons, ih, atd]; simp; omega
 have := key L []
 simpa [cn] using this
theorem aid (lt : α → α → Bool) (L : List α) (h : L.length ≤ 1) : cn lt L = L := by
 match L, h with
 | [], _ => rfl
 | [a], _ => rfl
def pg (S R : List α) (x : α) (j : Nat) : List α := putAt S x j ++ R
theorem aq2 (S R : List α) (x : α) (j : Nat) : (pg S R x j).length = S.length + 1 + R.length := by simp [pg, af0]
theorem ap6 {S R : List α} {x : α} {j : Nat} (hj : j ≤ S.length) (h : j < (pg S R x j).length) : (pg S R x j)[j] = x := by
 have : (pg S R x j)[j]? = some x := by
  rw [pg, putAt, List.append_assoc, List.getElem?_append_right (by simp; omega)]
  simp [Nat.min_eq_left hj]
 rw [List.getElem?_eq_getElem h] at this
 exact Option.some.inj this
theorem ado {S R : List α} {x : α} {j : Nat} (hj : j < S.length) (h : j < (pg S R x (j + 1)).length) : (pg S R x (j + 1))[j] = S[j] := by
 have : (pg S R x (j + 1))[j]? = some S[j] := by
  rw [pg, putAt, List.append_assoc, List.getElem?_append_left (by simp; omega), List.getElem?_take_of_lt (by omega), List.getElem?_eq_getElem hj]
 rw [List.getElem?_eq_getElem h] at this
 exact Option.some.inj this
theorem aob {S R : List α} {x : α} {j : Nat} (hj : j < S.length) : ((pg S R x (j + 1)).set (j + 1) S[j]).set j x = pg S R x j := by
 have hd : S.drop j = S[j] :: S.drop (j + 1) := List.drop_eq_getElem_cons hj
 have ht : S.take (j + 1) = S.take j ++ [S[j]] := List.take_succ_eq_append_getElem hj
 have hl : (S.take j).length = j := by simp; omega
 simp only [pg, putAt, ht, hd, List.append_assoc, List.cons_append, List.nil_append, List.singleton_append]
 rw [List.set_append_right _ _ (by omega), hl, List.set_append_right _ _ (by omega), hl]
 simp
def age (lt : α → α → Bool) (L : List α) (i : Nat) : List α := cn lt (L.take i) ++ L.drop i
theorem aqy (lt : α → α → Bool) (L : List α) : age lt L 1 = L := by
 rw [age, aid lt _ (by simp; omega), List.take_append_drop]
theorem aq4 (lt : α → α → Bool) (L : List α) {i : Nat} (h : L.length ≤ i) : age lt L i = cn lt L := by
 simp [age, List.take_of_length_le h, List.drop_eq_nil_of_le h]
theorem aow {lt : α → α → Bool} {L : List α} {i : Nat} (hi : i < L.length) : age lt L i = pg (cn lt (L.take i)) (L.drop (i + 1)) L[i] i := by
 have hl : (cn lt (L.take i)).length = i := by rw [jm]; simp; omega
 rw [age, List.drop_eq_getElem_cons hi, pg]
 have := anb (cn lt (L.take i)) L[i]
 rw [hl] at this
 rw [this]; simp
theorem ae7 {lt : α → α → Bool} {L : List α} {i j : Nat} (hi : i < L.length) (h : acr lt (cn lt (L.take i)) L[i] i = j) : pg (cn lt (L.take i)) (L.drop (i + 1)) L[i] j = age lt L (i + 1) := by
 have hl : (cn lt (L.take i)).length = i := by rw [jm]; simp; omega
 rw [age, zr hi, ins, hl, h, pg]
end Go.Lv
end
section
set_option maxRecDepth 100000
set_option maxHeartbeats 1000000
namespace Go.Proofs
open Go.Lv
theorem zf (L : List ai) (c : ai → ai → Int) (fc : Nat) (hv : ∀ x y, Ctr Tryz.prog fc [ai.v x, ai.v y] [] (.int .i64 (c x y)) []) (hl : L.length ≤ 19) :
 Ctr Tryz.prog 200 [.osl 0 0 L.length 5, .int .i64 0, .int .i64 L.length, .fn (.func fc) [] []] [some (rows ai.cs L)] (.tup []) [some (rows ai.cs (cn (fun x y => decide (c x y < 0)) L))] := by
 generalize hlt : (fun x y => decide (c x y < 0)) = lt
 have ltv : ∀ x y, lt x y = decide (c x y < 0) := fun x y => by rw [← hlt]
 refine Ctr.intro Tryz.mixed Tryz.func200 rfl Tryz.awi ?_
 refine ev2 @Tryz.ntmps200 @Tryz.results200 ?_
 refine dr.intro (fun i : Nat => 1 ≤ i ∧ (i ≤ 1 ∨ i ≤ L.length)) (fun i => ⟨(.osl 0 0 L.length 5 :: .int .i64 0 :: .int .i64 L.length :: .fn (.func fc) [] [] :: (un 4 (.int .i64 i :: (un 44 [])))), [some (rows ai.cs (age lt L i))], 1⟩) (fun i => L.length - i) 1 ⟨Nat.le_refl _, .inl (Nat.le_refl _)⟩ ?_ (fun i hi => ?_)
 · refine au.cut (1) (by simp) (by simp) ?_ ?_
   · (simp [LeC, LeV, ren, bq]; rfl)
   · rw [aqy]; simp [bz, cw, ae]
 refine ev0 ?_
 refine ay.split (fun h1 => ?_) (fun h1 => ?_)
 · refine ev1 @h1 ?_
   have hi' : i < L.length := by simpa using h1
   have hS : (cn lt (L.take i)).length = i := by rw [jm]; simp; omega
   rw [aow hi']
   refine dr.intro (fun j : Nat => j ≤ i ∧ acr lt (cn lt (L.take i)) L[i] i = acr lt (cn lt (L.take i)) L[i] j) (fun j => ⟨(.osl 0 0 L.length 5 :: .int .i64 0 :: .int .i64 L.length :: .fn (.func fc) [] [] :: (un 4 (.int .i64 i :: .int .i64 j :: (un 43 [])))), [some (rows ai.cs (pg (cn lt (L.take i)) (L.drop (i + 1)) L[i] j))], 1⟩) (fun j => j) i ⟨Nat.le_refl _, rfl⟩ ?_ (fun j hj => ?_)
   · refine au.cut (1) (by simp) (by simp) ?_ ?_
     · simp [LeC, LeV, ren, bq]
     · simp [bz, cw, ae]
   have hml : ∀ j, (pg (cn lt (L.take i)) (L.drop (i + 1)) L[i] j).length = L.length := fun j => by rw [aq2, hS, List.length_drop]; omega
   refine ev0 ?_
   refine ⟨by kernel_rfl, ?_⟩
   cases j with
   | zero =>
    have hz : ((0 : Nat) : Int) = 0 := rfl
    refine rn1 @hz ?_
    refine ⟨i + 1, ⟨by omega, .inr hi'⟩, ?_, by omega⟩
    refine au.cut (1) (by simp) (by simp) ?_ ?_
    · simp [LeC, LeV, ren, bq]
    · rw [ae7 (j := 0) hi' hj.2]
      simp [bz, cw, ae]
   | succ j =>
    have hjS : j < (cn lt (L.take i)).length := by rw [hS]; omega
    have hg : decide ((0 : Int) < ((j + 1 : Nat) : Int)) = true := decide_eq_true (by omega)
    have hw1 : IntKind.i64.wrap (((j + 1 : Nat) : Int) - 1) = (j : Int) := by rw [wrap_i64 (by omega) (by omega)]; omega
    have hk1 : j + 1 < (pg (cn lt (L.take i)) (L.drop (i + 1)) L[i] (j + 1)).length := by rw [hml]; omega
    have hk0 : j < (pg (cn lt (L.take i)) (L.drop (i + 1)) L[i] (j + 1)).length := by rw [hml]; omega
    have g1 := ap6 (S := cn lt (L.take i)) (R := L.drop (i + 1)) (x := L[i]) (j := j + 1) (by omega) hk1
    have g0 := ado (R := L.drop (i + 1)) (x := L[i]) hjS hk0
    have hr1 := bw ai.csl hk1
    have hr0 := bw ai.csl hk0
    have hlr := lj (w := 5) ai.csl (pg (cn lt (L.take i)) (L.drop (i + 1)) L[i] (j + 1))
    rw [g1] at hr1
    rw [g0] at hr0
    rw [hml] at hlr
    refine rn6 @hg @hw1 @hr1 @hr0 @hlr @ai.cs.eq_1 ?_
    (have ct := hv L[i] (cn lt (L.take i))[j]; (first | refine al.at ct ⟨leA, leA, trivial⟩ ?_ | refine ah.at ct ⟨leA, leA, trivial⟩ ?_); clear ct)
    refine ev0 ?_
    have hlx := ltv L[i] (cn lt (L.take i))[j]
    rw [← hlx]
    refine ay.split (fun h2 => ?_) (fun h2 => ?_)
    · have s1 := n7 ai.csl hk1 (cn lt (L.take i))[j]
      have s2 := n7 (L := (pg (cn lt (L.take i)) (L.drop (i + 1)) L[i] (j + 1)).set (j + 1) (cn lt (L.take i))[j]) ai.csl (by rw [List.length_set]; exact hk0) L[i]
      rw [aob hjS] at s2
      simp only [ai.cs] at s1 s2
      refine rn6 @h2 @hw1 @hr1 @hr0 @hlr @ai.cs.eq_1 ?_
      have hl2 : (rows ai.cs ((pg (cn lt (L.take i)) (L.drop (i + 1)) L[i] (j + 1)).set (j + 1) (cn lt (L.take i))[j])).length = L.length * 5 := by rw [lj (w := 5) ai.csl, List.length_set, hml]
      rw [s1, s2]
      refine ⟨by rw [hl2]; omega, j, ⟨by omega, hj.2.trans (afv hjS h2)⟩, ?_, by omega⟩
      refine au.cut (1) (by simp) (by simp) ?_ ?_
      · simp [LeC, LeV, ren, bq]
      · simp [bz, cw, ae]
    · refine ev1 @h2 ?_
      have hp := afb hjS h2
      refine ⟨i + 1, ⟨by omega, .inr hi'⟩, ?_, by omega⟩
      refine au.cut (1) (by simp) (by simp) ?_ ?_
      · rw [wrap_i64 (by omega) (by omega)]; simp [LeC, LeV, ren, bq]
      · rw [ae7 hi' (hj.2.trans hp)]
        simp [bz, cw, ae]
 · refine ev1 @h1 ?_
   have h1' : L.length ≤ i := by simp at h1; omega
   rw [aq4 lt L h1']
   exact ak.refl _ _ _
theorem adx (L : List ai) (c : ai → ai → Int) (fc : Nat) (hv : ∀ x y, Ctr Tryz.prog fc [ai.v x, ai.v y] [] (.int .i64 (c x y)) []) (hl : L.length ≤ 19) :
 Ctr Tryz.prog 183 [.osl 0 0 L.length 5, .int .i64 L.length, .fn (.func fc) [] []] [some (rows ai.cs L)] (.tup []) [some (rows ai.cs (cn (fun x y => decide (c x y < 0)) L))] := by
 refine Ctr.intro Tryz.mixed Tryz.func183 rfl Tryz.ax7 ?_
 refine ev2 @Tryz.ntmps183 @Tryz.results183 ?_
 have c0 : decide ((20 : Int) ≤ L.length) = false := decide_eq_false (by omega)
 have c1 : decide ((20 : Int) < L.length) = false := decide_eq_false (by omega)
 refine dr.intro (fun _ : Unit => True) (fun _ => ⟨(.osl 0 0 L.length 5 :: .int .i64 L.length :: .fn (.func fc) [] [] :: (un 3 (.int .i64 20 :: .int .i64 0 :: .int .i64 20 :: (un 54 [])))), [some (rows ai.cs L)], 1⟩) (fun _ => 0) () trivial ?_ (fun _ _ => ?_)
 · refine au.cut (1) (by simp) (by simp) ?_ ?_
   · simp [LeC, LeV, ren, bq]
   · simp [bz, cw, ae]
 refine ev1 @c0 ?_
 refine ah.di [0] false ( zf L c fc hv hl) (by decide) ⟨leO, leO, leO, leO, trivial⟩ alg ( aag (by simp [bb, jm])) (.inl rfl) ?_
 refine ev0 ?_
 refine dr.intro (fun _ : Unit => True) (fun _ => ⟨(.osl 0 0 L.length 5 :: .int .i64 L.length :: .fn (.func fc) [] [] :: (un 3 (.int .i64 20 :: (un 56 [])))), [some (rows ai.cs (cn (fun x y => decide (c x y < 0)) L))], 1⟩) (fun _ => 0) () trivial ?_ (fun _ _ => ?_)
 · refine au.cut (1) (by simp) (by simp) ?_ ?_
   · simp [LeC, LeV, ren, bq]
   · simp [bz, cw, ae]
 refine ev1 @c1 ?_
 exact ak.refl _ _ _
theorem xq (L : List ai) (c : ai → ai → Int) (fc : Nat) (hv : ∀ x y, Ctr Tryz.prog fc [ai.v x, ai.v y] [] (.int .i64 (c x y)) []) (hl : L.length ≤ 19) :
 Ctr Tryz.prog 151 [.osl 0 0 L.length 5, .fn (.func fc) [] []] [some (rows ai.cs L)] (.tup []) [some (rows ai.cs (cn (fun x y => decide (c x y < 0)) L))] := by
 refine Ctr.intro Tryz.mixed Tryz.func151 rfl Tryz.ax8 ?_
 refine ev2 @Tryz.ntmps151 @Tryz.results151 ?_
 refine ah.di [0] false ( adx L c fc hv hl) (by decide) ⟨leO, leO, leO, trivial⟩ alg ( aag (by simp [bb, jm])) (.inl rfl) ?_
 refine ev0 ?_
 exact ak.refl _ _ _
end Go.Proofs
end
section
namespace Go.Lv
variable {α : Type}
theorem ad6 {lt : α → α → Bool} {A B : List α} {x : α} (hB : ∀ b ∈ B, lt x b = true) (hA : ∀ a ∈ A, lt x a = false) : ∀ k, k ≤ B.length → acr lt (A ++ B) x (A.length + k) = A.length
 | 0, _ => by
  cases h : A.length with
  | zero => rfl
  | succ m =>
   have hm : m < (A ++ B).length := by rw [List.length_append]; omega
   have e : (A ++ B)[m] = A[m]'(by omega) := List.getElem_append_left (by omega)
   exact afb hm (by rw [e]; exact hA _ (List.getElem_mem _))
 | k + 1, hk => by
  have hm : A.length + k < (A ++ B).length := by rw [List.length_append]; omega
  have e : (A ++ B)[A.length + k] = B[k]'(by omega) := by
   rw [List.getElem_append_right (by omega)]
   congr 1; omega
  rw [← Nat.add_assoc, afv hm (by rw [e]; exact hB _ (List.getElem_mem _))]
  exact ad6 hB hA k (by omega)
theorem anv {lt : α → α → Bool} {A B : List α} {x : α} (hB : ∀ b ∈ B, lt x b = true) (hA : ∀ a ∈ A, lt x a = false) : ins lt (A ++ B) x = A ++ x :: B := by
 rw [ins, List.length_append, ad6 hB hA _ (Nat.le_refl _), putAt]
 simp
def jk (f : α → Int) (c : Int) (L : List α) (J : List Nat) : List α := J.flatMap fun (j : Nat) => L.filter fun x => f x == c - (j : Int)
theorem sx (f : α → Int) (c : Int) (L : List α) (J K : List Nat) : jk f c L (J ++ K) = jk f c L J ++ jk f c L K := by simp [jk]
theorem aa2 {f : α → Int} {c : Int} {L : List α} {J : List Nat} {x : α} (h : x ∈ jk f c L J) : ∃ j ∈ J, f x = c - (j : Int) := by
 simp only [jk, List.mem_flatMap, List.mem_filter, beq_iff_eq] at h
 obtain ⟨j, hj, _, e⟩ := h
 exact ⟨j, hj, e⟩
theorem acm {f : α → Int} {c : Int} {L : List α} {J : List Nat} {x : α} (h : ∀ j ∈ J, f x ≠ c - (j : Int)) : jk f c (L ++ [x]) J = jk f c L J := by
 induction J with
 | nil => rfl
 | cons j J ih =>
  have h1 : f x ≠ c - (j : Int) := h j (by simp)
  have h2 := ih (fun k hk => h k (by simp [hk]))
  simp only [jk, List.flatMap_cons] at h2 ⊢
  rw [h2, List.filter_append]
  simp [h1]
theorem aeq {f : α → Int} {c : Int} {n : Nat} : ∀ {L : List α}, (∀ x ∈ L, c - n < f x ∧ f x ≤ c) → cn (fun x y => decide (f y < f x)) L = jk f c L (List.range n) := by
 intro L hL
 have key : ∀ i, i ≤ L.length → cn (fun x y => decide (f y < f x)) (L.take i) = jk f c (L.take i) (List.range n) := by
  intro i
  induction i with
  | zero => intro _; simp [cn, jk]
  | succ i ih =>
   intro hi
   have hi' : i < L.length := hi
   have hx := hL L[i] (List.getElem_mem hi')
   rw [zr hi', ih (by omega), List.take_succ_eq_append_getElem hi']
   obtain ⟨j, m, e1, e2⟩ : ∃ j m : Nat, f L[i] = c - (j : Int) ∧ n = j + (m + 1) := ⟨(c - f L[i]).toNat, n - 1 - (c - f L[i]).toNat, by omega, by omega⟩
   have hr : List.range n = List.range j ++ ([j] ++ (List.range m).map (fun k => j + (k + 1))) := by
    rw [e2, List.range_add, List.range_succ_eq_map]
    simp
   rw [hr, sx, sx, sx, sx]
   rw [acm (J := List.range j) (by intro k hk; have := List.mem_range.1 hk; omega)]
   rw [acm (J := (List.range m).map (fun k => j + (k + 1))) (by
    intro k hk
    obtain ⟨k, _, rfl⟩ := List.mem_map.1 hk
    omega)]
   have hone : jk f c (L.take i ++ [L[i]]) [j] = jk f c (L.take i) [j] ++ [L[i]] := by
    simp only [jk, List.flatMap_cons, List.flatMap_nil, List.append_nil, List.filter_append]
    simp [e1]
   rw [hone, ← List.append_assoc]
   rw [anv (A := jk f c (L.take i) (List.range j) ++ jk f c (L.take i) [j]) (B := jk f c (L.take i) ((List.range m).map (fun k => j + (k + 1))))]
   · simp
   · intro b hb
     obtain ⟨k, hk, e⟩ := aa2 hb
     obtain ⟨k, _, rfl⟩ := List.mem_map.1 hk
     simp; omega
   · intro a ha
     rcases List.mem_append.1 ha with h | h
     · obtain ⟨k, hk, e⟩ := aa2 h
       have := List.mem_range.1 hk
       simp; omega
     · obtain ⟨k, hk, e⟩ := aa2 h
       simp at hk; subst hk
       simp; omega
 have := key L.length (Nat.le_refl _)
 simpa using this
end Go.Lv
end
section
set_option maxRecDepth 100000
set_option maxHeartbeats 1000000
namespace Go.Proofs
open Go.Lv
def ak7 (a b : Int) : Int := if a < b then -1 else if b < a then 1 else 0
theorem apa (a b : Int) : decide (ak7 a b < 0) = decide (a < b) := by
 unfold ak7
 split
 · rename_i h; simp [h]
 · rename_i h; split <;> simp [h]
theorem r3 (a : Int) : Ctr Tryz.prog 184 [.int .i64 a] [] (.bool false) [] := by
 refine Ctr.intro Tryz.mixed Tryz.func184 rfl Tryz.axr ?_
 refine ev2 @Tryz.ntmps184 @Tryz.results184 ?_
 exact ak.aq (by simp) (by rfl)
theorem aej (a b : Int) : Ctr Tryz.prog 153 [.int .i64 a, .int .i64 b] [] (.int .i64 (ak7 a b)) [] := by
 refine Ctr.intro Tryz.mixed Tryz.func153 rfl Tryz.aw3 ?_
 refine ev2 @Tryz.ntmps153 @Tryz.results153 ?_
 (first | refine al.at (r3 a) ⟨leA, trivial⟩ ?_ | refine ah.at (r3 a) ⟨leA, trivial⟩ ?_)
 refine ev0 ?_
 (first | refine al.at (r3 b) ⟨leA, trivial⟩ ?_ | refine ah.at (r3 b) ⟨leA, trivial⟩ ?_)
 refine ev0 ?_
 refine ay.split (fun h1 => ?_) (fun h1 => ?_) <;> refine ev1 @h1 ?_
 · exact ak.aq (by rw [ak7, if_pos (of_decide_eq_true h1)]) (by rfl)
 · refine ay.split (fun h2 => ?_) (fun h2 => ?_) <;> refine ev1 @h2 ?_
   · exact ak.aq (by rw [ak7, if_neg (of_decide_eq_false h1), if_pos (of_decide_eq_true h2)]) (by rfl)
   · exact ak.aq (by rw [ak7, if_neg (of_decide_eq_false h1), if_neg (of_decide_eq_false h2)]) (by rfl)
def kv (x : ai) : Bool := x.State == 1
def ah9 (x y : ai) : Int := ak7 y.Size x.Size
def ot (w : ab) : List ai := cn (fun x y => decide (ah9 x y < 0)) (w.Shocks.filter kv)
theorem ak6 {w : ab} (hw : wB w = true) : ot w = jk ai.Size 95 (w.Shocks.filter kv) (List.range 116) := by
 have h : (fun x y : ai => decide (ah9 x y < 0)) = fun x y => decide (y.Size < x.Size) := by
  funext x y
  exact apa _ _
 rw [ot, h]
 refine aeq (fun x hx => ?_)
 have := gb.1 ((ey hw).shocks x (List.mem_filter.1 hx).1)
 omega
theorem akx {w : ab} (hw : wB w = true) : ∃ G : Nat → List ai, G 0 = [] ∧ (∀ j : Nat, G (j + 1) = G j ++ (w.Shocks.filter fun x => kv x && x.Size == 95 - (j : Int))) ∧ (∀ j, (G j).length ≤ 6 * j) ∧ ot w = G 116 := by
 have hlen := (ey hw).slen
 have GS : ∀ j : Nat, jk ai.Size 95 (w.Shocks.filter kv) (List.range (j + 1)) = jk ai.Size 95 (w.Shocks.filter kv) (List.range j) ++ (w.Shocks.filter fun x => kv x && x.Size == 95 - (j : Int)) := by
  intro j
  rw [List.range_succ, sx]
  congr 1
  simp only [jk, List.flatMap_cons, List.flatMap_nil, List.append_nil, List.filter_filter]
  congr 1
  funext x
  exact Bool.and_comm _ _
 refine ⟨fun j => jk ai.Size 95 (w.Shocks.filter kv) (List.range j), rfl, GS, fun j => ?_, ak6 hw⟩
 induction j with
 | zero => simp [jk]
 | succ j ih =>
  show (jk ai.Size 95 (w.Shocks.filter kv) (List.range (j + 1))).length ≤ _
  rw [GS, List.length_append]
  have := List.length_filter_le (fun x => kv x && x.Size == 95 - (j : Int)) w.Shocks
  have ih' : (jk ai.Size 95 (w.Shocks.filter kv) (List.range j)).length ≤ 6 * j := ih
  omega
def kh (w : ab) : Option (List Int) := if wB w = true then some ((ot w).map ai.Number) else none
theorem ajt (x : ai) : Ctr Tryz.prog 150 [x.v] [] (.bool (kv x)) [] := by
 refine Ctr.intro Tryz.mixed Tryz.func150 rfl Tryz.ayr ?_
 refine ev2 @Tryz.ntmps150 @Tryz.results150 ?_
 refine ev1 @ai.v.eq_1 ?_
 exact ak.aq rfl (by rfl)
theorem aof (x y : ai) : Ctr Tryz.prog 152 [x.v, y.v] [] (.int .i64 (ah9 x y)) [] := by
 refine Ctr.intro Tryz.mixed Tryz.func152 rfl Tryz.ayt ?_
 refine ev2 @Tryz.ntmps152 @Tryz.results152 ?_
 refine ev1 @ai.v.eq_1 ?_
 (have ct := aej y.Size x.Size; (first | refine al.at ct ⟨leA, leA, trivial⟩ ?_ | refine ah.at ct ⟨leA, leA, trivial⟩ ?_); clear ct)
 refine ev0 ?_
 exact ak.aq rfl (by rfl)
theorem ag2 (w : ab) (hp : w.Posts.length ≤ 16777216) (hs : w.Shocks.length ≤ 16777216) : Ctr Tryz.prog 115 [w.v] [] (sq 1 (kh w)) (me IntS.cs (kh w)) := by
 refine Ctr.intro Tryz.mixed Tryz.func115 rfl Tryz.awc ?_
 refine ev2 @Tryz.ntmps115 @Tryz.results115 ?_
 refine ev1 @ab.v.eq_1 ?_
 (have ct := ec w (by omega) (by omega); (first | refine al.at ct ⟨leA, trivial⟩ ?_ | refine ah.at ct ⟨leA, trivial⟩ ?_); clear ct)
 cases h : wB w with
 | false =>
  refine ev0 ?_
  have e : kh w = none := by simp [kh, h]
  rw [e]
  exact ak.aq rfl (by rfl)
 | true =>
  have e : kh w = some ((ot w).map ai.Number) := by simp [kh, h]
  rw [e]
  have hw := ey h
  have hlen := hw.slen
  have hfl : (w.Shocks.filter kv).length ≤ 6 := Nat.le_trans (List.length_filter_le _ _) hlen
  have hrl : (ot w).length = (w.Shocks.filter kv).length := jm _ _
  refine ev0 ?_
  (first | refine al.at (wb w.Shocks kv _ [] (fun _ => rfl) ajt hs) ⟨leA, leA, trivial⟩ ?_ | refine ah.at (wb w.Shocks kv _ [] (fun _ => rfl) ajt hs) ⟨leA, leA, trivial⟩ ?_)
  refine ev0 ?_
  refine ah.di [1] false ( xq (w.Shocks.filter kv) ah9 _ aof (by omega)) (by decide) ⟨leO, leO, trivial⟩ alg ( aag (by simp [bb, jm])) (.inl rfl) ?_
  have hr0 : cn (fun x y => decide (ah9 x y < 0)) (w.Shocks.filter kv) = ot w := rfl
  rw [hr0]
  refine ev0 ?_
  rw [← hrl]
  refine dr.intro (fun i : Nat => i ≤ (ot w).length) (fun i => ⟨(un 5 (.osl 2 0 i 1 :: (un 11 (.osl 1 0 (ot w).length 5 :: .int .i64 (ot w).length :: .int .i64 i :: (un 10 []))))), [some w.cs, some (rows ai.cs (ot w)), some (rows IntS.cs (((ot w).take i).map ai.Number))], 0⟩) (fun i => (ot w).length - i) 0 (Nat.zero_le _) ?_ (fun i hi => ?_)
  · refine au.cut (3) (by simp) (by simp) ?_ ?_
    · simp [LeC, LeV, ren, bq]
    · (simp [bz, cw, ren, ae, ab.cs]; try rfl)
  refine ev0 ?_
  refine ay.split (fun h1 => ?_) (fun h1 => ?_)
  · refine ev1 @h1 ?_
    have hi' : i < (ot w).length := by simpa using h1
    have h5 := ai.csl (ot w)[i]
    have hr := bw ai.csl hi'
    refine rn7 @hr @ai.cs.eq_1 @bb @bh @Nat.mul_one @List.length_map.{0, 0} @List.length_take.{0} ?_
    refine ⟨i + 1, hi', ?_, by omega⟩
    refine au.cut (3) (by simp) (by simp) ?_ ?_
    · simp [LeC, LeV, ren, bq]
    · rw [List.take_succ_eq_append_getElem hi', List.map_append, List.map_singleton, ← dw]
      simp [bz, cw, ren, bq, ae, dk, nq, ab.cs, IntS.cs]
  · refine ev1 @h1 ?_
    have hi' : i = (ot w).length := by simp at h1; omega
    subst hi'
    rw [List.take_length]
    have hml : ((ot w).map ai.Number).length = (ot w).length := List.length_map _
    simp only [sq, me, hml]
    refine ak.pick [2] (by decide) (fun j hj => by omega) (.inl ?_) ?_
    · first | rfl | (simp [ren, bc, posOf]; done)
    · simp only [az, List.map_cons, List.map_nil, bg, List.getElem?_cons_zero, List.getElem?_cons_succ, ae]
theorem agy (w : ab) (hp : w.Posts.length ≤ 16777216) (hs : w.Shocks.length ≤ 16777216) : Ctr Tryz.prog 124 [w.v] [] (adh 1 (kh w)) (u6 IntS.cs (kh w)) := by
 refine Ctr.intro Tryz.mixed Tryz.func124 rfl Tryz.awn ?_
 refine ev2 @Tryz.ntmps124 @Tryz.results124 ?_
 refine ev1 @ab.v.eq_1 ?_
 (have ct := eg w (by omega) (by omega); (first | refine al.at ct ⟨leA, trivial⟩ ?_ | refine ah.at ct ⟨leA, trivial⟩ ?_); clear ct)
 cases h : wB w with
 | false =>
  refine ev0 ?_
  have e : kh w = none := by simp [kh, h]
  rw [e]
  simp only [adh, u6]
  refine ak.pick [1] (by decide) (fun j hj => by omega) (.inl ?_) ?_
  · first | rfl | (simp [ren, bc, posOf]; done)
  · simp only [az, List.map_cons, List.map_nil, bg, List.getElem?_cons_zero, List.getElem?_cons_succ, ae]
 | true =>
  have e : kh w = some ((ot w).map ai.Number) := by simp [kh, h]
  obtain ⟨G, G0, GS, GL, hend⟩ := akx h
  rw [e, hend]
  clear e hend
  have hw := ey h
  have hlen := hw.slen
  have hfl : (w.Shocks.filter kv).length ≤ 6 := Nat.le_trans (List.length_filter_le _ _) hlen
  refine ev0 ?_
  refine dr.intro (fun j : Nat => j ≤ 116) (fun j => ⟨(.undef :: .ptr 0 0 :: .undef :: .undef :: .osl 1 0 (G j).length 1 :: .int .i64 (95 - (j : Int)) :: (un 38 [])), [some w.cs, some (rows IntS.cs ((G j).map ai.Number))], 0⟩) (fun j => 116 - j) 0 (Nat.zero_le _) ?_ (fun j hj => ?_)
  · refine au.cut (2) (by simp) (by simp) ?_ ?_
    · simp [LeC, LeV, ren, bq, G0]
    · (simp [bz, cw, ren, ae, ab.cs, G0]; try rfl)
  refine ev0 ?_
  refine ay.split (fun h1 => ?_) (fun h1 => ?_)
  · refine ev1 @h1 ?_
    have hj' : j < 116 := by simp at h1; omega
    have hstep : ∀ {i : Nat} (hi : i < w.Shocks.length), (w.Shocks.take (i + 1)).filter (fun x => kv x && x.Size == 95 - (j : Int)) = (w.Shocks.take i).filter (fun x => kv x && x.Size == 95 - (j : Int)) ++ if (kv w.Shocks[i] && w.Shocks[i].Size == 95 - (j : Int)) = true then [w.Shocks[i]] else [] := fun {i} hi => by
     rw [List.take_succ_eq_append_getElem hi, List.filter_append]
     congr 1
     cases h : (kv w.Shocks[i] && w.Shocks[i].Size == 95 - (j : Int)) <;> simp [h]
    generalize hF : (fun i : Nat => G j ++ (w.Shocks.take i).filter (fun x => kv x && x.Size == 95 - (j : Int))) = F
    have F0 : F 0 = G j := by rw [← hF]; simp
    have FS1 : ∀ {i : Nat} (hi : i < w.Shocks.length), (kv w.Shocks[i] && w.Shocks[i].Size == 95 - (j : Int)) = true → F (i + 1) = F i ++ [w.Shocks[i]] := by
     intro i hi hc
     rw [← hF]
     simp only [hstep hi, hc, if_true, List.append_assoc]
    have FS0 : ∀ {i : Nat} (hi : i < w.Shocks.length), (kv w.Shocks[i] && w.Shocks[i].Size == 95 - (j : Int)) = false → F (i + 1) = F i := by
     intro i hi hc
     rw [← hF]
     simp only [hstep hi, hc, if_false, List.append_nil, Bool.false_eq_true]
    have FE : F w.Shocks.length = G (j + 1) := by rw [← hF, GS]; simp
    have FL : ∀ i, (F i).length ≤ 6 * j + 6 := by
     intro i
     rw [← hF]
     simp only [List.length_append]
     have h2 := List.length_filter_le (fun x => kv x && x.Size == 95 - (j : Int)) (w.Shocks.take i)
     have h3 := GL j
     rw [List.length_take] at h2
     omega
    clear hF hstep
    refine dr.intro (fun i : Nat => i ≤ w.Shocks.length) (fun i => ⟨(.undef :: .ptr 0 0 :: .undef :: .undef :: .osl 1 0 (F i).length 1 :: .int .i64 (95 - (j : Int)) :: .int .i64 i :: (un 37 [])), [some w.cs, some (rows IntS.cs ((F i).map ai.Number))], 0⟩) (fun i => w.Shocks.length - i) 0 (Nat.zero_le _) ?_ (fun i hi => ?_)
    · refine au.cut (2) (by simp) (by simp) ?_ ?_
      · simp [LeC, LeV, ren, bq, F0]
      · simp [bz, cw, ren, ae, ab.cs, F0]
    refine ev1 @ab.cs.eq_1 ?_
    refine ay.split (fun h2 => ?_) (fun h2 => ?_)
    · refine ev1 @h2 ?_
      have hi' : i < w.Shocks.length := by simpa using h2
      have h5 := ai.csl w.Shocks[i]
      have hr := bw ai.csl hi'
      have hFl := FL i
      refine rn3 @hr @ai.cs.eq_1 @ab.cs.eq_1 ?_
      refine ax.bu (fun h3 => ?_) (fun h3 => ?_) <;> refine ev1 @h3 ?_
      · refine ay.split (fun h4 => ?_) (fun h4 => ?_) <;> refine ev1 @h4 ?_
        · refine rn7 @hr @ai.cs.eq_1 @ab.cs.eq_1 @bb @bh @Nat.mul_one @List.length_map.{0, 0} ?_
          have hc : (kv w.Shocks[i] && w.Shocks[i].Size == 95 - (j : Int)) = true := by rw [kv, h3, h4]; rfl
          refine ⟨i + 1, hi', ?_, by omega⟩
          refine au.cut (2) (by simp) (by simp) ?_ ?_
          · rw [FS1 hi' hc]; simp [LeC, LeV, ren, bq]
          · rw [FS1 hi' hc, List.map_append, List.map_singleton, ← dw]
            simp [bz, cw, ren, bq, ae, dk, nq, ab.cs, IntS.cs]
        · try refine ew0 ?_
          have hc : (kv w.Shocks[i] && w.Shocks[i].Size == 95 - (j : Int)) = false := by rw [kv, h3, h4]; rfl
          refine ⟨i + 1, hi', ?_, by omega⟩
          refine au.cut (2) (by simp) (by simp) ?_ ?_
          · rw [FS0 hi' hc]; simp [LeC, LeV, ren, bq]
          · rw [FS0 hi' hc]; simp [bz, cw, ren, ae, ab.cs]
      · try refine ew0 ?_
        have hc : (kv w.Shocks[i] && w.Shocks[i].Size == 95 - (j : Int)) = false := by rw [kv, h3]; rfl
        refine ⟨i + 1, hi', ?_, by omega⟩
        refine au.cut (2) (by simp) (by simp) ?_ ?_
        · rw [FS0 hi' hc]; simp [LeC, LeV, ren, bq]
        · rw [FS0 hi' hc]; simp [bz, cw, ren, ae, ab.cs]
    · refine ev1 @h2 ?_
      have hi' : i = w.Shocks.length := by simp at h2; omega
      subst hi'
      try refine ew0 ?_
      refine ⟨j + 1, by omega, ?_, by omega⟩
      refine au.cut (2) (by simp) (by simp) ?_ ?_
      · rw [FE]; (simp [LeC, LeV, ren, bq]; try omega)
      · rw [FE]; simp [bz, cw, ren, ae, ab.cs]
  · refine ev1 @h1 ?_
    have hj' : j = 116 := by simp at h1; omega
    subst hj'
    have hml : ((G 116).map ai.Number).length = (G 116).length := List.length_map _
    simp only [adh, u6, hml]
    refine ak.pick [1] (by decide) (fun j hj => by omega) (.inl ?_) ?_
    · first | rfl | (simp [ren, bc, posOf]; done)
    · simp only [az, List.map_cons, List.map_nil, bg, List.getElem?_cons_zero, List.getElem?_cons_succ, ae]
end Go.Proofs
end
section
set_option maxRecDepth 100000
set_option maxHeartbeats 1000000
namespace Go.Proofs
open Go.Lv
def ldP (L : List bf) (o : Option Nat) (p : bf) : Bool := match o with
 | none => true
 | some b => match L[b]? with
  | some q => decide (p.Since < q.Since)
  | none => true
def ld (L : List bf) : Nat → Option Nat
 | 0 => none
 | i + 1 => match L[i]? with
  | none => ld L i
  | some p => if p.Up = false ∧ ldP L (ld L i) p = true then some i else ld L i
theorem ac4 {L : List bf} : ∀ {i b : Nat}, ld L i = some b → b < i ∧ b < L.length
 | 0, _, h => by simp [ld] at h
 | i + 1, b, h => by
  unfold ld at h
  split at h
  · have := ac4 h; omega
  · rename_i r hr
    split at h
    · simp at h; subst h
      exact ⟨by omega, (List.getElem?_eq_some_iff.1 hr).1⟩
    · have := ac4 h; omega
theorem uc {L : List bf} {i : Nat} (hi : i < L.length) : ld L (i + 1) = if L[i].Up = false ∧ ldP L (ld L i) L[i] = true then some i else ld L i := by
 rw [ld, List.getElem?_eq_getElem hi]
def ldI (o : Option Nat) : Int := match o with
 | none => -1
 | some b => b
def nn (w : ab) : List V := if wB w = true then
 match ld w.Posts w.Posts.length with
 | none => [.int .i64 0, .int .i64 0, .bool false]
 | some b => match w.Posts[b]? with
  | some p => [.int .i64 p.Station, .int .i64 (w.Now - p.Since), .bool true]
  | none => [.int .i64 0, .int .i64 0, .bool false]
 else [.int .i64 0, .int .i64 0, .bool false]
theorem ai4 {w : ab} (h : ld w.Posts w.Posts.length = none) : V.tup [.int .i64 0, .int .i64 0, .bool false] = .tup (nn w) := by
 unfold nn; rw [h]; split <;> rfl
theorem adi {w : ab} (hw : wB w = true) {b : Nat} (hb : b < w.Posts.length) (h : ld w.Posts w.Posts.length = some b) : V.tup [.int .i64 w.Posts[b].Station, .int .i64 (w.Now - w.Posts[b].Since), .bool true] = .tup (nn w) := by
 unfold nn; rw [h, if_pos hw]; simp [hb]
def am3 (L : List bf) (o : Option Nat) : Int := match o with
 | none => 0
 | some b => match L[b]? with
  | some p => p.Station
  | none => 0
def ti (w : ab) (o : Option Nat) : Int := match o with
 | none => -1
 | some b => match w.Posts[b]? with
  | some p => w.Now - p.Since
  | none => -1
theorem aby (w : ab) (hp : w.Posts.length ≤ 16777216) (hs : w.Shocks.length ≤ 16777216) : Ctr Tryz.prog 117 [w.v] [] (.tup (nn w)) [] := by
 refine Ctr.intro Tryz.mixed Tryz.func117 rfl Tryz.av5 ?_
 refine ev2 @Tryz.ntmps117 @Tryz.results117 ?_
 refine ev1 @ab.v.eq_1 ?_
 cases h : wB w with
 | false => repeat' (first | exact ak.refl _ _ _ | (refine ak.aq ?_ (by rfl); first | rfl | (simp [h, nn, *]; done)) | ((have ct := ec w (by omega) (by omega); (first | refine al.at ct ⟨leA, trivial⟩ ?_ | refine ah.at ct ⟨leA, trivial⟩ ?_); clear ct); simp -implicitDefEqProofs -dsimp only [go_sem, h, nn, *]) | (refine ax.bu (fun _ => ?_) (fun _ => ?_) <;> simp -implicitDefEqProofs -dsimp only [go_sem, h, nn, *]) | (refine ax.cq (fun _ => ?_) (fun _ => ?_) <;> simp -implicitDefEqProofs -dsimp only [go_sem, h, nn, *]) | (refine ay.split (fun _ => ?_) (fun _ => ?_) <;> simp -implicitDefEqProofs -dsimp only [go_sem, h, nn, *]) | (exfalso; simp_all; done))
 | true =>
  have ok := ey h
  have hnow := ok.now
  repeat (first | ((have ct := ec w (by omega) (by omega); (first | refine al.at ct ⟨leA, trivial⟩ ?_ | refine ah.at ct ⟨leA, trivial⟩ ?_); clear ct); refine ev1 @h ?_) | (with_reducible refine And.intro (by first | omega | (show cd _ = true; kernel_rfl)) ?_; try refine ew1 @h ?_))
  refine dr.intro (fun i : Nat => i ≤ w.Posts.length) (fun i => ⟨(.undef :: .ptr 0 0 :: (un 3 (.int .i64 (am3 w.Posts (ld w.Posts i)) :: .int .i64 (ti w (ld w.Posts i)) :: (un 7 (bf.sl w.Posts :: .int .i64 w.Posts.length :: .int .i64 i :: (un 24 [])))))), [some w.cs], 0⟩) (fun i => w.Posts.length - i) 0 (Nat.zero_le _) ?_ (fun i hi => ?_)
  · refine au.cut (1) (by simp) (by simp) ?_ ?_
    · simp [LeC, LeV, ren, bq, ld, am3, ti]
    · simp [bz, cw, ren, ab.cs]
  refine ev1 @ab.cs.eq_1 ?_
  refine ay.split (fun h1 => ?_) (fun h1 => ?_)
  · refine ev1 @h1 ?_
    have hi' : i < w.Posts.length := by simpa using h1
    have h5 := bf.csl w.Posts[i]
    have hr := bw bf.csl hi'
    have hvi := l5.1 (ok.posts _ (List.getElem_mem hi'))
    refine rn3 @hr @bf.cs.eq_1 @ab.cs.eq_1 ?_
    have step : ∀ o, ld w.Posts (i + 1) = o → True := fun _ _ => trivial
    refine ax.bu (fun h2 => ?_) (fun h2 => ?_) <;> refine rn3 @h2 @bf.cs.eq_1 @ab.cs.eq_1 ?_
    · have hup : w.Posts[i].Up = false := by simpa using h2
      refine ay.split (fun h3 => ?_) (fun h3 => ?_) <;> refine rn3 @h3 @bf.cs.eq_1 @ab.cs.eq_1 ?_
      · have e : ld w.Posts (i + 1) = some i := by
         rw [uc hi', if_pos]
         refine ⟨hup, ?_⟩
         simp at h3
         cases ho : ld w.Posts i with
         | none => rfl
         | some b =>
          have hb := ac4 ho
          rw [ho] at h3
          simp [ti, hb.2] at h3
          simp [ldP, hb.2]; omega
        refine ⟨i + 1, hi', ?_, by omega⟩
        refine au.cut (1) (by simp) (by simp) ?_ ?_
        · rw [e]
          simp [LeC, LeV, ren, bq, am3, ti, hi']
        · simp [bz, cw, ren, ab.cs]
      · have e : ld w.Posts (i + 1) = ld w.Posts i := by
         rw [uc hi', if_neg]
         rintro ⟨_, hq⟩
         simp at h3
         cases ho : ld w.Posts i with
         | none => rw [ho] at h3; simp [ti] at h3; omega
         | some b =>
          have hb := ac4 ho
          rw [ho] at h3 hq
          simp [ti, hb.2] at h3
          simp [ldP, hb.2] at hq; omega
        refine ⟨i + 1, hi', ?_, by omega⟩
        refine au.cut (1) (by simp) (by simp) ?_ ?_
        · rw [e]
          simp [LeC, LeV, ren, bq]
        · simp [bz, cw, ren, ab.cs]
    · have e : ld w.Posts (i + 1) = ld w.Posts i := by
       rw [uc hi', if_neg]
       rintro ⟨hq, _⟩
       simp [hq] at h2
      refine ⟨i + 1, hi', ?_, by omega⟩
      refine au.cut (1) (by simp) (by simp) ?_ ?_
      · rw [e]
        simp [LeC, LeV, ren, bq]
      · simp [bz, cw, ren, ab.cs]
  · refine ev1 @h1 ?_
    have hi' : i = w.Posts.length := by simp at h1; omega
    subst hi'
    cases ho : ld w.Posts w.Posts.length with
    | none =>
     simp -implicitDefEqProofs -dsimp only [go_sem, ti, am3]
     exact ak.aq (ai4 ho) (by rfl)
    | some b =>
     have hb := (ac4 ho).2
     have hvi := l5.1 (ok.posts _ (List.getElem_mem hb))
     have e1 : ti w (some b) = w.Now - w.Posts[b].Since := by simp [ti, hb]
     have e2 : am3 w.Posts (some b) = w.Posts[b].Station := by simp [am3, hb]
     have e3 : decide (w.Now - w.Posts[b].Since < 0) = false := decide_eq_false (by omega)
     refine ev3 @e1 @e2 @e3 ?_
     exact ak.aq (adi h hb ho) (by rfl)
theorem abo (w : ab) (hp : w.Posts.length ≤ 16777216) (hs : w.Shocks.length ≤ 16777216) : Ctr Tryz.prog 127 [w.v] [] (.tup (nn w)) [] := by
 refine Ctr.intro Tryz.mixed Tryz.func127 rfl Tryz.ax4 ?_
 refine ev2 @Tryz.ntmps127 @Tryz.results127 ?_
 refine ev1 @ab.v.eq_1 ?_
 cases h : wB w with
 | false => repeat' (first | exact ak.refl _ _ _ | (refine ak.aq ?_ (by rfl); first | rfl | (simp [h, nn, *]; done)) | ((have ct := eg w (by omega) (by omega); (first | refine al.at ct ⟨leA, trivial⟩ ?_ | refine ah.at ct ⟨leA, trivial⟩ ?_); clear ct); simp -implicitDefEqProofs -dsimp only [go_sem, h, nn, *]) | (refine ax.bu (fun _ => ?_) (fun _ => ?_) <;> simp -implicitDefEqProofs -dsimp only [go_sem, h, nn, *]) | (refine ax.cq (fun _ => ?_) (fun _ => ?_) <;> simp -implicitDefEqProofs -dsimp only [go_sem, h, nn, *]) | (refine ay.split (fun _ => ?_) (fun _ => ?_) <;> simp -implicitDefEqProofs -dsimp only [go_sem, h, nn, *]) | (exfalso; simp_all; done))
 | true =>
  have ok := ey h
  have hnow := ok.now
  repeat (first | ((have ct := eg w (by omega) (by omega); (first | refine al.at ct ⟨leA, trivial⟩ ?_ | refine ah.at ct ⟨leA, trivial⟩ ?_); clear ct); refine ev1 @h ?_) | (with_reducible refine And.intro (by first | omega | (show cd _ = true; kernel_rfl)) ?_; try refine ew1 @h ?_))
  refine dr.intro (fun i : Nat => i ≤ w.Posts.length) (fun i => ⟨(.undef :: .ptr 0 0 :: (un 3 (.int .i64 (ldI (ld w.Posts i)) :: .int .i64 i :: (un 54 [])))), [some w.cs], 0⟩) (fun i => w.Posts.length - i) 0 (Nat.zero_le _) ?_ (fun i hi => ?_)
  · refine au.cut (1) (by simp) (by simp) ?_ ?_
    · simp [LeC, LeV, ren, bq, ld, ldI]
    · simp [bz, cw, ren, ab.cs]
  refine ev1 @ab.cs.eq_1 ?_
  refine ay.split (fun h1 => ?_) (fun h1 => ?_)
  · refine ev1 @h1 ?_
    have hi' : i < w.Posts.length := by simpa using h1
    have h5 := bf.csl w.Posts[i]
    have hr := bw bf.csl hi'
    have keep : w.Posts[i].Up = true → ld w.Posts (i + 1) = ld w.Posts i := by
     intro hq
     rw [uc hi', if_neg]
     rintro ⟨h, _⟩
     simp [hq] at h
    cases ho : ld w.Posts i with
    | none =>
     have e0 : ldI none = -1 := rfl
     rw [e0]
     refine rn3 @hr @bf.cs.eq_1 @ab.cs.eq_1 ?_
     refine ax.bu (fun h2 => ?_) (fun h2 => ?_) <;> refine rn4 @h2 @hr @bf.cs.eq_1 @ab.cs.eq_1 ?_
     · have hup : w.Posts[i].Up = false := by simpa using h2
       have e : ld w.Posts (i + 1) = some i := by
        rw [uc hi', if_pos]
        exact ⟨hup, by rw [ho]; rfl⟩
       refine ⟨i + 1, hi', ?_, by omega⟩
       refine au.cut (1) (by simp) (by simp) ?_ ?_
       · rw [e]
         simp [LeC, LeV, ren, bq, ldI]
       · simp [bz, cw, ren, ab.cs]
     · have e : ld w.Posts (i + 1) = none := by rw [keep (by simpa using h2), ho]
       refine ⟨i + 1, hi', ?_, by omega⟩
       refine au.cut (1) (by simp) (by simp) ?_ ?_
       · rw [e]
         simp [LeC, LeV, ren, bq, ldI]
       · simp [bz, cw, ren, ab.cs]
    | some b =>
     have hb := ac4 ho
     have hrb := bw bf.csl hb.2
     have h6 := bf.csl w.Posts[b]
     have e0 : ldI (some b) = (b : Int) := rfl
     have e3 : decide ((b : Int) < 0) = false := decide_eq_false (by omega)
     rw [e0]
     refine rn3 @hr @bf.cs.eq_1 @ab.cs.eq_1 ?_
     refine ax.bu (fun h2 => ?_) (fun h2 => ?_) <;> refine rn6 @h2 @e3 @hr @hrb @bf.cs.eq_1 @ab.cs.eq_1 ?_
     · have hup : w.Posts[i].Up = false := by simpa using h2
       refine ay.split (fun h3 => ?_) (fun h3 => ?_) <;> refine rn5 @h3 @hr @hrb @bf.cs.eq_1 @ab.cs.eq_1 ?_
       · have e : ld w.Posts (i + 1) = some i := by
          rw [uc hi', if_pos]
          exact ⟨hup, by rw [ho]; simpa [ldP, hb.2] using h3⟩
         refine ⟨i + 1, hi', ?_, by omega⟩
         refine au.cut (1) (by simp) (by simp) ?_ ?_
         · rw [e]
           simp [LeC, LeV, ren, bq, ldI]
         · simp [bz, cw, ren, ab.cs]
       · have e : ld w.Posts (i + 1) = some b := by
          rw [uc hi', if_neg, ho]
          rintro ⟨_, hq⟩
          rw [ho] at hq
          simp [ldP, hb.2] at hq
          simp at h3
          omega
         refine ⟨i + 1, hi', ?_, by omega⟩
         refine au.cut (1) (by simp) (by simp) ?_ ?_
         · rw [e]
           simp [LeC, LeV, ren, bq, ldI]
         · simp [bz, cw, ren, ab.cs]
     · have e : ld w.Posts (i + 1) = some b := by rw [keep (by simpa using h2), ho]
       refine ⟨i + 1, hi', ?_, by omega⟩
       refine au.cut (1) (by simp) (by simp) ?_ ?_
       · rw [e]
         simp [LeC, LeV, ren, bq, ldI]
       · simp [bz, cw, ren, ab.cs]
  · refine ev1 @h1 ?_
    have hi' : i = w.Posts.length := by simp at h1; omega
    subst hi'
    cases ho : ld w.Posts w.Posts.length with
    | none =>
     have e0 : ldI none = -1 := rfl
     rw [e0]
     refine ev0 ?_
     exact ak.aq (ai4 ho) (by rfl)
    | some b =>
     have hb := (ac4 ho).2
     have hvi := l5.1 (ok.posts _ (List.getElem_mem hb))
     have hrb := bw bf.csl hb
     have h6 := bf.csl w.Posts[b]
     have e3 : decide ((b : Int) < 0) = false := decide_eq_false (by omega)
     have e0 : ldI (some b) = (b : Int) := rfl
     rw [e0]
     refine rn4 @e3 @hrb @bf.cs.eq_1 @ab.cs.eq_1 ?_
     exact ak.aq (adi h hb ho) (by rfl)
end Go.Proofs
end
section
set_option maxRecDepth 100000
set_option maxHeartbeats 2000000
namespace Go.Proofs
open Go.Lv
def kwl : List ByteArray := [⟨#[119, 97, 105, 116]⟩, ⟨#[115, 104, 111, 99, 107]⟩, ⟨#[100, 111, 119, 110]⟩, ⟨#[117, 112]⟩, ⟨#[112, 117, 98, 108, 105, 115, 104]⟩, ⟨#[97, 114, 99, 104, 105, 118, 101]⟩, ⟨#[108, 111, 99, 97, 116, 101]⟩, ⟨#[114, 101, 118, 105, 101, 119]⟩, ⟨#[116, 101, 120, 116]⟩, ⟨#[110, 111, 119]⟩, ⟨#[112, 111, 115, 116, 115]⟩, ⟨#[116, 111, 100, 111]⟩, ⟨#[115, 116, 97, 116, 101, 115]⟩, ⟨#[108, 111, 110, 103, 101, 115, 116]⟩]
def kwd (h : ByteArray) : Nat := match kwl.findIdx? (fun x => decide (x = h)) with
 | some i => i + 1
 | none => 0
theorem an6 : kwl.Nodup := of_decide_eq_true (by kernel_rfl)
theorem mj {h : ByteArray} {i : Nat} (hi : i < kwl.length) : h = kwl[i] ↔ kwd h = i + 1 := by
 constructor
 · intro e
   have h1 : kwl.findIdx? (fun x => decide (x = h)) = some i := by
    rw [List.findIdx?_eq_some_iff_getElem]
    refine ⟨hi, by simp [e], fun j hj => ?_⟩
    have := List.pairwise_iff_getElem.1 an6 j i (by omega) hi hj
    simp [e, this]
   rw [kwd, h1]
 · intro e
   unfold kwd at e
   split at e
   · rename_i j hj
     rw [List.findIdx?_eq_some_iff_getElem] at hj
     obtain ⟨g1, g2, _⟩ := hj
     have : j = i := by omega
     subst this
     simpa using (of_decide_eq_true g2).symm
   · omega
theorem ayw (h : ByteArray) : kwd h ≤ 14 := by
 unfold kwd
 split
 · rename_i j hj
   rw [List.findIdx?_eq_some_iff_getElem] at hj
   obtain ⟨g1, _⟩ := hj
   have : kwl.length = 14 := rfl
   omega
 · omega
theorem kw1 {h : ByteArray} : h = (⟨#[119, 97, 105, 116]⟩ : ByteArray) ↔ kwd h = 1 := mj (i := 0) (by decide)
theorem kwb1 (h : ByteArray) : (h.toList == (⟨#[119, 97, 105, 116]⟩ : ByteArray).toList) = decide (kwd h = 1) := by rw [gw]; exact decide_eq_decide.2 kw1
theorem kw2 {h : ByteArray} : h = (⟨#[115, 104, 111, 99, 107]⟩ : ByteArray) ↔ kwd h = 2 := mj (i := 1) (by decide)
theorem kwb2 (h : ByteArray) : (h.toList == (⟨#[115, 104, 111, 99, 107]⟩ : ByteArray).toList) = decide (kwd h = 2) := by rw [gw]; exact decide_eq_decide.2 kw2
theorem kw3 {h : ByteArray} : h = (⟨#[100, 111, 119, 110]⟩ : ByteArray) ↔ kwd h = 3 := mj (i := 2) (by decide)
theorem kwb3 (h : ByteArray) : (h.toList == (⟨#[100, 111, 119, 110]⟩ : ByteArray).toList) = decide (kwd h = 3) := by rw [gw]; exact decide_eq_decide.2 kw3
theorem kw4 {h : ByteArray} : h = (⟨#[117, 112]⟩ : ByteArray) ↔ kwd h = 4 := mj (i := 3) (by decide)
theorem kwb4 (h : ByteArray) : (h.toList == (⟨#[117, 112]⟩ : ByteArray).toList) = decide (kwd h = 4) := by rw [gw]; exact decide_eq_decide.2 kw4
theorem kw5 {h : ByteArray} : h = (⟨#[112, 117, 98, 108, 105, 115, 104]⟩ : ByteArray) ↔ kwd h = 5 := mj (i := 4) (by decide)
theorem kwb5 (h : ByteArray) : (h.toList == (⟨#[112, 117, 98, 108, 105, 115, 104]⟩ : ByteArray).toList) = decide (kwd h = 5) := by rw [gw]; exact decide_eq_decide.2 kw5
theorem kw6 {h : ByteArray} : h = (⟨#[97, 114, 99, 104, 105, 118, 101]⟩ : ByteArray) ↔ kwd h = 6 := mj (i := 5) (by decide)
theorem kwb6 (h : ByteArray) : (h.toList == (⟨#[97, 114, 99, 104, 105, 118, 101]⟩ : ByteArray).toList) = decide (kwd h = 6) := by rw [gw]; exact decide_eq_decide.2 kw6
theorem kw7 {h : ByteArray} : h = (⟨#[108, 111, 99, 97, 116, 101]⟩ : ByteArray) ↔ kwd h = 7 := mj (i := 6) (by decide)
theorem kwb7 (h : ByteArray) : (h.toList == (⟨#[108, 111, 99, 97, 116, 101]⟩ : ByteArray).toList) = decide (kwd h = 7) := by rw [gw]; exact decide_eq_decide.2 kw7
theorem kw8 {h : ByteArray} : h = (⟨#[114, 101, 118, 105, 101, 119]⟩ : ByteArray) ↔ kwd h = 8 := mj (i := 7) (by decide)
theorem kwb8 (h : ByteArray) : (h.toList == (⟨#[114, 101, 118, 105, 101, 119]⟩ : ByteArray).toList) = decide (kwd h = 8) := by rw [gw]; exact decide_eq_decide.2 kw8
theorem kw9 {h : ByteArray} : h = (⟨#[116, 101, 120, 116]⟩ : ByteArray) ↔ kwd h = 9 := mj (i := 8) (by decide)
theorem kwb9 (h : ByteArray) : (h.toList == (⟨#[116, 101, 120, 116]⟩ : ByteArray).toList) = decide (kwd h = 9) := by rw [gw]; exact decide_eq_decide.2 kw9
theorem kw10 {h : ByteArray} : h = (⟨#[110, 111, 119]⟩ : ByteArray) ↔ kwd h = 10 := mj (i := 9) (by decide)
theorem avq (h : ByteArray) : (h.toList == (⟨#[110, 111, 119]⟩ : ByteArray).toList) = decide (kwd h = 10) := by rw [gw]; exact decide_eq_decide.2 kw10
theorem kw11 {h : ByteArray} : h = (⟨#[112, 111, 115, 116, 115]⟩ : ByteArray) ↔ kwd h = 11 := mj (i := 10) (by decide)
theorem at2 (h : ByteArray) : (h.toList == (⟨#[112, 111, 115, 116, 115]⟩ : ByteArray).toList) = decide (kwd h = 11) := by rw [gw]; exact decide_eq_decide.2 kw11
theorem kw12 {h : ByteArray} : h = (⟨#[116, 111, 100, 111]⟩ : ByteArray) ↔ kwd h = 12 := mj (i := 11) (by decide)
theorem aub (h : ByteArray) : (h.toList == (⟨#[116, 111, 100, 111]⟩ : ByteArray).toList) = decide (kwd h = 12) := by rw [gw]; exact decide_eq_decide.2 kw12
theorem kw13 {h : ByteArray} : h = (⟨#[115, 116, 97, 116, 101, 115]⟩ : ByteArray) ↔ kwd h = 13 := mj (i := 12) (by decide)
theorem au9 (h : ByteArray) : (h.toList == (⟨#[115, 116, 97, 116, 101, 115]⟩ : ByteArray).toList) = decide (kwd h = 13) := by rw [gw]; exact decide_eq_decide.2 kw13
theorem kw14 {h : ByteArray} : h = (⟨#[108, 111, 110, 103, 101, 115, 116]⟩ : ByteArray) ↔ kwd h = 14 := mj (i := 13) (by decide)
theorem aua (h : ByteArray) : (h.toList == (⟨#[108, 111, 110, 103, 101, 115, 116]⟩ : ByteArray).toList) = decide (kwd h = 14) := by rw [gw]; exact decide_eq_decide.2 kw14
def jl (q : Nat) (ns : List Int) : Option (Int × Int × Int) := match ns with
 | [] => if q = 2 then some (4, 0, 0) else none
 | [n] => if q = 1 then some (1, 0, n) else if q = 3 then some (2, n, 0) else if q = 4 then some (3, n, 0) else if q = 5 then some (7, n, 0) else if q = 6 then some (8, n, 0) else none
 | [n, v] => if q = 7 then some (5, n, v) else if q = 8 then some (6, n, v) else none
 | _ => none
def ups (w : ab) : List Int := r7 w.Posts w.Posts.length
def yy (w : ab) (n : Int) : Option ByteArray := (w.Shocks.find? (du n)).map l8
def lgO (w : ab) : Option (Int × Int) := match ld w.Posts w.Posts.length with
 | none => none
 | some b => match w.Posts[b]? with
  | some p => some (p.Station, w.Now - p.Since)
  | none => none
def js (w : ab) (k n : Int) : Option ByteArray :=
 if k = 1 then some (num w.Now) else if k = 2 ∨ k = 3 then some (lg (ups w)) else if k = 4 then some (num (w.Next - 1)) else if k = 8 then some (num w.Archived) else yy w n
def vq (w : ab) (q : Nat) : Option ByteArray :=
 if q = 10 then some (num w.Now) else if q = 11 then some (lg (ups w)) else if q = 12 then some (lg ((ot w).map ai.Number)) else if q = 13 then some (lg (cx w.Shocks)) else if q = 14 then (lgO w).map fun p => lg [p.1, p.2] else none
noncomputable def tm (L : List ByteArray) : Option (List Int) := if L.all (fun s => (da s).isSome) = true then some (L.map fun s => (da s).getD 0) else none
def lh (w : ab) (k n v : Int) : ab × ByteArray := match fb w k n v with
 | none => (w, wQ)
 | some b => (b, (js b k n).getD wQ)
noncomputable def mh (w : ab) (q : Nat) (ns : List Int) : ab × ByteArray := match jl q ns with
 | some (k, n, v) => lh w k n v
 | none => match ns with
  | [] => (w, (vq w q).getD wQ)
  | [n] => (w, if q = 9 then (yy w n).getD wQ else wQ)
  | _ => (w, wQ)
noncomputable def fw (w : ab) (line : ByteArray) : ab × ByteArray := match tm (jt 32 line).tail with
 | none => (w, wQ)
 | some ns => mh w (kwd ((jt 32 line).headD ⟨#[]⟩)) ns
theorem aa3 {w : ab} (h : wB w = true) (n : Int) : jc w n = .tup [.str ((yy w n).getD ByteArray.empty), .bool (yy w n).isSome] := by
 rw [jc, if_pos h, yy]
 cases w.Shocks.find? (du n) <;> rfl
theorem aja {w : ab} (h : wB w = true) : nn w = [.int .i64 ((lgO w).map Prod.fst |>.getD 0), .int .i64 ((lgO w).map Prod.snd |>.getD 0), .bool (lgO w).isSome] := by
 rw [nn, if_pos h, lgO]
 cases ld w.Posts w.Posts.length with
 | none => rfl
 | some b =>
  dsimp only
  cases w.Posts[b]? <;> rfl
theorem aqe {w : ab} (h : wB w = true) : upR w = some (ups w) := if_pos h
theorem ad2 {w : ab} (h : wB w = true) : kh w = some ((ot w).map ai.Number) := if_pos h
theorem aed {w : ab} (h : wB w = true) : pf w = some (cx w.Shocks) := if_pos h
theorem aog {s : ByteArray} : -999999 ≤ (da s).getD 0 ∧ (da s).getD 0 ≤ 999999 := by
 cases h : da s with
 | none => exact ⟨by decide, by decide⟩
 | some n => exact ⟨(xy h).1, (xy h).2.1⟩
theorem aa6 {L : List ByteArray} {ns : List Int} (h : tm L = some ns) : ∀ n ∈ ns, -999999 ≤ n ∧ n ≤ 999999 := by
 unfold tm at h
 split at h
 · simp only [Option.some.injEq] at h
   subst h
   intro n hn
   obtain ⟨s, _, rfl⟩ := List.mem_map.1 hn
   exact aog
 · cases h
theorem apl {c : UInt8} {s x : ByteArray} (h : jt c s = [x]) : x = s := by
 obtain ⟨l, h1, h2⟩ := s6 c s
 rw [h1] at h
 injection h with h3 h4
 have h5 := h2.1 h4
 rw [← h3, bef, if_neg (by rw [fnd] at h5; simpa using h5)]
theorem aax (c : UInt8) (s : ByteArray) : ∃ x l, jt c s = x :: l := by
 obtain ⟨l, h1, _⟩ := s6 c s
 exact ⟨_, _, h1⟩
theorem ad8 (c : UInt8) (s : ByteArray) : (jt c s).length ≤ s.size + 1 := by
 have := (acp c s s.size (Nat.le_refl _)).2
 rw [jt, List.length_append]
 simp only [List.length_cons, List.length_nil]; omega
theorem aaj {L : List ByteArray} {i : Nat} (hi : i < L.length) (h : (da L[i]).isSome = false) : tm L = none := by
 rw [tm, if_neg]
 intro h2
 have := List.all_eq_true.1 h2 _ (List.getElem_mem hi)
 rw [h] at this; cases this
theorem xu {L : List ByteArray} (h : (L.take L.length).all (fun s => (da s).isSome) = true) : tm L = some (L.map fun s => (da s).getD 0) := by
 rw [List.take_length] at h
 rw [tm, if_pos h]
end Go.Proofs
end
section
set_option maxRecDepth 100000
set_option maxHeartbeats 4000000
namespace Go.Proofs
open Go.Lv
theorem vk (L : List Int) (hL : ∀ n ∈ L, bt n) (hl : L.length ≤ 100000) : Ctr Tryz.prog 110 [IntS.sl L] [] (.str (lg L)) [] := by
 by_cases he : L = []
 · have c0 : ((L.length : Int) == 0) = true := by rw [he]; rfl
   refine Ctr.intro Tryz.mixed Tryz.func110 rfl Tryz.ao7 ?_
   refine ev2 @Tryz.ntmps110 @Tryz.results110 ?_
   refine rn1 @c0 ?_
   exact ak.aq (by rw [lg, if_pos he]; rfl) (by rfl)
 have hpos : 0 < L.length := List.length_pos_iff.2 he
 have c0 : ((L.length : Int) == 0) = false := by simp; omega
 refine Ctr.intro Tryz.mixed Tryz.func110 rfl Tryz.ao7 ?_
 refine ev2 @Tryz.ntmps110 @Tryz.results110 ?_
 refine rn1 @c0 ?_
 refine dr.intro (fun i : Nat => i ≤ L.length) (fun i => ⟨(un 3 (.osl 0 0 i 1 :: (un 6 (IntS.sl L :: .int .i64 L.length :: .int .i64 i :: (un 11 []))))), [some (rows StringS.cs ((L.take i).map num))], 0⟩) (fun i => L.length - i) 0 (Nat.zero_le _) ?_ (fun i hi => ?_)
 · refine au.cut (1) (by simp) (by simp) ?_ ?_
   · simp [LeC, LeV, ren, bq]
   · rfl
 refine ev0 ?_
 refine ay.split (fun h1 => ?_) (fun h1 => ?_)
 · have hi' : i < L.length := by have := of_decide_eq_true h1; omega
   have hr := bw IntS.csl hi'
   have hst : (L.take (i + 1)).map num = (L.take i).map num ++ [num L[i]] := by rw [List.take_succ_eq_append_getElem hi', List.map_append]; rfl
   have hlen : ((L.take i).map num).length = i := by simp; omega
   refine rn3 @h1 @hr @IntS.cs.eq_1 ?_
   (first | refine al.at (rk L[i] (hL _ (List.getElem_mem hi'))) ⟨leA, trivial⟩ ?_ | refine ah.at (rk L[i] (hL _ (List.getElem_mem hi'))) ⟨leA, trivial⟩ ?_)
   refine rn4 @bb @bh @Nat.mul_one @hlen ?_
   refine ⟨i + 1, hi', ?_, by omega⟩
   refine au.cut (1) (by simp) (by simp) ?_ ?_
   · simp [LeC, LeV, ren, bq]
   · rw [hst, ← dw]
     simp [bz, cw, ren, bq, ae, dk, StringS.cs]
 · have hi' : i = L.length := by have := of_decide_eq_false h1; omega
   subst hi'
   have hsz := yb L hL
   have hjl := afw L
   refine rn2 @h1 @List.take_length.{0} ?_
   (have ct := ar7 (L.map num) (by rw [← hjl, ga]; omega) (by simp; omega); (first | refine al.at ct ⟨leA, leA, trivial⟩ ?_ | refine ah.at ct ⟨leA, leA, trivial⟩ ?_); clear ct)
   refine rn0 ?_
   refine ak.aq ?_ (by rfl)
   rw [lg, if_neg he, ← hjl]
def abc (o : Option (Int × Int × Int)) : V := .agg [.int .i64 ((o.map fun p => p.1).getD 0), .int .i64 ((o.map fun p => p.2.1).getD 0), .int .i64 ((o.map fun p => p.2.2).getD 0)]
def M1 : List (Value × Value) := [(.string ⟨#[100, 111, 119, 110]⟩, .int .i64 2), (.string ⟨#[117, 112]⟩, .int .i64 3), (.string ⟨#[112, 117, 98, 108, 105, 115, 104]⟩, .int .i64 7), (.string ⟨#[97, 114, 99, 104, 105, 118, 101]⟩, .int .i64 8)]
def M2 : List (Value × Value) := [(.string ⟨#[108, 111, 99, 97, 116, 101]⟩, .int .i64 5), (.string ⟨#[114, 101, 118, 105, 101, 119]⟩, .int .i64 6)]
theorem awv (a b : ByteArray) : (a == b) = decide (a = b) := by
 by_cases e : a = b
 · subst e; simp only [decide_true]; exact (Go.MapKept.bytes_beq a a).2 rfl
 · rw [decide_eq_false e]
   cases h : (a == b)
   · rfl
   · exact absurd ((Go.MapKept.bytes_beq a b).1 h) e
theorem aai {a b : ByteArray} (h : ¬ a = b) : (a == b) = false := by rw [awv]; exact decide_eq_false h
theorem a5u (h : ByteArray) : ke .string (.string h) M1 0 = some (if kwd h = 3 then some (0, .int .i64 2) else if kwd h = 4 then some (1, .int .i64 3) else if kwd h = 5 then some (2, .int .i64 7) else if kwd h = 6 then some (3, .int .i64 8) else none) := by
 by_cases c3 : kwd h = 3
 · rw [if_pos c3]; have := kw3.2 c3; subst this; rfl
 by_cases c4 : kwd h = 4
 · rw [if_neg c3, if_pos c4]; have := kw4.2 c4; subst this; rfl
 by_cases c5 : kwd h = 5
 · rw [if_neg c3, if_neg c4, if_pos c5]; have := kw5.2 c5; subst this; rfl
 by_cases c6 : kwd h = 6
 · rw [if_neg c3, if_neg c4, if_neg c5, if_pos c6]; have := kw6.2 c6; subst this; rfl
 rw [if_neg c3, if_neg c4, if_neg c5, if_neg c6]
 simp only [M1, ke, Instr.sameNow, aai (fun e => c3 (kw3.1 e)), aai (fun e => c4 (kw4.1 e)), aai (fun e => c5 (kw5.1 e)), aai (fun e => c6 (kw6.1 e))]
theorem a2u (h : ByteArray) : ke .string (.string h) M2 0 = some (if kwd h = 7 then some (0, .int .i64 5) else if kwd h = 8 then some (1, .int .i64 6) else none) := by
 by_cases c3 : kwd h = 7
 · rw [if_pos c3]; have := kw7.2 c3; subst this; rfl
 by_cases c4 : kwd h = 8
 · rw [if_neg c3, if_pos c4]; have := kw8.2 c4; subst this; rfl
 rw [if_neg c3, if_neg c4]
 simp only [M2, ke, Instr.sameNow, aai (fun e => c3 (kw7.1 e)), aai (fun e => c4 (kw8.1 e))]
theorem ae8 (h : ByteArray) (ns : List Int) (hl : ns.length ≤ 100000) : Ctr Tryz.prog 71 [.str h, IntS.sl ns] [] (.tup [abc (jl (kwd h) ns), .bool (jl (kwd h) ns).isSome]) [] := by
 have f1 : ke .string (.string ⟨#[100, 111, 119, 110]⟩) [] 0 = some none := rfl
 have f2 : ke .string (.string ⟨#[117, 112]⟩) [(.string ⟨#[100, 111, 119, 110]⟩, .int .i64 2)] 0 = some none := by kernel_rfl
 have f3 : ke .string (.string ⟨#[112, 117, 98, 108, 105, 115, 104]⟩) [(.string ⟨#[100, 111, 119, 110]⟩, .int .i64 2), (.string ⟨#[117, 112]⟩, .int .i64 3)] 0 = some none := by kernel_rfl
 have f4 : ke .string (.string ⟨#[97, 114, 99, 104, 105, 118, 101]⟩) [(.string ⟨#[100, 111, 119, 110]⟩, .int .i64 2), (.string ⟨#[117, 112]⟩, .int .i64 3), (.string ⟨#[112, 117, 98, 108, 105, 115, 104]⟩, .int .i64 7)] 0 = some none := by kernel_rfl
 have f5 : ke .string (.string ⟨#[108, 111, 99, 97, 116, 101]⟩) [] 0 = some none := rfl
 have f6 : ke .string (.string ⟨#[114, 101, 118, 105, 101, 119]⟩) [(.string ⟨#[108, 111, 99, 97, 116, 101]⟩, .int .i64 5)] 0 = some none := by kernel_rfl
 have k1 := a5u h
 have k2 := a2u h
 have hb1 := kwb1 h
 have hb2 := kwb2 h
 have hq14 := ayw h
 generalize kwd h = q at *
 have hM1 : [(Value.string ⟨#[100, 111, 119, 110]⟩, Value.int .i64 2), (.string ⟨#[117, 112]⟩, .int .i64 3), (.string ⟨#[112, 117, 98, 108, 105, 115, 104]⟩, .int .i64 7), (.string ⟨#[97, 114, 99, 104, 105, 118, 101]⟩, .int .i64 8)] = M1 := rfl
 have hM2 : [(Value.string ⟨#[108, 111, 99, 97, 116, 101]⟩, Value.int .i64 5), (.string ⟨#[114, 101, 118, 105, 101, 119]⟩, .int .i64 6)] = M2 := rfl
 have hq : q = 0 ∨ q = 1 ∨ q = 2 ∨ q = 3 ∨ q = 4 ∨ q = 5 ∨ q = 6 ∨ q = 7 ∨ q = 8 ∨ 9 ≤ q := by omega
 have z00 : (((0 : Nat) : Int) == 0) = true := rfl
 have z01 : (((0 : Nat) : Int) == 1) = false := rfl
 have z02 : (((0 : Nat) : Int) == 2) = false := rfl
 have z10 : (((1 : Nat) : Int) == 0) = false := rfl
 have z11 : (((1 : Nat) : Int) == 1) = true := rfl
 have z12 : (((1 : Nat) : Int) == 2) = false := rfl
 have z20 : (((2 : Nat) : Int) == 0) = false := rfl
 have z21 : (((2 : Nat) : Int) == 1) = false := rfl
 have z22 : (((2 : Nat) : Int) == 2) = true := rfl
 rcases ns with _ | ⟨n1, _ | ⟨n2, _ | ⟨n3, L⟩⟩⟩
 · have c0 : ((([] : List Int).length : Int) == 0) = true := rfl
   have c1 : ((([] : List Int).length : Int) == 1) = false := rfl
   have c2 : ((([] : List Int).length : Int) == 2) = false := rfl
   rcases hq with rfl | rfl | rfl | rfl | rfl | rfl | rfl | rfl | rfl | hq
   all_goals (try simp only [Nat.reduceEqDiff, if_false, if_true] at k1 k2)
   case inr.inr.inr.inr.inr.inr.inr.inr.inr =>
    rw [if_neg (by omega), if_neg (by omega), if_neg (by omega), if_neg (by omega)] at k1
    rw [if_neg (by omega), if_neg (by omega)] at k2
    have d1 : decide (q = 1) = false := decide_eq_false (by omega)
    have d2 : decide (q = 2) = false := decide_eq_false (by omega)
    have e : jl q ([] : List Int) = none := by simp only [jl]; (repeat rw [if_neg (by omega)])
    rw [e]
    refine Ctr.intro Tryz.mixed Tryz.func71 rfl Tryz.abe ?_
    refine ev2 @Tryz.ntmps71 @Tryz.results71 ?_
    (repeat ((repeat1' (first | simp -implicitDefEqProofs -dsimp only [go_sem, f1, f2, f3, f4, f5, f6, ur, List.nil_append, List.cons_append, hM1, hM2, hb1, hb2, d1, d2, c0, c1, c2, z00, z01, z02, z10, z11, z12, z20, z21, z22, k1, k2] | simp -dsimp (disch := omega) only [wrap_i64])); repeat (with_reducible refine df ?_)))
    exact ak.aq rfl (by rfl)
   all_goals
    refine Ctr.intro Tryz.mixed Tryz.func71 rfl Tryz.abe ?_
    refine ev2 @Tryz.ntmps71 @Tryz.results71 ?_
    (repeat ((repeat1' (first | simp -implicitDefEqProofs -dsimp only [go_sem, f1, f2, f3, f4, f5, f6, ur, List.nil_append, List.cons_append, hM1, hM2, hb1, hb2, c0, c1, c2, z00, z01, z02, z10, z11, z12, z20, z21, z22, k1, k2, c0] | simp -dsimp (disch := omega) only [wrap_i64])); repeat (with_reducible refine df ?_)))
    first | exact ak.aq rfl (by rfl) | skip
 · have c0 : ((([n1] : List Int).length : Int) == 0) = false := rfl
   have c1 : ((([n1] : List Int).length : Int) == 1) = true := rfl
   have c2 : ((([n1] : List Int).length : Int) == 2) = false := rfl
   have hr0 : rows IntS.cs [n1] = [.int .i64 n1] := rfl
   rcases hq with rfl | rfl | rfl | rfl | rfl | rfl | rfl | rfl | rfl | hq
   all_goals (try simp only [Nat.reduceEqDiff, if_false, if_true] at k1 k2)
   case inr.inr.inr.inr.inr.inr.inr.inr.inr =>
    rw [if_neg (by omega), if_neg (by omega), if_neg (by omega), if_neg (by omega)] at k1
    rw [if_neg (by omega), if_neg (by omega)] at k2
    have d1 : decide (q = 1) = false := decide_eq_false (by omega)
    have d2 : decide (q = 2) = false := decide_eq_false (by omega)
    have e : jl q [n1] = none := by simp only [jl]; (repeat rw [if_neg (by omega)])
    rw [e]
    refine Ctr.intro Tryz.mixed Tryz.func71 rfl Tryz.abe ?_
    refine ev2 @Tryz.ntmps71 @Tryz.results71 ?_
    (repeat ((repeat1' (first | simp -implicitDefEqProofs -dsimp only [go_sem, f1, f2, f3, f4, f5, f6, ur, List.nil_append, List.cons_append, hM1, hM2, hb1, hb2, d1, d2, c0, c1, c2, z00, z01, z02, z10, z11, z12, z20, z21, z22, k1, k2] | simp -dsimp (disch := omega) only [wrap_i64])); repeat (with_reducible refine df ?_)))
    exact ak.aq rfl (by rfl)
   all_goals
    refine Ctr.intro Tryz.mixed Tryz.func71 rfl Tryz.abe ?_
    refine ev2 @Tryz.ntmps71 @Tryz.results71 ?_
    (repeat ((repeat1' (first | simp -implicitDefEqProofs -dsimp only [go_sem, f1, f2, f3, f4, f5, f6, ur, List.nil_append, List.cons_append, hM1, hM2, hb1, hb2, c0, c1, c2, z00, z01, z02, z10, z11, z12, z20, z21, z22, k1, k2, hr0] | simp -dsimp (disch := omega) only [wrap_i64])); repeat (with_reducible refine df ?_)))
    first | exact ak.aq rfl (by rfl) | skip
 · have c0 : ((([n1, n2] : List Int).length : Int) == 0) = false := rfl
   have c1 : ((([n1, n2] : List Int).length : Int) == 1) = false := rfl
   have c2 : ((([n1, n2] : List Int).length : Int) == 2) = true := rfl
   have hr0 : rows IntS.cs [n1, n2] = [.int .i64 n1, .int .i64 n2] := rfl
   rcases hq with rfl | rfl | rfl | rfl | rfl | rfl | rfl | rfl | rfl | hq
   all_goals (try simp only [Nat.reduceEqDiff, if_false, if_true] at k1 k2)
   case inr.inr.inr.inr.inr.inr.inr.inr.inr =>
    rw [if_neg (by omega), if_neg (by omega), if_neg (by omega), if_neg (by omega)] at k1
    rw [if_neg (by omega), if_neg (by omega)] at k2
    have d1 : decide (q = 1) = false := decide_eq_false (by omega)
    have d2 : decide (q = 2) = false := decide_eq_false (by omega)
    have e : jl q [n1, n2] = none := by simp only [jl]; (repeat rw [if_neg (by omega)])
    rw [e]
    refine Ctr.intro Tryz.mixed Tryz.func71 rfl Tryz.abe ?_
    refine ev2 @Tryz.ntmps71 @Tryz.results71 ?_
    (repeat ((repeat1' (first | simp -implicitDefEqProofs -dsimp only [go_sem, f1, f2, f3, f4, f5, f6, ur, List.nil_append, List.cons_append, hM1, hM2, hb1, hb2, d1, d2, c0, c1, c2, z00, z01, z02, z10, z11, z12, z20, z21, z22, k1, k2] | simp -dsimp (disch := omega) only [wrap_i64])); repeat (with_reducible refine df ?_)))
    exact ak.aq rfl (by rfl)
   all_goals
    refine Ctr.intro Tryz.mixed Tryz.func71 rfl Tryz.abe ?_
    refine ev2 @Tryz.ntmps71 @Tryz.results71 ?_
    (repeat ((repeat1' (first | simp -implicitDefEqProofs -dsimp only [go_sem, f1, f2, f3, f4, f5, f6, ur, List.nil_append, List.cons_append, hM1, hM2, hb1, hb2, c0, c1, c2, z00, z01, z02, z10, z11, z12, z20, z21, z22, k1, k2, hr0] | simp -dsimp (disch := omega) only [wrap_i64])); repeat (with_reducible refine df ?_)))
    first | exact ak.aq rfl (by rfl) | skip
 · have c1 : (((n1 :: n2 :: n3 :: L).length : Int) == 1) = false := by simp; omega
   have c2 : (((n1 :: n2 :: n3 :: L).length : Int) == 2) = false := by simp; omega
   have c0 : (((n1 :: n2 :: n3 :: L).length : Int) == 0) = false := by simp; omega
   have e : jl q (n1 :: n2 :: n3 :: L) = none := rfl
   rw [e]
   clear e
   generalize n1 :: n2 :: n3 :: L = ns at *
   rcases hq with rfl | rfl | rfl | rfl | rfl | rfl | rfl | rfl | rfl | hq
   all_goals (try simp only [Nat.reduceEqDiff, if_false, if_true] at k1 k2)
   case inr.inr.inr.inr.inr.inr.inr.inr.inr =>
    rw [if_neg (by omega), if_neg (by omega), if_neg (by omega), if_neg (by omega)] at k1
    rw [if_neg (by omega), if_neg (by omega)] at k2
    have d1 : decide (q = 1) = false := decide_eq_false (by omega)
    have d2 : decide (q = 2) = false := decide_eq_false (by omega)
    refine Ctr.intro Tryz.mixed Tryz.func71 rfl Tryz.abe ?_
    refine ev2 @Tryz.ntmps71 @Tryz.results71 ?_
    (repeat ((repeat1' (first | simp -implicitDefEqProofs -dsimp only [go_sem, f1, f2, f3, f4, f5, f6, ur, List.nil_append, List.cons_append, hM1, hM2, hb1, hb2, d1, d2, c0, c1, c2, z00, z01, z02, z10, z11, z12, z20, z21, z22, k1, k2] | simp -dsimp (disch := omega) only [wrap_i64])); repeat (with_reducible refine df ?_)))
    exact ak.aq rfl (by rfl)
   all_goals
    refine Ctr.intro Tryz.mixed Tryz.func71 rfl Tryz.abe ?_
    refine ev2 @Tryz.ntmps71 @Tryz.results71 ?_
    (repeat ((repeat1' (first | simp -implicitDefEqProofs -dsimp only [go_sem, f1, f2, f3, f4, f5, f6, ur, List.nil_append, List.cons_append, hM1, hM2, hb1, hb2, c0, c1, c2, z00, z01, z02, z10, z11, z12, z20, z21, z22, k1, k2, c0] | simp -dsimp (disch := omega) only [wrap_i64])); repeat (with_reducible refine df ?_)))
    first | exact ak.aq rfl (by rfl) | skip
end Go.Proofs
end
section
set_option maxRecDepth 100000
set_option maxHeartbeats 4000000
namespace Go.Proofs
open Go.Lv
def aj.oc (c : aj) (i j : Nat) : List V := [.int .i64 c.ab.Now, .osl i 0 c.ab.Posts.length 3, .osl j 0 c.ab.Shocks.length 5, .int .i64 c.ab.Next, .int .i64 c.ab.Archived, .str c.Log.Durable, .str c.Log.Pending, .int .i64 c.Log.Count]
def cW (c : aj) (b : ab) : aj := ⟨b, c.Log⟩
theorem amu (c : aj) (k n v : Int) (hw : wB c.ab = true) (hs : fb c.ab k n v = none) : Ctr Tryz.prog 72 [.ptr 0 0, .agg [.int .i64 k, .int .i64 n, .int .i64 v]] [some (c.oc 1 2), some (rows bf.cs c.ab.Posts), some (rows ai.cs c.ab.Shocks)] (.tup [.str ⟨#[]⟩, .bool false]) [some (c.oc 1 2), some (rows bf.cs c.ab.Posts), some (rows ai.cs c.ab.Shocks)] := by
 have W := ey hw
 have pl := W.plen
 have sl := W.slen
 have iS := xe c.ab k n v (by omega) (by omega)
 rw [hs] at iS
 simp only [adg, ad1] at iS
 refine Ctr.intro Tryz.mixed Tryz.func72 rfl Tryz.zg ?_
 refine ev2 @Tryz.ntmps72 @Tryz.results72 ?_
 refine rn1 @aj.oc.eq_1 ?_
 (first | refine al.at (iS) ⟨leA, leA, trivial⟩ ?_ | refine ah.at (iS) ⟨leA, leA, trivial⟩ ?_)
 refine rn1 @ajl.eq_1 ?_
 refine ak.pick [0, 1, 2] (by decide) (by decide) (.inl rfl) ?_
 simp [az, bg, ren, bc, posOf, ae, aj.oc]
theorem ak5 (c : aj) (b : ab) (k n v : Int) (hs : fb c.ab k n v = some b) : Ctr Tryz.prog 72 [.ptr 0 0, .agg [.int .i64 k, .int .i64 n, .int .i64 v]] [some (c.oc 1 2), some (rows bf.cs c.ab.Posts), some (rows ai.cs c.ab.Shocks)] (.tup [.str ((js b k n).getD ⟨#[]⟩), .bool (js b k n).isSome]) [some ((cW c b).oc 3 4), some (rows bf.cs c.ab.Posts), some (rows ai.cs c.ab.Shocks), some (rows bf.cs b.Posts), some (rows ai.cs b.Shocks)] := by
 obtain ⟨hw, hst, _, _, hb⟩ := x5 hs
 have W := ey hw
 have pl := W.plen
 have sl := W.slen
 have B := ey hb
 have bl := B.plen
 have bs := B.slen
 have bn := B.now
 have bx := B.next
 have ba := B.arch
 have iS := xe c.ab k n v (by omega) (by omega)
 rw [hs] at iS
 simp only [adg, ad1] at iS
 have hup := ud b (by omega)
 have hlt := vk (ups b) (fun x hx => by
  obtain ⟨p, hp, rfl⟩ := List.mem_map.1 hx
  have := (l5.1 (B.posts p (List.mem_of_mem_take (List.mem_filter.1 hp).1))).1
  exact ⟨by omega, by omega⟩) (by have := yu b.Posts b.Posts.length; rw [ups]; omega)
 rcases pa hst with ⟨rfl, h1⟩ | hk | rfl | rfl | ⟨hk, h1⟩
 · have e : js b 1 n = some (num b.Now) := rfl
   rw [e]
   refine Ctr.intro Tryz.mixed Tryz.func72 rfl Tryz.zg ?_
   refine ev2 @Tryz.ntmps72 @Tryz.results72 ?_
   refine rn1 @aj.oc.eq_1 ?_
   (first | refine al.at (iS) ⟨leA, leA, trivial⟩ ?_ | refine ah.at (iS) ⟨leA, leA, trivial⟩ ?_)
   refine rn2 @ab.o.eq_1 @aj.oc.eq_1 ?_
   (have ct := rk b.Now ⟨by omega, by omega⟩; (first | refine al.at ct ⟨leA, trivial⟩ ?_ | refine ah.at ct ⟨leA, trivial⟩ ?_); clear ct)
   refine rn1 @aj.oc.eq_1 ?_
   refine ak.pick [0, 1, 2, 4, 5] (by decide) (by decide) (.inl rfl) ?_
   simp [az, bg, ren, bc, posOf, ae, aj.oc, cW]
 · have e : js b k n = some (lg (ups b)) := by rcases hk with rfl | rfl <;> rfl
   rw [e]
   rcases hk with rfl | rfl
   · skip
     refine Ctr.intro Tryz.mixed Tryz.func72 rfl Tryz.zg ?_
     refine ev2 @Tryz.ntmps72 @Tryz.results72 ?_
     refine rn1 @aj.oc.eq_1 ?_
     (first | refine al.at (iS) ⟨leA, leA, trivial⟩ ?_ | refine ah.at (iS) ⟨leA, leA, trivial⟩ ?_)
     refine rn2 @ab.o.eq_1 @aj.oc.eq_1 ?_
     (first | refine al.at (hup) ⟨leA, trivial⟩ ?_ | refine ah.at (hup) ⟨leA, trivial⟩ ?_)
     refine rn1 @aj.oc.eq_1 ?_
     (first | refine al.at (hlt) ⟨leA, trivial⟩ ?_ | refine ah.at (hlt) ⟨leA, trivial⟩ ?_)
     refine rn1 @aj.oc.eq_1 ?_
     refine ak.pick [0, 1, 2, 4, 5] (by decide) (by decide) (.inl rfl) ?_
     simp [az, bg, ren, bc, posOf, ae, aj.oc, cW]
   · skip
     refine Ctr.intro Tryz.mixed Tryz.func72 rfl Tryz.zg ?_
     refine ev2 @Tryz.ntmps72 @Tryz.results72 ?_
     refine rn1 @aj.oc.eq_1 ?_
     (first | refine al.at (iS) ⟨leA, leA, trivial⟩ ?_ | refine ah.at (iS) ⟨leA, leA, trivial⟩ ?_)
     refine rn2 @ab.o.eq_1 @aj.oc.eq_1 ?_
     (first | refine al.at (hup) ⟨leA, trivial⟩ ?_ | refine ah.at (hup) ⟨leA, trivial⟩ ?_)
     refine rn1 @aj.oc.eq_1 ?_
     (first | refine al.at (hlt) ⟨leA, trivial⟩ ?_ | refine ah.at (hlt) ⟨leA, trivial⟩ ?_)
     refine rn1 @aj.oc.eq_1 ?_
     refine ak.pick [0, 1, 2, 4, 5] (by decide) (by decide) (.inl rfl) ?_
     simp [az, bg, ren, bc, posOf, ae, aj.oc, cW]
 · have e : js b 4 n = some (num (b.Next - 1)) := rfl
   rw [e]
   refine Ctr.intro Tryz.mixed Tryz.func72 rfl Tryz.zg ?_
   refine ev2 @Tryz.ntmps72 @Tryz.results72 ?_
   refine rn1 @aj.oc.eq_1 ?_
   (first | refine al.at (iS) ⟨leA, leA, trivial⟩ ?_ | refine ah.at (iS) ⟨leA, leA, trivial⟩ ?_)
   refine rn2 @ab.o.eq_1 @aj.oc.eq_1 ?_
   (have ct := rk (b.Next - 1) ⟨by omega, by omega⟩; (first | refine al.at ct ⟨leA, trivial⟩ ?_ | refine ah.at ct ⟨leA, trivial⟩ ?_); clear ct)
   refine rn1 @aj.oc.eq_1 ?_
   refine ak.pick [0, 1, 2, 4, 5] (by decide) (by decide) (.inl rfl) ?_
   simp [az, bg, ren, bc, posOf, ae, aj.oc, cW]
 · have e : js b 8 n = some (num b.Archived) := rfl
   rw [e]
   refine Ctr.intro Tryz.mixed Tryz.func72 rfl Tryz.zg ?_
   refine ev2 @Tryz.ntmps72 @Tryz.results72 ?_
   refine rn1 @aj.oc.eq_1 ?_
   (first | refine al.at (iS) ⟨leA, leA, trivial⟩ ?_ | refine ah.at (iS) ⟨leA, leA, trivial⟩ ?_)
   refine rn2 @ab.o.eq_1 @aj.oc.eq_1 ?_
   (have ct := rk b.Archived ⟨by omega, by omega⟩; (first | refine al.at ct ⟨leA, trivial⟩ ?_ | refine ah.at ct ⟨leA, trivial⟩ ?_); clear ct)
   refine rn1 @aj.oc.eq_1 ?_
   refine ak.pick [0, 1, 2, 4, 5] (by decide) (by decide) (.inl rfl) ?_
   simp [az, bg, ren, bc, posOf, ae, aj.oc, cW]
 · have hT := xh b n (by omega) (by omega)
   rw [aa3 hb] at hT
   have e : js b k n = yy b n := by rcases hk with rfl | rfl | rfl <;> rfl
   rw [e]
   rcases hk with rfl | rfl | rfl
   · skip
     refine Ctr.intro Tryz.mixed Tryz.func72 rfl Tryz.zg ?_
     refine ev2 @Tryz.ntmps72 @Tryz.results72 ?_
     refine rn1 @aj.oc.eq_1 ?_
     (first | refine al.at (iS) ⟨leA, leA, trivial⟩ ?_ | refine ah.at (iS) ⟨leA, leA, trivial⟩ ?_)
     refine rn2 @ab.o.eq_1 @aj.oc.eq_1 ?_
     (first | refine al.at (hT) ⟨leA, leA, trivial⟩ ?_ | refine ah.at (hT) ⟨leA, leA, trivial⟩ ?_)
     refine rn1 @aj.oc.eq_1 ?_
     refine ak.pick [0, 1, 2, 4, 5] (by decide) (by decide) (.inl rfl) ?_
     simp [az, bg, ren, bc, posOf, ae, aj.oc, cW]
   · skip
     refine Ctr.intro Tryz.mixed Tryz.func72 rfl Tryz.zg ?_
     refine ev2 @Tryz.ntmps72 @Tryz.results72 ?_
     refine rn1 @aj.oc.eq_1 ?_
     (first | refine al.at (iS) ⟨leA, leA, trivial⟩ ?_ | refine ah.at (iS) ⟨leA, leA, trivial⟩ ?_)
     refine rn2 @ab.o.eq_1 @aj.oc.eq_1 ?_
     (first | refine al.at (hT) ⟨leA, leA, trivial⟩ ?_ | refine ah.at (hT) ⟨leA, leA, trivial⟩ ?_)
     refine rn1 @aj.oc.eq_1 ?_
     refine ak.pick [0, 1, 2, 4, 5] (by decide) (by decide) (.inl rfl) ?_
     simp [az, bg, ren, bc, posOf, ae, aj.oc, cW]
   · skip
     refine Ctr.intro Tryz.mixed Tryz.func72 rfl Tryz.zg ?_
     refine ev2 @Tryz.ntmps72 @Tryz.results72 ?_
     refine rn1 @aj.oc.eq_1 ?_
     (first | refine al.at (iS) ⟨leA, leA, trivial⟩ ?_ | refine ah.at (iS) ⟨leA, leA, trivial⟩ ?_)
     refine rn2 @ab.o.eq_1 @aj.oc.eq_1 ?_
     (first | refine al.at (hT) ⟨leA, leA, trivial⟩ ?_ | refine ah.at (hT) ⟨leA, leA, trivial⟩ ?_)
     refine rn1 @aj.oc.eq_1 ?_
     refine ak.pick [0, 1, 2, 4, 5] (by decide) (by decide) (.inl rfl) ?_
     simp [az, bg, ren, bc, posOf, ae, aj.oc, cW]
end Go.Proofs
end
section
set_option maxRecDepth 100000
set_option maxHeartbeats 4000000
namespace Go.Proofs
open Go.Lv
theorem aot {α : Type} {lt : α → α → Bool} {y : α} {L : List α} (h : y ∈ cn lt L) : y ∈ L := by
 have key : ∀ (L S : List α), y ∈ L.foldl (ins lt) S → y ∈ S ∨ y ∈ L := by
  intro L
  induction L with
  | nil => intro S h; exact .inl h
  | cons a L ih =>
   intro S h
   rw [List.foldl_cons] at h
   rcases ih _ h with h | h
   · unfold ins putAt at h
     rcases List.mem_append.1 h with h | h
     · exact .inl (List.mem_of_mem_take h)
     · rcases List.mem_cons.1 h with h | h
       · exact .inr (h ▸ List.mem_cons_self)
       · exact .inl (List.mem_of_mem_drop h)
   · exact .inr (List.mem_cons_of_mem _ h)
 rcases key L [] h with h | h
 · cases h
 · exact h
theorem ava {w : ab} (h : wB w = true) : (∀ n ∈ ups w, bt n ∧ 1 ≤ n ∧ n ≤ 99) ∧ (ups w).length ≤ 8 := by
 have W := ey h
 refine ⟨fun x hx => ?_, by have := yu w.Posts w.Posts.length; have := W.plen; rw [ups]; omega⟩
 obtain ⟨p, hp, rfl⟩ := List.mem_map.1 hx
 have := (l5.1 (W.posts p (List.mem_of_mem_take (List.mem_filter.1 hp).1))).1
 exact ⟨⟨by omega, by omega⟩, this⟩
theorem ave {w : ab} (h : wB w = true) : (∀ n ∈ (ot w).map ai.Number, bt n ∧ 1 ≤ n ∧ n ≤ 999) ∧ ((ot w).map ai.Number).length ≤ 6 := by
 have W := ey h
 refine ⟨fun x hx => ?_, ?_⟩
 · obtain ⟨y, hy, rfl⟩ := List.mem_map.1 hx
   have := (gb.1 (W.shocks y (List.mem_filter.1 (aot hy)).1)).1
   have := W.next
   exact ⟨⟨by omega, by omega⟩, by omega, by omega⟩
 · have h1 := List.length_filter_le kv w.Shocks
   have := W.slen
   rw [List.length_map, ot, jm]; omega
theorem au4 {w : ab} (h : wB w = true) : (∀ n ∈ cx w.Shocks, bt n ∧ 0 ≤ n ∧ n ≤ 6) ∧ (cx w.Shocks).length ≤ 8 := by
 have W := ey h
 have h1 := rl (L := w.Shocks) w.Shocks.length (Nat.le_refl _)
 have h2 := ja (L := w.Shocks) w.Shocks.length (Nat.le_refl _)
 rw [List.take_length] at h1 h2
 have := W.slen
 exact ⟨fun n hn => by have := h1 n hn; exact ⟨⟨by omega, by omega⟩, by omega, by omega⟩, by omega⟩
theorem lg_r {w : ab} (h : wB w = true) : (1 ≤ ((lgO w).map Prod.fst).getD 1 ∧ ((lgO w).map Prod.fst).getD 1 ≤ 99) ∧ (0 ≤ ((lgO w).map Prod.snd).getD 0 ∧ ((lgO w).map Prod.snd).getD 0 ≤ 1000000) ∧ bt (((lgO w).map Prod.fst).getD 0) := by
 have W := ey h
 have hn := W.now
 rw [lgO]
 cases hl : ld w.Posts w.Posts.length with
 | none => refine ⟨⟨?_, ?_⟩, ⟨?_, ?_⟩, ⟨?_, ?_⟩⟩ <;> simp
 | some b =>
  dsimp only
  cases hp : w.Posts[b]? with
  | none => refine ⟨⟨?_, ?_⟩, ⟨?_, ?_⟩, ⟨?_, ?_⟩⟩ <;> simp
  | some p =>
   have hm : p ∈ w.Posts := List.mem_of_getElem? hp
   have := l5.1 (W.posts p hm)
   simp only [Option.map_some, Option.getD_some]
   exact ⟨by omega, by omega, by omega, by omega⟩
def atr (w : ab) (q : Nat) : ByteArray := if q = 14 then lg [((lgO w).map Prod.fst).getD 0, ((lgO w).map Prod.snd).getD 0] else (vq w q).getD ⟨#[]⟩
theorem atx {w : ab} {q : Nat} {x : ByteArray} (h : vq w q = some x) : atr w q = x := by
 unfold atr
 split
 · rename_i e
   subst e
   rw [show vq w 14 = (lgO w).map fun p => lg [p.1, p.2] from rfl] at h
   cases hl : lgO w with
   | none => rw [hl] at h; cases h
   | some p => rw [hl] at h; simpa using h
 · rw [h]; rfl
theorem agp (L : List Int) (b : Bool) (hL : ∀ n ∈ L, bt n) (hl : L.length ≤ 100000) : Ctr Tryz.prog 113 [IntS.sl L, .bool b] [] (.tup [.str (lg L), .bool b]) [] := by
 refine Ctr.intro Tryz.mixed Tryz.func113 rfl Tryz.awl ?_
 refine ev2 @Tryz.ntmps113 @Tryz.results113 ?_
 refine rn0 ?_
 (have ct := vk L hL hl; (first | refine al.at ct ⟨leA, trivial⟩ ?_ | refine ah.at ct ⟨leA, trivial⟩ ?_); clear ct)
 refine rn0 ?_
 exact ak.aq rfl (by rfl)
theorem aw4 (c : aj) (h : ByteArray) (hw : wB c.ab = true) : Ctr Tryz.prog 74 [.ptr 0 0, .str h] [some (c.oc 1 2), some (rows bf.cs c.ab.Posts), some (rows ai.cs c.ab.Shocks)] (.tup [.str (atr c.ab (kwd h)), .bool (vq c.ab (kwd h)).isSome]) [some (c.oc 1 2), some (rows bf.cs c.ab.Posts), some (rows ai.cs c.ab.Shocks)] := by
 have W := ey hw
 have pl := W.plen
 have sl := W.slen
 have bn := W.now
 have iU := aiw c.ab (by omega) (by omega)
 have iT := ag2 c.ab (by omega) (by omega)
 have iS := abn c.ab (by omega) (by omega)
 have iL := aby c.ab (by omega) (by omega)
 rw [aqe hw] at iU
 rw [ad2 hw] at iT
 rw [aed hw] at iS
 rw [aja hw] at iL
 simp only [sq, me] at iU iT iS
 have u := ava hw
 have r := ave hw
 have s := au4 hw
 have l := lg_r hw
 have lU := agp (ups c.ab) true (fun n hn => (u.1 n hn).1) (by omega)
 have lT := agp ((ot c.ab).map ai.Number) true (fun n hn => (r.1 n hn).1) (by omega)
 have lS := agp (cx c.ab.Shocks) true (fun n hn => (s.1 n hn).1) (by omega)
 have lL := vk [((lgO c.ab).map Prod.fst).getD 0, ((lgO c.ab).map Prod.snd).getD 0] (fun n hn => by
  simp only [List.mem_cons, List.not_mem_nil, or_false] at hn
  rcases hn with rfl | rfl
  · exact l.2.2
  · exact ⟨by omega, by omega⟩) (by simp)
 have b10 := avq h
 have b11 := at2 h
 have b12 := aub h
 have b13 := au9 h
 have b14 := aua h
 generalize kwd h = q at *
 have hq : q = 10 ∨ q = 11 ∨ q = 12 ∨ q = 13 ∨ q = 14 ∨ (q ≠ 10 ∧ q ≠ 11 ∧ q ≠ 12 ∧ q ≠ 13 ∧ q ≠ 14) := by omega
 rcases hq with rfl | rfl | rfl | rfl | rfl | ⟨q1, q2, q3, q4, q5⟩
 · skip
   refine Ctr.intro Tryz.mixed Tryz.func74 rfl Tryz.afx ?_
   refine ev2 @Tryz.ntmps74 @Tryz.results74 ?_
   refine rn6 @aj.oc.eq_1 @b10 @b11 @b12 @b13 @b14 ?_
   (have ct := rk c.ab.Now ⟨by omega, by omega⟩; (first | refine al.at ct ⟨leA, trivial⟩ ?_ | refine ah.at ct ⟨leA, trivial⟩ ?_); clear ct)
   refine rn0 ?_
   refine ak.pick [0, 1, 2] (by decide) (by decide) (.inl rfl) ?_
   simp [az, bg, ren, bc, posOf, ae, aj.oc]
 · skip
   refine Ctr.intro Tryz.mixed Tryz.func74 rfl Tryz.afx ?_
   refine ev2 @Tryz.ntmps74 @Tryz.results74 ?_
   refine rn6 @aj.oc.eq_1 @b10 @b11 @b12 @b13 @b14 ?_
   (first | refine al.at (iU) ⟨leA, trivial⟩ ?_ | refine ah.at (iU) ⟨leA, trivial⟩ ?_)
   refine rn0 ?_
   (first | refine al.at (lU) ⟨leA, leA, trivial⟩ ?_ | refine ah.at (lU) ⟨leA, leA, trivial⟩ ?_)
   refine rn0 ?_
   refine ak.pick [0, 1, 2] (by decide) (by decide) (.inl rfl) ?_
   simp [az, bg, ren, bc, posOf, ae, aj.oc]
 · skip
   refine Ctr.intro Tryz.mixed Tryz.func74 rfl Tryz.afx ?_
   refine ev2 @Tryz.ntmps74 @Tryz.results74 ?_
   refine rn6 @aj.oc.eq_1 @b10 @b11 @b12 @b13 @b14 ?_
   (first | refine al.at (iT) ⟨leA, trivial⟩ ?_ | refine ah.at (iT) ⟨leA, trivial⟩ ?_)
   refine rn0 ?_
   (first | refine al.at (lT) ⟨leA, leA, trivial⟩ ?_ | refine ah.at (lT) ⟨leA, leA, trivial⟩ ?_)
   refine rn0 ?_
   refine ak.pick [0, 1, 2] (by decide) (by decide) (.inl rfl) ?_
   simp [az, bg, ren, bc, posOf, ae, aj.oc]
 · skip
   refine Ctr.intro Tryz.mixed Tryz.func74 rfl Tryz.afx ?_
   refine ev2 @Tryz.ntmps74 @Tryz.results74 ?_
   refine rn6 @aj.oc.eq_1 @b10 @b11 @b12 @b13 @b14 ?_
   (first | refine al.at (iS) ⟨leA, trivial⟩ ?_ | refine ah.at (iS) ⟨leA, trivial⟩ ?_)
   refine rn0 ?_
   (first | refine al.at (lS) ⟨leA, leA, trivial⟩ ?_ | refine ah.at (lS) ⟨leA, leA, trivial⟩ ?_)
   refine rn0 ?_
   refine ak.pick [0, 1, 2] (by decide) (by decide) (.inl rfl) ?_
   simp [az, bg, ren, bc, posOf, ae, aj.oc]
 · have e : (vq c.ab 14).isSome = (lgO c.ab).isSome := by
    rw [show vq c.ab 14 = (lgO c.ab).map fun p => lg [p.1, p.2] from rfl]; cases lgO c.ab <;> rfl
   rw [e]
   refine Ctr.intro Tryz.mixed Tryz.func74 rfl Tryz.afx ?_
   refine ev2 @Tryz.ntmps74 @Tryz.results74 ?_
   refine rn6 @aj.oc.eq_1 @b10 @b11 @b12 @b13 @b14 ?_
   (first | refine al.at (iL) ⟨leA, trivial⟩ ?_ | refine ah.at (iL) ⟨leA, trivial⟩ ?_)
   refine rn0 ?_
   (first | refine al.at (lL) ⟨leA, trivial⟩ ?_ | refine ah.at (lL) ⟨leA, trivial⟩ ?_)
   refine rn0 ?_
   refine ak.pick [0, 1, 2] (by decide) (by decide) (.inl rfl) ?_
   simp [az, bg, ren, bc, posOf, ae, aj.oc]
 · have d0 : decide (q = 10) = false := decide_eq_false q1
   have d1 : decide (q = 11) = false := decide_eq_false q2
   have d2 : decide (q = 12) = false := decide_eq_false q3
   have d3 : decide (q = 13) = false := decide_eq_false q4
   have d4 : decide (q = 14) = false := decide_eq_false q5
   have e : vq c.ab q = none := by rw [vq, if_neg q1, if_neg q2, if_neg q3, if_neg q4, if_neg q5]
   rw [atr, if_neg q5, e]
   refine Ctr.intro Tryz.mixed Tryz.func74 rfl Tryz.afx ?_
   refine ev2 @Tryz.ntmps74 @Tryz.results74 ?_
   refine rn11 @aj.oc.eq_1 @b10 @b11 @b12 @b13 @b14 @d0 @d1 @d2 @d3 @d4 ?_
   refine ak.pick [0, 1, 2] (by decide) (by decide) (.inl rfl) ?_
   simp [az, bg, ren, bc, posOf, ae, aj.oc]
end Go.Proofs
end
section
set_option maxRecDepth 100000
set_option maxHeartbeats 4000000
namespace Go.Proofs
open Go.Lv
noncomputable def zk (w : ab) (line : ByteArray) : Option ab := match tm (jt 32 line).tail with
 | none => none
 | some ns => match jl (kwd ((jt 32 line).headD ⟨#[]⟩)) ns with
  | some (k, n, v) => fb w k n v
  | none => none
theorem ajj (w : ab) (line : ByteArray) : (fw w line).1 = (zk w line).getD w := by
 unfold fw zk
 cases tm (jt 32 line).tail with
 | none => rfl
 | some ns =>
  dsimp only
  unfold mh
  cases jl (kwd ((jt 32 line).headD ⟨#[]⟩)) ns with
  | none => cases ns with
   | nil => rfl
   | cons a l => cases l <;> rfl
  | some p =>
   obtain ⟨k, n, v⟩ := p
   dsimp only
   unfold lh
   cases fb w k n v <;> rfl
theorem ah0 {w : ab} {q : Nat} (h : jl q [] = none) : mh w q [] = (w, (vq w q).getD wQ) := by unfold mh; rw [h]
theorem ajq {w : ab} {q : Nat} {n : Int} (h : jl q [n] = none) : mh w q [n] = (w, if q = 9 then (yy w n).getD wQ else wQ) := by unfold mh; rw [h]
theorem ad7 {w : ab} {q : Nat} {a b : Int} {L : List Int} (h : jl q (a :: b :: L) = none) : mh w q (a :: b :: L) = (w, wQ) := by unfold mh; rw [h]
theorem akk (c : aj) (line : ByteArray) (hl : line.size ≤ 1000) (hw : wB c.ab = true) (hs : zk c.ab line = none) : Ctr Tryz.prog 35 [.ptr 0 0, .str line] [some (c.oc 1 2), some (rows bf.cs c.ab.Posts), some (rows ai.cs c.ab.Shocks)] (.str (fw c.ab line).2) [some (c.oc 1 2), some (rows bf.cs c.ab.Posts), some (rows ai.cs c.ab.Shocks)] := by
 have W := ey hw
 have pl := W.plen
 have sl := W.slen
 obtain ⟨x, T, hS⟩ := aax 32 line
 have hT : (jt 32 line).tail = T := by rw [hS]; rfl
 have hx : (jt 32 line).headD ⟨#[]⟩ = x := by rw [hS]; rfl
 have hsp := afr line 32 (by omega)
 have hlen := ad8 32 line
 have hsz : ∀ y ∈ x :: T, y.size ≤ line.size := fun y hy => aas 32 line (by rw [hS]; exact hy)
 rw [hS] at hsp hlen
 simp only [List.length_cons] at hlen
 have hr0 : (rows StringS.cs (x :: T)).take 1 = [.str x] := rfl
 have hr1 : (rows StringS.cs (x :: T)).drop 1 = rows StringS.cs T := rfl
 refine Ctr.intro Tryz.mixed Tryz.func35 rfl Tryz.au3 ?_
 refine ev2 @Tryz.ntmps35 @Tryz.results35 ?_
 (first | refine al.at (hsp) ⟨leA, leA, trivial⟩ ?_ | refine ah.at (hsp) ⟨leA, leA, trivial⟩ ?_)
 refine rn1 @hr1 ?_
 refine dr.intro (fun i : Nat => i ≤ T.length ∧ (T.take i).all (fun s => (da s).isSome) = true) (fun i => ⟨(.ptr 0 0 :: (un 4 (StringS.sl (x :: T) :: .osl 3 0 i 1 :: (un 12 (StringS.sl T :: .int .i64 T.length :: .int .i64 i :: (un 67 [])))))), [some (c.oc 1 2), some (rows bf.cs c.ab.Posts), some (rows ai.cs c.ab.Shocks), some (rows IntS.cs ((T.take i).map fun s => (da s).getD 0))], 3⟩) (fun i => T.length - i) 0 ⟨Nat.zero_le _, rfl⟩ ?_ (fun i hi => ?_)
 · refine au.cut (4) (by simp) (by simp) ?_ ?_
   · simp [LeC, LeV, ren, bq]
   · simp [bz, cw, ren, bq, ae, aj.oc, zh]
 refine ev0 ?_
 refine ay.split (fun h1 => ?_) (fun h1 => ?_)
 · have hi' : i < T.length := by have := of_decide_eq_true h1; omega
   have hr := bw StringS.csl hi'
   have hst : (T.take (i + 1)).map (fun s => (da s).getD 0) = (T.take i).map (fun s => (da s).getD 0) ++ [(da T[i]).getD 0] := by rw [List.take_succ_eq_append_getElem hi', List.map_append]; rfl
   have hlen2 : ((T.take i).map fun s => (da s).getD 0).length = i := by simp; omega
   have ip := yj T[i] (by have := hsz T[i] (List.mem_cons_of_mem _ (List.getElem_mem hi')); omega)
   rw [jv] at ip
   refine rn3 @h1 @hr @StringS.cs.eq_1 ?_
   cases hread : (da T[i]).isSome with
   | false =>
    have hno := aaj hi' hread
    have hrun : fw c.ab line = (c.ab, wQ) := by unfold fw; rw [hT, hno]
    rw [hread] at ip
    (first | refine al.at (ip) ⟨leA, trivial⟩ ?_ | refine ah.at (ip) ⟨leA, trivial⟩ ?_)
    refine rn0 ?_
    first
     | (rw [hrun]; refine ak.pick [0, 1, 2] (by decide) (by decide) (.inl rfl) ?_; simp [az, bg, ren, bc, posOf, ae, aj.oc]; done)
     | (exfalso; unfold zk at hs; rw [hT, hno] at hs; cases hs; done)
   | true =>
    rw [hread] at ip
    (first | refine al.at (ip) ⟨leA, trivial⟩ ?_ | refine ah.at (ip) ⟨leA, trivial⟩ ?_)
    refine rn4 @bb @bh @Nat.mul_one @hlen2 ?_
    refine ⟨i + 1, ⟨hi', by rw [List.take_succ_eq_append_getElem hi', List.all_append, hi.2]; simp [hread]⟩, ?_, by omega⟩
    refine au.cut (4) (by simp) (by simp) ?_ ?_
    · simp [LeC, LeV, ren, bq]
    · rw [hst, ← dw]
      simp [bz, cw, ren, bq, ae, dk, nq, IntS.cs, aj.oc]
 have hi' : i = T.length := by have := of_decide_eq_false h1; omega
 subst hi'
 have hnum := xu hi.2
 have hbd := aa6 hnum
 rw [List.take_length]
 have hnl : (T.map fun s => (da s).getD 0).length = T.length := List.length_map _
 simp only [← hnl]
 have hrun : fw c.ab line = mh c.ab (kwd x) (T.map fun s => (da s).getD 0) := by unfold fw; rw [hT, hnum, hx]
 have hstp : zk c.ab line = match jl (kwd x) (T.map fun s => (da s).getD 0) with
  | some (k, n, v) => fb c.ab k n v
  | none => none := by unfold zk; rw [hT, hnum, hx]
 rw [hstp] at hs
 clear hstp hnum
 have hns : (T.map fun s => (da s).getD 0).length ≤ 1000 := by omega
 generalize (T.map fun s => (da s).getD 0) = ns at *
 have so := ae8 x ns (by omega)
 refine rn2 @h1 @hr0 ?_
 (first | refine al.at (so) ⟨leA, leA, trivial⟩ ?_ | refine ah.at (so) ⟨leA, leA, trivial⟩ ?_)
 have b9 := kwb9 x
 have ha := aw4 c x hw
 generalize kwd x = q at *
 cases hst : jl q ns with
 | some p =>
  obtain ⟨k, n, v⟩ := p
  rw [hst] at hs so
  have hs' : fb c.ab k n v = none := hs
  have hR : mh c.ab q ns = (c.ab, wQ) := by unfold mh; rw [hst]; show lh c.ab k n v = _; rw [lh, hs']
  rw [hrun, hR]
  simp only [abc, Option.map_some, Option.getD_some, Option.isSome_some] at so
  have hC := amu c k n v hw hs'
  refine rn3 @abc.eq_1 @Option.map_some.{0, 0} @Option.getD_some.{0} ?_
  refine ah.di [0, 1, 2] false hC (by decide) ⟨leO, leO, trivial⟩ (by simp [az, bg, ren, bc, posOf, ae, aj.oc]) ⟨⟨rfl, rfl⟩, ⟨rfl, rfl⟩, ⟨rfl, rfl⟩, trivial⟩ (.inl rfl) ?_
  refine rn1 @aj.oc.eq_1 ?_
  refine ak.pick [0, 1, 2] (by decide) (by decide) (.inl rfl) ?_
  simp [az, bg, ren, bc, posOf, iw, ae, aj.oc]
 | none =>
  rw [hst] at so
  rw [hrun]
  clear hrun hs
  have z00 : (((0 : Nat) : Int) == 0) = true := rfl
  have z01 : (((0 : Nat) : Int) == 1) = false := rfl
  have z02 : (((0 : Nat) : Int) == 2) = false := rfl
  have z10 : (((1 : Nat) : Int) == 0) = false := rfl
  have z11 : (((1 : Nat) : Int) == 1) = true := rfl
  have z12 : (((1 : Nat) : Int) == 2) = false := rfl
  have z20 : (((2 : Nat) : Int) == 0) = false := rfl
  have z21 : (((2 : Nat) : Int) == 1) = false := rfl
  have z22 : (((2 : Nat) : Int) == 2) = true := rfl
  rcases ns with _ | ⟨n1, _ | ⟨n2, L⟩⟩
  · rw [ah0 hst]
    have c9 : decide (q = 9) = true ∨ decide (q = 9) = false := by cases decide (q = 9) <;> simp
    rcases c9 with c9 | c9
    all_goals
     refine rn15 @abc.eq_1 @Option.map_none.{0, 0} @Option.getD_none.{0} @b9 @c9 @hr0 @z00 @z01 @z02 @z10 @z11 @z12 @z20 @z21 @z22 ?_
     refine ah.di [0, 1, 2] false ha (by decide) ⟨leO, leO, trivial⟩ (by simp [az, bg, ren, bc, posOf, ae, aj.oc]) ⟨⟨rfl, rfl⟩, ⟨rfl, rfl⟩, ⟨rfl, rfl⟩, trivial⟩ (.inl rfl) ?_
     refine rn0 ?_
     cases hA : vq c.ab q with
     | none =>
      refine rn0 ?_
      refine ak.pick [0, 1, 2] (by decide) (by decide) (.inl rfl) ?_
      simp [az, bg, ren, bc, posOf, iw, ae, aj.oc]
     | some y =>
      rw [atx hA]
      refine rn0 ?_
      refine ak.pick [0, 1, 2] (by decide) (by decide) (.inl rfl) ?_
      simp [az, bg, ren, bc, posOf, iw, ae, aj.oc]
  · rw [ajq hst]
    have hn1 := hbd n1 (by simp)
    have hr3 : rows IntS.cs [n1] = [.int .i64 n1] := rfl
    have hT9 := xh c.ab n1 (by omega) (by omega)
    rw [aa3 hw] at hT9
    by_cases c9 : q = 9
    · have d9 : decide (q = 9) = true := decide_eq_true c9
      rw [if_pos c9]
      refine rn17 @abc.eq_1 @Option.map_none.{0, 0} @Option.getD_none.{0} @b9 @d9 @hr3 @hr0 @aj.oc.eq_1 @z00 @z01 @z02 @z10 @z11 @z12 @z20 @z21 @z22 ?_
      (first | refine al.at (hT9) ⟨leA, leA, trivial⟩ ?_ | refine ah.at (hT9) ⟨leA, leA, trivial⟩ ?_)
      refine rn0 ?_
      cases hA : yy c.ab n1 with
      | none =>
       refine rn0 ?_
       refine ak.pick [0, 1, 2] (by decide) (by decide) (.inl rfl) ?_
       simp [az, bg, ren, bc, posOf, iw, ae, aj.oc]
      | some y =>
       refine rn0 ?_
       refine ak.pick [0, 1, 2] (by decide) (by decide) (.inl rfl) ?_
       simp [az, bg, ren, bc, posOf, iw, ae, aj.oc]
    · have d9 : decide (q = 9) = false := decide_eq_false c9
      rw [if_neg c9]
      refine rn16 @abc.eq_1 @Option.map_none.{0, 0} @Option.getD_none.{0} @b9 @d9 @hr3 @hr0 @z00 @z01 @z02 @z10 @z11 @z12 @z20 @z21 @z22 ?_
      refine ak.pick [0, 1, 2] (by decide) (by decide) (.inl rfl) ?_
      simp [az, bg, ren, bc, posOf, iw, ae, aj.oc]
  · rw [ad7 hst]
    clear hst
    have c1 : (((n1 :: n2 :: L).length : Int) == 1) = false := by simp; omega
    have c0 : (((n1 :: n2 :: L).length : Int) == 0) = false := by simp; omega
    generalize n1 :: n2 :: L = ns at *
    have c9 : decide (q = 9) = true ∨ decide (q = 9) = false := by cases decide (q = 9) <;> simp
    rcases c9 with c9 | c9
    all_goals
     refine rn8 @abc.eq_1 @Option.map_none.{0, 0} @Option.getD_none.{0} @b9 @c9 @hr0 @c1 @c0 ?_
     refine ak.pick [0, 1, 2] (by decide) (by decide) (.inl rfl) ?_
     simp [az, bg, ren, bc, posOf, iw, ae, aj.oc]
theorem ait (c : aj) (b : ab) (line : ByteArray) (hl : line.size ≤ 1000) (hw : wB c.ab = true) (hs : zk c.ab line = some b) : Ctr Tryz.prog 35 [.ptr 0 0, .str line] [some (c.oc 1 2), some (rows bf.cs c.ab.Posts), some (rows ai.cs c.ab.Shocks)] (.str (fw c.ab line).2) [some ((cW c b).oc 3 4), some (rows bf.cs c.ab.Posts), some (rows ai.cs c.ab.Shocks), some (rows bf.cs b.Posts), some (rows ai.cs b.Shocks)] := by
 have W := ey hw
 have pl := W.plen
 have sl := W.slen
 obtain ⟨x, T, hS⟩ := aax 32 line
 have hT : (jt 32 line).tail = T := by rw [hS]; rfl
 have hx : (jt 32 line).headD ⟨#[]⟩ = x := by rw [hS]; rfl
 have hsp := afr line 32 (by omega)
 have hlen := ad8 32 line
 have hsz : ∀ y ∈ x :: T, y.size ≤ line.size := fun y hy => aas 32 line (by rw [hS]; exact hy)
 rw [hS] at hsp hlen
 simp only [List.length_cons] at hlen
 have hr0 : (rows StringS.cs (x :: T)).take 1 = [.str x] := rfl
 have hr1 : (rows StringS.cs (x :: T)).drop 1 = rows StringS.cs T := rfl
 refine Ctr.intro Tryz.mixed Tryz.func35 rfl Tryz.au3 ?_
 refine ev2 @Tryz.ntmps35 @Tryz.results35 ?_
 (first | refine al.at (hsp) ⟨leA, leA, trivial⟩ ?_ | refine ah.at (hsp) ⟨leA, leA, trivial⟩ ?_)
 refine rn1 @hr1 ?_
 refine dr.intro (fun i : Nat => i ≤ T.length ∧ (T.take i).all (fun s => (da s).isSome) = true) (fun i => ⟨(.ptr 0 0 :: (un 4 (StringS.sl (x :: T) :: .osl 3 0 i 1 :: (un 12 (StringS.sl T :: .int .i64 T.length :: .int .i64 i :: (un 67 [])))))), [some (c.oc 1 2), some (rows bf.cs c.ab.Posts), some (rows ai.cs c.ab.Shocks), some (rows IntS.cs ((T.take i).map fun s => (da s).getD 0))], 3⟩) (fun i => T.length - i) 0 ⟨Nat.zero_le _, rfl⟩ ?_ (fun i hi => ?_)
 · refine au.cut (4) (by simp) (by simp) ?_ ?_
   · simp [LeC, LeV, ren, bq]
   · simp [bz, cw, ren, bq, ae, aj.oc, zh]
 refine ev0 ?_
 refine ay.split (fun h1 => ?_) (fun h1 => ?_)
 · have hi' : i < T.length := by have := of_decide_eq_true h1; omega
   have hr := bw StringS.csl hi'
   have hst : (T.take (i + 1)).map (fun s => (da s).getD 0) = (T.take i).map (fun s => (da s).getD 0) ++ [(da T[i]).getD 0] := by rw [List.take_succ_eq_append_getElem hi', List.map_append]; rfl
   have hlen2 : ((T.take i).map fun s => (da s).getD 0).length = i := by simp; omega
   have ip := yj T[i] (by have := hsz T[i] (List.mem_cons_of_mem _ (List.getElem_mem hi')); omega)
   rw [jv] at ip
   refine rn3 @h1 @hr @StringS.cs.eq_1 ?_
   cases hread : (da T[i]).isSome with
   | false =>
    have hno := aaj hi' hread
    have hrun : fw c.ab line = (c.ab, wQ) := by unfold fw; rw [hT, hno]
    rw [hread] at ip
    (first | refine al.at (ip) ⟨leA, trivial⟩ ?_ | refine ah.at (ip) ⟨leA, trivial⟩ ?_)
    refine rn0 ?_
    first
     | (rw [hrun]; refine ak.pick [0, 1, 2] (by decide) (by decide) (.inl rfl) ?_; simp [az, bg, ren, bc, posOf, ae, aj.oc]; done)
     | (exfalso; unfold zk at hs; rw [hT, hno] at hs; cases hs; done)
   | true =>
    rw [hread] at ip
    (first | refine al.at (ip) ⟨leA, trivial⟩ ?_ | refine ah.at (ip) ⟨leA, trivial⟩ ?_)
    refine rn4 @bb @bh @Nat.mul_one @hlen2 ?_
    refine ⟨i + 1, ⟨hi', by rw [List.take_succ_eq_append_getElem hi', List.all_append, hi.2]; simp [hread]⟩, ?_, by omega⟩
    refine au.cut (4) (by simp) (by simp) ?_ ?_
    · simp [LeC, LeV, ren, bq]
    · rw [hst, ← dw]
      simp [bz, cw, ren, bq, ae, dk, nq, IntS.cs, aj.oc]
 have hi' : i = T.length := by have := of_decide_eq_false h1; omega
 subst hi'
 have hnum := xu hi.2
 have hbd := aa6 hnum
 rw [List.take_length]
 have hnl : (T.map fun s => (da s).getD 0).length = T.length := List.length_map _
 simp only [← hnl]
 have hrun : fw c.ab line = mh c.ab (kwd x) (T.map fun s => (da s).getD 0) := by unfold fw; rw [hT, hnum, hx]
 have hstp : zk c.ab line = match jl (kwd x) (T.map fun s => (da s).getD 0) with
  | some (k, n, v) => fb c.ab k n v
  | none => none := by unfold zk; rw [hT, hnum, hx]
 rw [hstp] at hs
 clear hstp hnum
 have hns : (T.map fun s => (da s).getD 0).length ≤ 1000 := by omega
 generalize (T.map fun s => (da s).getD 0) = ns at *
 have so := ae8 x ns (by omega)
 refine rn2 @h1 @hr0 ?_
 (first | refine al.at (so) ⟨leA, leA, trivial⟩ ?_ | refine ah.at (so) ⟨leA, leA, trivial⟩ ?_)
 generalize kwd x = q at *
 cases hst : jl q ns with
 | some p =>
  obtain ⟨k, n, v⟩ := p
  rw [hst] at hs so
  have hs' : fb c.ab k n v = some b := hs
  have hR : mh c.ab q ns = (b, (js b k n).getD wQ) := by unfold mh; rw [hst]; show lh c.ab k n v = _; rw [lh, hs']
  rw [hrun, hR]
  have hC := ak5 c b k n v hs'
  refine rn3 @abc.eq_1 @Option.map_some.{0, 0} @Option.getD_some.{0} ?_
  refine ah.di [0, 1, 2] false hC (by decide) ⟨leO, leO, trivial⟩ (by simp [az, bg, ren, bc, posOf, ae, aj.oc]) ⟨⟨rfl, rfl⟩, ⟨rfl, rfl⟩, ⟨rfl, rfl⟩, trivial⟩ (.inl rfl) ?_
  refine rn1 @aj.oc.eq_1 ?_
  cases hA : js b k n with
  | none =>
   refine rn0 ?_
   refine ak.pick [0, 1, 2, 5, 6] (by decide) (by decide) (.inl rfl) ?_
   simp [az, bg, ren, bc, posOf, iw, ae, aj.oc, cW]
  | some y =>
   refine rn0 ?_
   refine ak.pick [0, 1, 2, 5, 6] (by decide) (by decide) (.inl rfl) ?_
   simp [az, bg, ren, bc, posOf, iw, ae, aj.oc, cW]
 | none =>
  rw [hst] at hs
  cases hs
end Go.Proofs
end
section
set_option maxRecDepth 100000
set_option maxHeartbeats 4000000
namespace Go.Proofs
open Go.Lv
def wNo : ByteArray := ⟨#[110, 111]⟩
def aon : ByteArray := ⟨#[98, 97, 100]⟩
def ail : ByteArray := ⟨#[102, 117, 108, 108]⟩
def afl : ByteArray := ⟨#[108, 111, 110, 103]⟩
def qd (r : ByteArray) : ByteArray := if 200 < (r.size : Int) then afl else r
def anq (l : Log) (e : aw) : Log := if j7 l = true ∧ ic e = true then (if l.Count = 60 then l else ⟨l.Durable, l.Pending ++ cc l.Count e, l.Count + 1⟩) else l
theorem alu (l : Log) (e : aw) : ∃ z : Int, zp l e = [(anq l e).v, .int .i64 z] := by
 unfold zp anq
 split
 · split
   · exact ⟨_, rfl⟩
   · exact ⟨_, rfl⟩
 · exact ⟨_, rfl⟩
noncomputable def eb (c : aj) (line : ByteArray) : aj × ByteArray :=
 if np c = false then (c, wNo) else if ic ⟨line, ByteArray.empty⟩ = false then (c, aon) else if c.Log.Count = 60 then (c, ail)
 else (⟨(fw c.ab line).1, anq c.Log ⟨line, qd (fw c.ab line).2⟩⟩, qd (fw c.ab line).2)
theorem afo {line : ByteArray} {r : ByteArray} (h : ic ⟨line, r⟩ = true) : line.size ≤ 160 := by
 simp only [ic, Bool.and_eq_true, decide_eq_true_eq] at h
 omega
theorem l9 {c : aj} (h : np c = true) : wB c.ab = true ∧ j7 c.Log = true := by
 simpa [np] using h
theorem ao3 (c : aj) (line : ByteArray) (hc : c.fits) (hl : line.size ≤ 4194304) : Ctr Tryz.prog 8 [c.v, .str line] [] (.tup [(eb c line).1.o 0 1, .str (eb c line).2]) [some (rows bf.cs (eb c line).1.ab.Posts), some (rows ai.cs (eb c line).1.ab.Shocks)] := by
 obtain ⟨f0, f1, f2, f3⟩ := hc
 have hc : c.fits := ⟨f0, f1, f2, f3⟩
 have he2 : (ByteArray.empty : ByteArray).size = 0 := rfl
 have hV := mu ⟨line, ByteArray.empty⟩ (by dsimp only; omega) (by dsimp only; omega)
 cases hb : np c with
 | false =>
  rw [show eb c line = (c, wNo) by rw [eb, if_pos hb]]
  refine Ctr.intro Tryz.mixed Tryz.func8 rfl Tryz.arh ?_
  refine ev2 @Tryz.ntmps8 @Tryz.results8 ?_
  refine rn1 @aj.v.eq_1 ?_
  (have ct := dn c.ab (by omega) (by omega); (first | refine al.at ct ⟨leA, trivial⟩ ?_ | refine ah.at ct ⟨leA, trivial⟩ ?_); clear ct)
  refine rn1 @ab.o.eq_1 ?_
  (have ct := e8 c hc; (first | refine al.at ct ⟨leA, trivial⟩ ?_ | refine ah.at ct ⟨leA, trivial⟩ ?_); clear ct)
  rw [hb]
  refine rn0 ?_
  refine ak.pick [2, 3] (by decide) (fun j hj => by omega) (.inl ?_) ?_
  · first | rfl | (simp [ren, bc, posOf, aj.o]; done)
  · simp only [az, List.map_cons, List.map_nil, bg, List.getElem?_cons_zero, List.getElem?_cons_succ, ae]
 | true =>
  cases hr : ic ⟨line, ByteArray.empty⟩ with
  | false =>
   rw [show eb c line = (c, aon) by rw [eb, if_neg (by simp [hb]), if_pos hr]]
   rw [hr] at hV
   refine Ctr.intro Tryz.mixed Tryz.func8 rfl Tryz.arh ?_
   refine ev2 @Tryz.ntmps8 @Tryz.results8 ?_
   refine rn1 @aj.v.eq_1 ?_
   (have ct := dn c.ab (by omega) (by omega); (first | refine al.at ct ⟨leA, trivial⟩ ?_ | refine ah.at ct ⟨leA, trivial⟩ ?_); clear ct)
   refine rn1 @ab.o.eq_1 ?_
   (have ct := e8 c hc; (first | refine al.at ct ⟨leA, trivial⟩ ?_ | refine ah.at ct ⟨leA, trivial⟩ ?_); clear ct)
   rw [hb]
   refine rn0 ?_
   (first | refine al.at (hV) ⟨leA, trivial⟩ ?_ | refine ah.at (hV) ⟨leA, trivial⟩ ?_)
   refine rn1 @aw.v.eq_1 ?_
   refine ak.pick [2, 3] (by decide) (fun j hj => by omega) (.inl ?_) ?_
   · first | rfl | (simp [ren, bc, posOf, aj.o]; done)
   · simp only [az, List.map_cons, List.map_nil, bg, List.getElem?_cons_zero, List.getElem?_cons_succ, ae]
  | true =>
   have hl2 := afo hr
   obtain ⟨hw, hlg⟩ := l9 hb
   rw [hr] at hV
   by_cases hf : c.Log.Count = 60
   · have hf' : (c.Log.Count == 60) = true := by simpa using hf
     rw [show eb c line = (c, ail) by rw [eb, if_neg (by simp [hb]), if_neg (by simp [hr]), if_pos hf]]
     refine Ctr.intro Tryz.mixed Tryz.func8 rfl Tryz.arh ?_
     refine ev2 @Tryz.ntmps8 @Tryz.results8 ?_
     refine rn1 @aj.v.eq_1 ?_
     (have ct := dn c.ab (by omega) (by omega); (first | refine al.at ct ⟨leA, trivial⟩ ?_ | refine ah.at ct ⟨leA, trivial⟩ ?_); clear ct)
     refine rn1 @ab.o.eq_1 ?_
     (have ct := e8 c hc; (first | refine al.at ct ⟨leA, trivial⟩ ?_ | refine ah.at ct ⟨leA, trivial⟩ ?_); clear ct)
     rw [hb]
     refine rn0 ?_
     (first | refine al.at (hV) ⟨leA, trivial⟩ ?_ | refine ah.at (hV) ⟨leA, trivial⟩ ?_)
     refine rn2 @aw.v.eq_1 @hf' ?_
     refine ak.pick [2, 3] (by decide) (fun j hj => by omega) (.inl ?_) ?_
     · first | rfl | (simp [ren, bc, posOf, aj.o]; done)
     · simp only [az, List.map_cons, List.map_nil, bg, List.getElem?_cons_zero, List.getElem?_cons_succ, ae]
   · have hf' : (c.Log.Count == 60) = false := by simpa using hf
     rw [show eb c line = (⟨(fw c.ab line).1, anq c.Log ⟨line, qd (fw c.ab line).2⟩⟩, qd (fw c.ab line).2) by rw [eb, if_neg (by simp [hb]), if_neg (by simp [hr]), if_neg hf]]
     rw [ajj]
     have hcap : qd (fw c.ab line).2 = if 200 < ((fw c.ab line).2.size : Int) then afl else (fw c.ab line).2 := rfl
     have hcs : (qd (fw c.ab line).2).size ≤ 200 := by
      rw [hcap]; split
      · decide
      · omega
     obtain ⟨z, hz⟩ := alu c.Log ⟨line, qd (fw c.ab line).2⟩
     have iA := aam c.Log ⟨line, qd (fw c.ab line).2⟩ f2 f3 (by dsimp only; omega) (by dsimp only; omega)
     rw [hz] at iA
     cases hs : zk c.ab line with
     | none =>
      have hP := akk c line (by omega) hw hs
      rw [Option.getD_none]
      refine Ctr.intro Tryz.mixed Tryz.func8 rfl Tryz.arh ?_
      refine ev2 @Tryz.ntmps8 @Tryz.results8 ?_
      refine rn1 @aj.v.eq_1 ?_
      (have ct := dn c.ab (by omega) (by omega); (first | refine al.at ct ⟨leA, trivial⟩ ?_ | refine ah.at ct ⟨leA, trivial⟩ ?_); clear ct)
      refine rn1 @ab.o.eq_1 ?_
      (have ct := e8 c hc; (first | refine al.at ct ⟨leA, trivial⟩ ?_ | refine ah.at ct ⟨leA, trivial⟩ ?_); clear ct)
      rw [hb]
      refine rn0 ?_
      (first | refine al.at (hV) ⟨leA, trivial⟩ ?_ | refine ah.at (hV) ⟨leA, trivial⟩ ?_)
      refine rn2 @aw.v.eq_1 @hf' ?_
      refine ah.di [4, 2, 3] false hP (by decide) ⟨leO, leO, trivial⟩ (by simp [az, bg, ren, bc, posOf, ae, aj.oc]) ⟨⟨rfl, rfl⟩, ⟨rfl, rfl⟩, ⟨rfl, rfl⟩, trivial⟩ (.inl rfl) ?_
      refine rn1 @aj.oc.eq_1 ?_
      refine ay.split (fun hg => ?_) (fun hg => ?_)
      · have e : qd (fw c.ab line).2 = afl := by rw [hcap, if_pos (of_decide_eq_true hg)]
        rw [e] at iA hz ⊢
        refine rn1 @hg ?_
        (first | refine al.at (iA) ⟨leA, leA, trivial⟩ ?_ | refine ah.at (iA) ⟨leA, leA, trivial⟩ ?_)
        refine rn1 @Log.v.eq_1 ?_
        refine ak.pick [2, 3] (by decide) (fun j hj => by omega) (.inl ?_) ?_
        · first | rfl | (simp [ren, bc, posOf, aj.o]; done)
        · simp only [az, List.map_cons, List.map_nil, bg, List.getElem?_cons_zero, List.getElem?_cons_succ, ae]
      · have e : qd (fw c.ab line).2 = (fw c.ab line).2 := by rw [hcap, if_neg (of_decide_eq_false hg)]
        rw [e] at iA hz ⊢
        refine rn1 @hg ?_
        (first | refine al.at (iA) ⟨leA, leA, trivial⟩ ?_ | refine ah.at (iA) ⟨leA, leA, trivial⟩ ?_)
        refine rn1 @Log.v.eq_1 ?_
        refine ak.pick [2, 3] (by decide) (fun j hj => by omega) (.inl ?_) ?_
        · first | rfl | (simp [ren, bc, posOf, aj.o]; done)
        · simp only [az, List.map_cons, List.map_nil, bg, List.getElem?_cons_zero, List.getElem?_cons_succ, ae]
     | some b =>
      have hP := ait c b line (by omega) hw hs
      rw [Option.getD_some]
      refine Ctr.intro Tryz.mixed Tryz.func8 rfl Tryz.arh ?_
      refine ev2 @Tryz.ntmps8 @Tryz.results8 ?_
      refine rn1 @aj.v.eq_1 ?_
      (have ct := dn c.ab (by omega) (by omega); (first | refine al.at ct ⟨leA, trivial⟩ ?_ | refine ah.at ct ⟨leA, trivial⟩ ?_); clear ct)
      refine rn1 @ab.o.eq_1 ?_
      (have ct := e8 c hc; (first | refine al.at ct ⟨leA, trivial⟩ ?_ | refine ah.at ct ⟨leA, trivial⟩ ?_); clear ct)
      rw [hb]
      refine rn0 ?_
      (first | refine al.at (hV) ⟨leA, trivial⟩ ?_ | refine ah.at (hV) ⟨leA, trivial⟩ ?_)
      refine rn2 @aw.v.eq_1 @hf' ?_
      refine ah.di [4, 2, 3] false hP (by decide) ⟨leO, leO, trivial⟩ (by simp [az, bg, ren, bc, posOf, ae, aj.oc]) ⟨⟨rfl, rfl⟩, ⟨rfl, rfl⟩, ⟨rfl, rfl⟩, trivial⟩ (.inl rfl) ?_
      refine rn3 @aj.oc.eq_1 @cW.eq_1 @List.getElem?_nil.{0} ?_
      refine ay.split (fun hg => ?_) (fun hg => ?_)
      · have e : qd (fw c.ab line).2 = afl := by rw [hcap, if_pos (of_decide_eq_true hg)]
        rw [e] at iA hz ⊢
        refine rn2 @hg @List.getElem?_nil.{0} ?_
        (first | refine al.at (iA) ⟨leA, leA, trivial⟩ ?_ | refine ah.at (iA) ⟨leA, leA, trivial⟩ ?_)
        refine rn2 @Log.v.eq_1 @List.getElem?_nil.{0} ?_
        refine ak.pick [5, 6] (by decide) (fun j hj => by omega) (.inl ?_) ?_
        · first | rfl | (simp [ren, bc, posOf, aj.o]; done)
        · simp only [az, List.map_cons, List.map_nil, bg, List.getElem?_cons_zero, List.getElem?_cons_succ, ae]
      · have e : qd (fw c.ab line).2 = (fw c.ab line).2 := by rw [hcap, if_neg (of_decide_eq_false hg)]
        rw [e] at iA hz ⊢
        refine rn2 @hg @List.getElem?_nil.{0} ?_
        (first | refine al.at (iA) ⟨leA, leA, trivial⟩ ?_ | refine ah.at (iA) ⟨leA, leA, trivial⟩ ?_)
        refine rn2 @Log.v.eq_1 @List.getElem?_nil.{0} ?_
        refine ak.pick [5, 6] (by decide) (fun j hj => by omega) (.inl ?_) ?_
        · first | rfl | (simp [ren, bc, posOf, aj.o]; done)
        · simp only [az, List.map_cons, List.map_nil, bg, List.getElem?_cons_zero, List.getElem?_cons_succ, ae]
end Go.Proofs
end
section
set_option maxRecDepth 100000
set_option maxHeartbeats 4000000
namespace Go.Proofs
open Go.Lv
def W00 : ab := ⟨0, [], [], 0, 0⟩
theorem a4s (o : Option ab) : ak 0 (adg o) (ad1 o) (.tup [(o.getD W00).v, .bool o.isSome]) [] := by
 cases o with
 | none =>
  intro w0 m0 h0 av0 W m val e1 e2 hlt hle H hx hi
  refine ⟨m, H, ?_, hi⟩
  change RV W m [] _ true val (.tup [.agg [.int .i64 0, .nilsl, .nilsl, .int .i64 0, .int .i64 0], .bool false]) at hx
  cases hx with
  | tup a vs ha hra =>
   refine .tup _ _ ha (fun i hi => ?_)
   match i, hi with
   | 0, _ => exact (hra 0 (by simp)).le (LeV.agg ⟨LeE.refl _, LeE.nil, LeE.nil, LeE.refl _, LeE.refl _, trivial⟩)
   | 1, _ => exact hra 1 (by simp)
 | some b =>
  refine ak.pick [] (by decide) (fun j hj => by omega) (.inl ?_) rfl
  have e1 := dc (cs := bf.cs) b.Posts
  have e2 := dc (cs := ai.cs) b.Shocks
  simp [adg, ad1, ab.o, ab.v, ren, bc, posOf, o4, ae] at e1 e2 ⊢
  exact ⟨e1.symm, e2.symm⟩
theorem anl (w : ab) (k n v : Int) (hp : w.Posts.length ≤ 16777216) (hs : w.Shocks.length ≤ 16777216) (hv : v ≤ 9223372036854775807) : Ctr Tryz.prog 101 [w.v, .agg [.int .i64 k, .int .i64 n, .int .i64 v]] [] (.tup [((fb w k n v).getD W00).v, .bool (fb w k n v).isSome]) [] :=
 (se w k n v hp hs hv).w9 (a4s _)
theorem aga (s : ByteArray) (hs : s.size ≤ 281474976710656) : Ctr Tryz.prog 80 [.str s] [] (jv s) [] := by
 have h := an0 s hs
 rw [jv] at h ⊢
 refine Ctr.intro Tryz.mixed Tryz.func80 rfl Tryz.a3h ?_
 refine ev2 @Tryz.ntmps80 @Tryz.results80 ?_
 (first | refine al.at (h) ⟨leA, trivial⟩ ?_ | refine ah.at (h) ⟨leA, trivial⟩ ?_)
 refine rn0 ?_
 exact ak.aq rfl (by rfl)
theorem q9 (L : List Int) (b : Bool) (hL : ∀ n ∈ L, bt n ∧ -9223372036854775807 ≤ n) (hl : L.length ≤ 100000) : Ctr Tryz.prog 125 [IntS.sl L, .bool b] [] (.str (if b then lg L else wQ)) [] := by
 cases b with
 | false =>
  refine Ctr.intro Tryz.mixed Tryz.func125 rfl Tryz.aj0 ?_
  refine ev2 @Tryz.ntmps125 @Tryz.results125 ?_
  refine rn0 ?_
  exact ak.aq rfl (by rfl)
 | true =>
  by_cases he : L = []
  · have c0 : ((L.length : Int) == 0) = true := by rw [he]; rfl
    refine Ctr.intro Tryz.mixed Tryz.func125 rfl Tryz.aj0 ?_
    refine ev2 @Tryz.ntmps125 @Tryz.results125 ?_
    refine rn1 @c0 ?_
    exact ak.aq (by rw [lg, if_pos he]; rfl) (by rfl)
  have hpos : 0 < L.length := List.length_pos_iff.2 he
  have c0 : ((L.length : Int) == 0) = false := by simp; omega
  have hr0 : (rows IntS.cs L).take 1 = [.int .i64 L[0]] := by
   have := bw IntS.csl hpos
   rw [Nat.zero_mul, List.drop_zero] at this
   exact this
  have hsz := fun i => yb (L.take i) (fun n hn => (hL n (List.mem_of_mem_take hn)).1)
  refine Ctr.intro Tryz.mixed Tryz.func125 rfl Tryz.aj0 ?_
  refine ev2 @Tryz.ntmps125 @Tryz.results125 ?_
  refine rn2 @c0 @hr0 ?_
  (first | refine al.at (fj L[0] (hL _ (List.getElem_mem hpos)).2 (hL _ (List.getElem_mem hpos)).1.2) ⟨leA, trivial⟩ ?_ | refine ah.at (fj L[0] (hL _ (List.getElem_mem hpos)).2 (hL _ (List.getElem_mem hpos)).1.2) ⟨leA, trivial⟩ ?_)
  refine rn0 ?_
  refine dr.intro (fun i : Nat => 1 ≤ i ∧ i ≤ L.length) (fun i => ⟨(IntS.sl L :: (un 4 (.str (nk (L.take i)) :: .int .i64 i :: (un 24 [])))), [], 0⟩) (fun i => L.length - i) 1 ⟨Nat.le_refl _, hpos⟩ ?_ (fun i hi => ?_)
  · refine au.cut (0) (by simp) (by simp) ?_ ?_
    · have e1 : nk (L.take 1) = num L[0] := by rw [List.take_succ_eq_append_getElem hpos]; rfl
      rw [e1]
      simp [LeC, LeV, ren, bq]
    · rfl
  refine ev0 ?_
  refine ay.split (fun h1 => ?_) (fun h1 => ?_)
  · have hi' : i < L.length := by have := of_decide_eq_true h1; omega
    have hr := bw IntS.csl hi'
    have hs1 := hsz i
    rw [List.length_take] at hs1
    have hst : nk (L.take (i + 1)) = nk (L.take i) ++ ⟨#[32]⟩ ++ num L[i] := by
     rw [List.take_succ_eq_append_getElem hi']
     exact ac0 _ _ (fun e => by have := congrArg List.length e; rw [List.length_take, List.length_nil] at this; omega)
    have hnz := zt (hL _ (List.getElem_mem hi')).1
    refine rn3 @h1 @hr @IntS.cs.eq_1 ?_
    have hz32 : (#[32] : Array UInt8).size = 1 := rfl
    refine ⟨by omega, ⟨by omega, by omega⟩, ?_⟩
    (first | refine al.at (fj L[i] (hL _ (List.getElem_mem hi')).2 (hL _ (List.getElem_mem hi')).1.2) ⟨leA, trivial⟩ ?_ | refine ah.at (fj L[i] (hL _ (List.getElem_mem hi')).2 (hL _ (List.getElem_mem hi')).1.2) ⟨leA, trivial⟩ ?_)
    (repeat ((repeat1' (first | simp -implicitDefEqProofs -dsimp only [go_sem, ByteArray.size_append, ch] | simp -dsimp (disch := omega) only [wrap_i64])); repeat (with_reducible refine df ?_)))
    refine ⟨i + 1, ⟨by omega, hi'⟩, ?_, by omega⟩
    refine au.cut (0) (by simp) (by simp) ?_ ?_
    · rw [hst]
      simp [LeC, LeV, ren, bq]
    · rfl
  · have hi' : i = L.length := by have := of_decide_eq_false h1; omega
    subst hi'
    refine rn2 @h1 @List.take_length.{0} ?_
    exact ak.aq (by rw [lg, if_neg he]) (by rfl)
theorem aa8 (w : ab) (n : Int) (hw : wB w = true) : Ctr Tryz.prog 123 [w.v, .int .i64 n] [] (.str ((yy w n).getD wQ)) [] := by
 have W := ey hw
 have pl := W.plen
 have sl := W.slen
 have hT := aes w n (by omega) (by omega)
 rw [aa3 hw] at hT
 refine Ctr.intro Tryz.mixed Tryz.func123 rfl Tryz.axq ?_
 refine ev2 @Tryz.ntmps123 @Tryz.results123 ?_
 refine rn1 @ab.v.eq_1 ?_
 (first | refine al.at (hT) ⟨leA, leA, trivial⟩ ?_ | refine ah.at (hT) ⟨leA, leA, trivial⟩ ?_)
 refine rn0 ?_
 cases hA : yy w n with
 | none =>
  refine rn0 ?_
  exact ak.aq rfl (by rfl)
 | some y =>
  refine rn0 ?_
  exact ak.aq rfl (by rfl)
theorem ajk (w : ab) (hw : wB w = true) : Ctr Tryz.prog 122 [w.v] [] (.str (lg (ups w))) [] := by
 have W := ey hw
 have pl := W.plen
 have sl := W.slen
 have hU := ah6 w (by omega) (by omega)
 rw [aqe hw] at hU
 simp only [adh, u6] at hU
 have u := ava hw
 have hL := q9 (ups w) true (fun n hn => ⟨(u.1 n hn).1, by have := (u.1 n hn).2; omega⟩) (by omega)
 refine Ctr.intro Tryz.mixed Tryz.func122 rfl Tryz.awd ?_
 refine ev2 @Tryz.ntmps122 @Tryz.results122 ?_
 refine rn1 @ab.v.eq_1 ?_
 (first | refine al.at (hU) ⟨leA, trivial⟩ ?_ | refine ah.at (hU) ⟨leA, trivial⟩ ?_)
 refine rn0 ?_
 (first | refine al.at (hL) ⟨leA, leA, trivial⟩ ?_ | refine ah.at (hL) ⟨leA, leA, trivial⟩ ?_)
 refine rn0 ?_
 exact ak.aq rfl (by rfl)
theorem ak1 {w : ab} {k n v : Int} (h : fb w k n v = none) : lh w k n v = (w, wQ) := by rw [lh, h]
theorem akv {w b : ab} {k n v : Int} (h : fb w k n v = some b) : lh w k n v = (b, (js b k n).getD wQ) := by rw [lh, h]
theorem ka (c : aj) (k n v : Int) (hw : wB c.ab = true) (hv : v ≤ 999999) : Ctr Tryz.prog 81 [c.v, .agg [.int .i64 k, .int .i64 n, .int .i64 v]] [] (.tup [(cW c (lh c.ab k n v).1).v, .str (lh c.ab k n v).2]) [] := by
 have W := ey hw
 have pl := W.plen
 have sl := W.slen
 have hS := anl c.ab k n v (by omega) (by omega) (by omega)
 cases hs : fb c.ab k n v with
 | none =>
  rw [hs, Option.getD_none] at hS
  rw [ak1 hs]
  refine Ctr.intro Tryz.mixed Tryz.func81 rfl Tryz.yf ?_
  refine ev2 @Tryz.ntmps81 @Tryz.results81 ?_
  refine rn2 @aj.v.eq_1 @aj.cs.eq_1 ?_
  (first | refine al.at (hS) ⟨leA, leA, trivial⟩ ?_ | refine ah.at (hS) ⟨leA, leA, trivial⟩ ?_)
  refine rn1 @ab.v.eq_1 ?_
  exact ak.aq rfl (by rfl)
 | some b =>
  rw [hs, Option.getD_some] at hS
  rw [akv hs]
  obtain ⟨_, hst, _, _, hb⟩ := x5 hs
  have B := ey hb
  have bl := B.plen
  have bs := B.slen
  have bn := B.now
  have bx := B.next
  have ba := B.arch
  have hU := ajk b hb
  rcases pa hst with ⟨rfl, h1⟩ | hk | rfl | rfl | ⟨hk, h1⟩
  · have e : js b 1 n = some (num b.Now) := rfl
    rw [e]
    refine Ctr.intro Tryz.mixed Tryz.func81 rfl Tryz.yf ?_
    refine ev2 @Tryz.ntmps81 @Tryz.results81 ?_
    refine rn2 @aj.v.eq_1 @aj.cs.eq_1 ?_
    (first | refine al.at (hS) ⟨leA, leA, trivial⟩ ?_ | refine ah.at (hS) ⟨leA, leA, trivial⟩ ?_)
    refine rn1 @ab.v.eq_1 ?_
    (have ct := fj b.Now (by omega) (by omega); (first | refine al.at ct ⟨leA, trivial⟩ ?_ | refine ah.at ct ⟨leA, trivial⟩ ?_); clear ct)
    refine rn0 ?_
    exact ak.aq rfl (by rfl)
  · have e : js b k n = some (lg (ups b)) := by rcases hk with rfl | rfl <;> rfl
    rw [e]
    rcases hk with rfl | rfl
    · skip
      refine Ctr.intro Tryz.mixed Tryz.func81 rfl Tryz.yf ?_
      refine ev2 @Tryz.ntmps81 @Tryz.results81 ?_
      refine rn2 @aj.v.eq_1 @aj.cs.eq_1 ?_
      (first | refine al.at (hS) ⟨leA, leA, trivial⟩ ?_ | refine ah.at (hS) ⟨leA, leA, trivial⟩ ?_)
      refine rn1 @ab.v.eq_1 ?_
      (first | refine al.at (hU) ⟨leA, trivial⟩ ?_ | refine ah.at (hU) ⟨leA, trivial⟩ ?_)
      refine rn0 ?_
      exact ak.aq rfl (by rfl)
    · skip
      refine Ctr.intro Tryz.mixed Tryz.func81 rfl Tryz.yf ?_
      refine ev2 @Tryz.ntmps81 @Tryz.results81 ?_
      refine rn2 @aj.v.eq_1 @aj.cs.eq_1 ?_
      (first | refine al.at (hS) ⟨leA, leA, trivial⟩ ?_ | refine ah.at (hS) ⟨leA, leA, trivial⟩ ?_)
      refine rn1 @ab.v.eq_1 ?_
      (first | refine al.at (hU) ⟨leA, trivial⟩ ?_ | refine ah.at (hU) ⟨leA, trivial⟩ ?_)
      refine rn0 ?_
      exact ak.aq rfl (by rfl)
  · have e : js b 4 n = some (num (b.Next - 1)) := rfl
    rw [e]
    refine Ctr.intro Tryz.mixed Tryz.func81 rfl Tryz.yf ?_
    refine ev2 @Tryz.ntmps81 @Tryz.results81 ?_
    refine rn2 @aj.v.eq_1 @aj.cs.eq_1 ?_
    (first | refine al.at (hS) ⟨leA, leA, trivial⟩ ?_ | refine ah.at (hS) ⟨leA, leA, trivial⟩ ?_)
    refine rn1 @ab.v.eq_1 ?_
    (have ct := fj (b.Next - 1) (by omega) (by omega); (first | refine al.at ct ⟨leA, trivial⟩ ?_ | refine ah.at ct ⟨leA, trivial⟩ ?_); clear ct)
    refine rn0 ?_
    exact ak.aq rfl (by rfl)
  · have e : js b 8 n = some (num b.Archived) := rfl
    rw [e]
    refine Ctr.intro Tryz.mixed Tryz.func81 rfl Tryz.yf ?_
    refine ev2 @Tryz.ntmps81 @Tryz.results81 ?_
    refine rn2 @aj.v.eq_1 @aj.cs.eq_1 ?_
    (first | refine al.at (hS) ⟨leA, leA, trivial⟩ ?_ | refine ah.at (hS) ⟨leA, leA, trivial⟩ ?_)
    refine rn1 @ab.v.eq_1 ?_
    (have ct := fj b.Archived (by omega) (by omega); (first | refine al.at ct ⟨leA, trivial⟩ ?_ | refine ah.at ct ⟨leA, trivial⟩ ?_); clear ct)
    refine rn0 ?_
    exact ak.aq rfl (by rfl)
  · have hT := aa8 b n hb
    have e : js b k n = yy b n := by rcases hk with rfl | rfl | rfl <;> rfl
    rw [e]
    rcases hk with rfl | rfl | rfl
    · skip
      refine Ctr.intro Tryz.mixed Tryz.func81 rfl Tryz.yf ?_
      refine ev2 @Tryz.ntmps81 @Tryz.results81 ?_
      refine rn2 @aj.v.eq_1 @aj.cs.eq_1 ?_
      (first | refine al.at (hS) ⟨leA, leA, trivial⟩ ?_ | refine ah.at (hS) ⟨leA, leA, trivial⟩ ?_)
      refine rn1 @ab.v.eq_1 ?_
      (first | refine al.at (hT) ⟨leA, leA, trivial⟩ ?_ | refine ah.at (hT) ⟨leA, leA, trivial⟩ ?_)
      refine rn0 ?_
      exact ak.aq rfl (by rfl)
    · skip
      refine Ctr.intro Tryz.mixed Tryz.func81 rfl Tryz.yf ?_
      refine ev2 @Tryz.ntmps81 @Tryz.results81 ?_
      refine rn2 @aj.v.eq_1 @aj.cs.eq_1 ?_
      (first | refine al.at (hS) ⟨leA, leA, trivial⟩ ?_ | refine ah.at (hS) ⟨leA, leA, trivial⟩ ?_)
      refine rn1 @ab.v.eq_1 ?_
      (first | refine al.at (hT) ⟨leA, leA, trivial⟩ ?_ | refine ah.at (hT) ⟨leA, leA, trivial⟩ ?_)
      refine rn0 ?_
      exact ak.aq rfl (by rfl)
    · skip
      refine Ctr.intro Tryz.mixed Tryz.func81 rfl Tryz.yf ?_
      refine ev2 @Tryz.ntmps81 @Tryz.results81 ?_
      refine rn2 @aj.v.eq_1 @aj.cs.eq_1 ?_
      (first | refine al.at (hS) ⟨leA, leA, trivial⟩ ?_ | refine ah.at (hS) ⟨leA, leA, trivial⟩ ?_)
      refine rn1 @ab.v.eq_1 ?_
      (first | refine al.at (hT) ⟨leA, leA, trivial⟩ ?_ | refine ah.at (hT) ⟨leA, leA, trivial⟩ ?_)
      refine rn0 ?_
      exact ak.aq rfl (by rfl)
theorem ak4 (w : ab) (h : ByteArray) (hw : wB w = true) : Ctr Tryz.prog 82 [w.v, .str h] [] (.str ((vq w (kwd h)).getD wQ)) [] := by
 have W := ey hw
 have pl := W.plen
 have sl := W.slen
 have bn := W.now
 have iU := ajk w hw
 have iT := agy w (by omega) (by omega)
 have iS := abq w (by omega) (by omega)
 have iL := abo w (by omega) (by omega)
 rw [ad2 hw] at iT
 rw [aed hw] at iS
 rw [aja hw] at iL
 simp only [adh, u6] at iT iS
 have r := ave hw
 have s := au4 hw
 have l := lg_r hw
 have lT := q9 ((ot w).map ai.Number) true (fun n hn => ⟨(r.1 n hn).1, by have := (r.1 n hn).2; omega⟩) (by omega)
 have lS := q9 (cx w.Shocks) true (fun n hn => ⟨(s.1 n hn).1, by have := (s.1 n hn).2; omega⟩) (by omega)
 have b10 := avq h
 have b11 := at2 h
 have b12 := aub h
 have b13 := au9 h
 have b14 := aua h
 generalize kwd h = q at *
 have hq : q = 10 ∨ q = 11 ∨ q = 12 ∨ q = 13 ∨ q = 14 ∨ (q ≠ 10 ∧ q ≠ 11 ∧ q ≠ 12 ∧ q ≠ 13 ∧ q ≠ 14) := by omega
 rcases hq with rfl | rfl | rfl | rfl | rfl | ⟨q1, q2, q3, q4, q5⟩
 · skip
   refine Ctr.intro Tryz.mixed Tryz.func82 rfl Tryz.ad5 ?_
   refine ev2 @Tryz.ntmps82 @Tryz.results82 ?_
   refine rn6 @ab.v.eq_1 @b10 @b11 @b12 @b13 @b14 ?_
   (have ct := fj w.Now (by omega) (by omega); (first | refine al.at ct ⟨leA, trivial⟩ ?_ | refine ah.at ct ⟨leA, trivial⟩ ?_); clear ct)
   refine rn0 ?_
   exact ak.aq rfl (by rfl)
 · skip
   refine Ctr.intro Tryz.mixed Tryz.func82 rfl Tryz.ad5 ?_
   refine ev2 @Tryz.ntmps82 @Tryz.results82 ?_
   refine rn6 @ab.v.eq_1 @b10 @b11 @b12 @b13 @b14 ?_
   (first | refine al.at (iU) ⟨leA, trivial⟩ ?_ | refine ah.at (iU) ⟨leA, trivial⟩ ?_)
   refine rn0 ?_
   exact ak.aq rfl (by rfl)
 · skip
   refine Ctr.intro Tryz.mixed Tryz.func82 rfl Tryz.ad5 ?_
   refine ev2 @Tryz.ntmps82 @Tryz.results82 ?_
   refine rn6 @ab.v.eq_1 @b10 @b11 @b12 @b13 @b14 ?_
   (first | refine al.at (iT) ⟨leA, trivial⟩ ?_ | refine ah.at (iT) ⟨leA, trivial⟩ ?_)
   refine rn0 ?_
   (first | refine al.at (lT) ⟨leA, leA, trivial⟩ ?_ | refine ah.at (lT) ⟨leA, leA, trivial⟩ ?_)
   refine rn0 ?_
   exact ak.aq rfl (by rfl)
 · skip
   refine Ctr.intro Tryz.mixed Tryz.func82 rfl Tryz.ad5 ?_
   refine ev2 @Tryz.ntmps82 @Tryz.results82 ?_
   refine rn6 @ab.v.eq_1 @b10 @b11 @b12 @b13 @b14 ?_
   (first | refine al.at (iS) ⟨leA, trivial⟩ ?_ | refine ah.at (iS) ⟨leA, trivial⟩ ?_)
   refine rn0 ?_
   (first | refine al.at (lS) ⟨leA, leA, trivial⟩ ?_ | refine ah.at (lS) ⟨leA, leA, trivial⟩ ?_)
   refine rn0 ?_
   exact ak.aq rfl (by rfl)
 · have e : vq w 14 = (lgO w).map fun p => lg [p.1, p.2] := rfl
   rw [e]
   have hr : ∀ a b : Int, rows IntS.cs [a, b] = [.int .i64 a, .int .i64 b] := fun a b => rfl
   cases hl : lgO w with
   | none =>
    rw [hl] at iL
    simp only [Option.map_none, Option.getD_none, Option.isSome_none] at iL
    have lL := q9 [0, 0] false (fun n hn => by simp at hn; subst hn; exact ⟨⟨by decide, by decide⟩, by decide⟩) (by simp)
    refine Ctr.intro Tryz.mixed Tryz.func82 rfl Tryz.ad5 ?_
    refine ev2 @Tryz.ntmps82 @Tryz.results82 ?_
    refine rn6 @ab.v.eq_1 @b10 @b11 @b12 @b13 @b14 ?_
    (first | refine al.at (iL) ⟨leA, trivial⟩ ?_ | refine ah.at (iL) ⟨leA, trivial⟩ ?_)
    refine rn0 ?_
    (first | refine al.at (lL) ⟨leA, leA, trivial⟩ ?_ | refine ah.at (lL) ⟨leA, leA, trivial⟩ ?_)
    refine rn0 ?_
    exact ak.aq rfl (by rfl)
   | some p =>
    rw [hl] at iL l
    simp only [Option.map_some, Option.getD_some, Option.isSome_some] at iL l
    have lL := q9 [p.1, p.2] true (fun n hn => by
     simp only [List.mem_cons, List.not_mem_nil, or_false] at hn
     rcases hn with rfl | rfl
     · exact ⟨⟨by omega, by omega⟩, by omega⟩
     · exact ⟨⟨by omega, by omega⟩, by omega⟩) (by simp)
    refine Ctr.intro Tryz.mixed Tryz.func82 rfl Tryz.ad5 ?_
    refine ev2 @Tryz.ntmps82 @Tryz.results82 ?_
    refine rn6 @ab.v.eq_1 @b10 @b11 @b12 @b13 @b14 ?_
    (first | refine al.at (iL) ⟨leA, trivial⟩ ?_ | refine ah.at (iL) ⟨leA, trivial⟩ ?_)
    refine rn0 ?_
    (first | refine al.at (lL) ⟨leA, leA, trivial⟩ ?_ | refine ah.at (lL) ⟨leA, leA, trivial⟩ ?_)
    refine rn0 ?_
    exact ak.aq rfl (by rfl)
 · have d0 : decide (q = 10) = false := decide_eq_false q1
   have d1 : decide (q = 11) = false := decide_eq_false q2
   have d2 : decide (q = 12) = false := decide_eq_false q3
   have d3 : decide (q = 13) = false := decide_eq_false q4
   have d4 : decide (q = 14) = false := decide_eq_false q5
   have e : vq w q = none := by rw [vq, if_neg q1, if_neg q2, if_neg q3, if_neg q4, if_neg q5]
   rw [e]
   refine Ctr.intro Tryz.mixed Tryz.func82 rfl Tryz.ad5 ?_
   refine ev2 @Tryz.ntmps82 @Tryz.results82 ?_
   refine rn11 @ab.v.eq_1 @b10 @b11 @b12 @b13 @b14 @d0 @d1 @d2 @d3 @d4 ?_
   exact ak.aq rfl (by rfl)
theorem amv (c : aj) (h : ByteArray) (n : Int) (hw : wB c.ab = true) (hn : -999999 ≤ n ∧ n ≤ 999999) : Ctr Tryz.prog 83 [c.v, .str h, .int .i64 n] [] (.tup [(cW c (mh c.ab (kwd h) [n]).1).v, .str (mh c.ab (kwd h) [n]).2]) [] := by
 have m1 := ka c 1 0 n hw hn.2
 have m2 := ka c 2 n 0 hw (by omega)
 have m3 := ka c 3 n 0 hw (by omega)
 have m5 := ka c 7 n 0 hw (by omega)
 have m6 := ka c 8 n 0 hw (by omega)
 have mT := aa8 c.ab n hw
 have b1 := kwb1 h
 have b3 := kwb3 h
 have b4 := kwb4 h
 have b5 := kwb5 h
 have b6 := kwb6 h
 have b9 := kwb9 h
 generalize kwd h = q at *
 have hq : q = 1 ∨ q = 3 ∨ q = 4 ∨ q = 5 ∨ q = 6 ∨ q = 9 ∨ (q ≠ 1 ∧ q ≠ 3 ∧ q ≠ 4 ∧ q ≠ 5 ∧ q ≠ 6 ∧ q ≠ 9) := by omega
 rcases hq with rfl | rfl | rfl | rfl | rfl | rfl | ⟨q1, q2, q3, q4, q5, q6⟩
 · rw [show mh c.ab 1 [n] = lh c.ab 1 0 n from rfl]
   refine Ctr.intro Tryz.mixed Tryz.func83 rfl Tryz.ac8 ?_
   refine ev2 @Tryz.ntmps83 @Tryz.results83 ?_
   refine rn7 @aj.v.eq_1 @b1 @b3 @b4 @b5 @b6 @b9 ?_
   (first | refine al.at (m1) ⟨leA, leA, trivial⟩ ?_ | refine ah.at (m1) ⟨leA, leA, trivial⟩ ?_)
   refine rn1 @aj.v.eq_1 ?_
   exact ak.aq rfl (by rfl)
 · rw [show mh c.ab 3 [n] = lh c.ab 2 n 0 from rfl]
   refine Ctr.intro Tryz.mixed Tryz.func83 rfl Tryz.ac8 ?_
   refine ev2 @Tryz.ntmps83 @Tryz.results83 ?_
   refine rn7 @aj.v.eq_1 @b1 @b3 @b4 @b5 @b6 @b9 ?_
   (first | refine al.at (m2) ⟨leA, leA, trivial⟩ ?_ | refine ah.at (m2) ⟨leA, leA, trivial⟩ ?_)
   refine rn1 @aj.v.eq_1 ?_
   exact ak.aq rfl (by rfl)
 · rw [show mh c.ab 4 [n] = lh c.ab 3 n 0 from rfl]
   refine Ctr.intro Tryz.mixed Tryz.func83 rfl Tryz.ac8 ?_
   refine ev2 @Tryz.ntmps83 @Tryz.results83 ?_
   refine rn7 @aj.v.eq_1 @b1 @b3 @b4 @b5 @b6 @b9 ?_
   (first | refine al.at (m3) ⟨leA, leA, trivial⟩ ?_ | refine ah.at (m3) ⟨leA, leA, trivial⟩ ?_)
   refine rn1 @aj.v.eq_1 ?_
   exact ak.aq rfl (by rfl)
 · rw [show mh c.ab 5 [n] = lh c.ab 7 n 0 from rfl]
   refine Ctr.intro Tryz.mixed Tryz.func83 rfl Tryz.ac8 ?_
   refine ev2 @Tryz.ntmps83 @Tryz.results83 ?_
   refine rn7 @aj.v.eq_1 @b1 @b3 @b4 @b5 @b6 @b9 ?_
   (first | refine al.at (m5) ⟨leA, leA, trivial⟩ ?_ | refine ah.at (m5) ⟨leA, leA, trivial⟩ ?_)
   refine rn1 @aj.v.eq_1 ?_
   exact ak.aq rfl (by rfl)
 · rw [show mh c.ab 6 [n] = lh c.ab 8 n 0 from rfl]
   refine Ctr.intro Tryz.mixed Tryz.func83 rfl Tryz.ac8 ?_
   refine ev2 @Tryz.ntmps83 @Tryz.results83 ?_
   refine rn7 @aj.v.eq_1 @b1 @b3 @b4 @b5 @b6 @b9 ?_
   (first | refine al.at (m6) ⟨leA, leA, trivial⟩ ?_ | refine ah.at (m6) ⟨leA, leA, trivial⟩ ?_)
   refine rn1 @aj.v.eq_1 ?_
   exact ak.aq rfl (by rfl)
 · rw [show mh c.ab 9 [n] = (c.ab, (yy c.ab n).getD wQ) from rfl]
   refine Ctr.intro Tryz.mixed Tryz.func83 rfl Tryz.ac8 ?_
   refine ev2 @Tryz.ntmps83 @Tryz.results83 ?_
   refine rn7 @aj.v.eq_1 @b1 @b3 @b4 @b5 @b6 @b9 ?_
   (first | refine al.at (mT) ⟨leA, leA, trivial⟩ ?_ | refine ah.at (mT) ⟨leA, leA, trivial⟩ ?_)
   refine rn1 @aj.v.eq_1 ?_
   exact ak.aq rfl (by rfl)
 · have d1 : decide (q = 1) = false := decide_eq_false q1
   have d2 : decide (q = 3) = false := decide_eq_false q2
   have d3 : decide (q = 4) = false := decide_eq_false q3
   have d4 : decide (q = 5) = false := decide_eq_false q4
   have d5 : decide (q = 6) = false := decide_eq_false q5
   have d6 : decide (q = 9) = false := decide_eq_false q6
   have e : jl q [n] = none := by simp only [jl]; rw [if_neg q1, if_neg q2, if_neg q3, if_neg q4, if_neg q5]
   rw [ajq e, if_neg q6]
   refine Ctr.intro Tryz.mixed Tryz.func83 rfl Tryz.ac8 ?_
   refine ev2 @Tryz.ntmps83 @Tryz.results83 ?_
   refine aqu @aj.v.eq_1 @b1 @b3 @b4 @b5 @b6 @b9 @d1 @d2 @d3 @d4 @d5 @d6 ?_
   exact ak.aq rfl (by rfl)
theorem an9 (c : aj) (h : ByteArray) (n v : Int) (hw : wB c.ab = true) (hn : -999999 ≤ v ∧ v ≤ 999999) : Ctr Tryz.prog 84 [c.v, .str h, .int .i64 n, .int .i64 v] [] (.tup [(cW c (mh c.ab (kwd h) [n, v]).1).v, .str (mh c.ab (kwd h) [n, v]).2]) [] := by
 have m5 := ka c 5 n v hw hn.2
 have m6 := ka c 6 n v hw hn.2
 have b7 := kwb7 h
 have b8 := kwb8 h
 generalize kwd h = q at *
 have hq : q = 7 ∨ q = 8 ∨ (q ≠ 7 ∧ q ≠ 8) := by omega
 rcases hq with rfl | rfl | ⟨q1, q2⟩
 · rw [show mh c.ab 7 [n, v] = lh c.ab 5 n v from rfl]
   refine Ctr.intro Tryz.mixed Tryz.func84 rfl Tryz.apk ?_
   refine ev2 @Tryz.ntmps84 @Tryz.results84 ?_
   refine rn3 @aj.v.eq_1 @b7 @b8 ?_
   (first | refine al.at (m5) ⟨leA, leA, trivial⟩ ?_ | refine ah.at (m5) ⟨leA, leA, trivial⟩ ?_)
   refine rn1 @aj.v.eq_1 ?_
   exact ak.aq rfl (by rfl)
 · rw [show mh c.ab 8 [n, v] = lh c.ab 6 n v from rfl]
   refine Ctr.intro Tryz.mixed Tryz.func84 rfl Tryz.apk ?_
   refine ev2 @Tryz.ntmps84 @Tryz.results84 ?_
   refine rn3 @aj.v.eq_1 @b7 @b8 ?_
   (first | refine al.at (m6) ⟨leA, leA, trivial⟩ ?_ | refine ah.at (m6) ⟨leA, leA, trivial⟩ ?_)
   refine rn1 @aj.v.eq_1 ?_
   exact ak.aq rfl (by rfl)
 · have d1 : decide (q = 7) = false := decide_eq_false q1
   have d2 : decide (q = 8) = false := decide_eq_false q2
   have e : jl q [n, v] = none := by simp only [jl]; rw [if_neg q1, if_neg q2]
   rw [ad7 e]
   refine Ctr.intro Tryz.mixed Tryz.func84 rfl Tryz.apk ?_
   refine ev2 @Tryz.ntmps84 @Tryz.results84 ?_
   refine rn5 @aj.v.eq_1 @b7 @b8 @d1 @d2 ?_
   exact ak.aq rfl (by rfl)
end Go.Proofs
end
section
set_option maxRecDepth 100000
set_option maxHeartbeats 4000000
namespace Go.Proofs
open Go.Lv
theorem atl {w b : ab} {line : ByteArray} (h : zk w line = some b) : wB b = true := by
 unfold zk at h
 split at h
 · cases h
 · split at h
   · exact (x5 h).2.2.2.2
   · cases h
theorem al0 {w : ab} {line : ByteArray} (h : wB w = true) : wB (fw w line).1 = true := by
 rw [ajj]
 cases hs : zk w line with
 | none => exact h
 | some b => exact atl hs
def zx : List V := [.int .i64 0, .nilsl, .nilsl, .int .i64 0, .int .i64 0, .str ByteArray.empty, .str ByteArray.empty, .int .i64 0]
theorem ams (c : aj) (line : ByteArray) (hl : line.size ≤ 1000) (hw : wB c.ab = true) : Ctr Tryz.prog 40 [c.v, .str line] [] (.tup [(cW c (fw c.ab line).1).v, .str (fw c.ab line).2]) [] := by
 have W := ey hw
 have pl := W.plen
 have sl := W.slen
 obtain ⟨x, T, hS⟩ := aax 32 line
 have hT : (jt 32 line).tail = T := by rw [hS]; rfl
 have hx : (jt 32 line).headD ⟨#[]⟩ = x := by rw [hS]; rfl
 have hsp := aix line 32 (by omega)
 rw [show (((32 : UInt8).toNat : Nat) : Int) = 32 from rfl] at hsp
 have hlen := ad8 32 line
 have hsz : ∀ y ∈ x :: T, y.size ≤ line.size := fun y hy => aas 32 line (by rw [hS]; exact hy)
 rw [hS] at hsp hlen
 simp only [List.length_cons] at hlen
 have hr0 : (rows StringS.cs (x :: T)).take 1 = [.str x] := rfl
 refine Ctr.intro Tryz.mixed Tryz.func40 rfl Tryz.a3g ?_
 refine ev2 @Tryz.ntmps40 @Tryz.results40 ?_
 refine rn1 @aj.v.eq_1 ?_
 (first | refine al.at (hsp) ⟨leA, leA, trivial⟩ ?_ | refine ah.at (hsp) ⟨leA, leA, trivial⟩ ?_)
 refine rn0 ?_
 refine dr.intro (fun i : Nat => i ≤ T.length ∧ (T.take i).all (fun s => (da s).isSome) = true) (fun i => ⟨(.undef :: .str line :: .ptr 0 0 :: .undef :: .ptr 1 0 :: .undef :: StringS.sl (x :: T) :: .osl 2 0 i 1 :: .int .i64 ((i : Int) + 1) :: (un 70 [])), [some c.cs, some zx, some (rows IntS.cs ((T.take i).map fun s => (da s).getD 0))], 0⟩) (fun i => T.length - i) 0 ⟨Nat.zero_le _, rfl⟩ ?_ (fun i hi => ?_)
 · refine au.cut (3) (by simp) (by simp) ?_ ?_
   · simp [LeC, LeV, ren, bq]
   · simp [bz, cw, ren, bq, ae, aj.cs, zx, zh]
 refine ev0 ?_
 have hll : (((x :: T).length : Nat) : Int) = (T.length : Int) + 1 := by rw [List.length_cons]; omega
 refine ay.split (fun h1 => ?_) (fun h1 => ?_)
 · have hi' : i < T.length := by have := of_decide_eq_true h1; omega
   have hr := bw StringS.csl (L := x :: T) (i := i + 1) (by rw [List.length_cons]; omega)
   rw [List.getElem_cons_succ] at hr
   have hst : (T.take (i + 1)).map (fun s => (da s).getD 0) = (T.take i).map (fun s => (da s).getD 0) ++ [(da T[i]).getD 0] := by rw [List.take_succ_eq_append_getElem hi', List.map_append]; rfl
   have hlen2 : ((T.take i).map fun s => (da s).getD 0).length = i := by simp; omega
   have ip := aga T[i] (by have := hsz T[i] (List.mem_cons_of_mem _ (List.getElem_mem hi')); omega)
   rw [jv] at ip
   have hti : ((i : Int) + 1).toNat = i + 1 := by omega
   refine rn4 @h1 @hti @hr @StringS.cs.eq_1 ?_
   cases hread : (da T[i]).isSome with
   | false =>
    have hno := aaj hi' hread
    have hrun : fw c.ab line = (c.ab, wQ) := by unfold fw; rw [hT, hno]
    rw [hread] at ip
    (first | refine al.at (ip) ⟨leA, trivial⟩ ?_ | refine ah.at (ip) ⟨leA, trivial⟩ ?_)
    refine rn2 @aj.cs.eq_1 @zx.eq_1 ?_
    rw [hrun]
    exact ak.aq rfl (by rfl)
   | true =>
    rw [hread] at ip
    (first | refine al.at (ip) ⟨leA, trivial⟩ ?_ | refine ah.at (ip) ⟨leA, trivial⟩ ?_)
    refine rn4 @bb @bh @Nat.mul_one @hlen2 ?_
    refine ⟨i + 1, ⟨hi', by rw [List.take_succ_eq_append_getElem hi', List.all_append, hi.2]; simp [hread]⟩, ?_, by omega⟩
    refine au.cut (3) (by simp) (by simp) ?_ ?_
    · simp [LeC, LeV, ren, bq]
    · rw [hst, ← dw]
      simp [bz, cw, ren, bq, ae, dk, nq, IntS.cs, aj.cs, zx]
 have hi' : i = T.length := by have := of_decide_eq_false h1; omega
 subst hi'
 have hnum := xu hi.2
 have hbd := aa6 hnum
 rw [List.take_length]
 have hnl : (T.map fun s => (da s).getD 0).length = T.length := List.length_map _
 have hrun : fw c.ab line = mh c.ab (kwd x) (T.map fun s => (da s).getD 0) := by unfold fw; rw [hT, hnum, hx]
 rw [hrun]
 have hxl : T = [] → x = line := fun e => apl (by rw [hS, e])
 clear hnum
 have hns : (T.map fun s => (da s).getD 0).length ≤ 1000 := by omega
 have htn : T = [] ↔ (T.map fun s => (da s).getD 0) = [] := by cases T <;> simp
 have h1' : decide ((T.length : Int) + 1 < ((T.length + 1 : Nat) : Int)) = false := decide_eq_false (by omega)
 refine rn2 @h1 @h1' ?_
 rw [← hnl]
 generalize (T.map fun s => (da s).getD 0) = ns at *
 have z00 : (((0 : Nat) : Int) == 0) = true := rfl
 have z01 : (((0 : Nat) : Int) == 1) = false := rfl
 have z02 : (((0 : Nat) : Int) == 2) = false := rfl
 have z10 : (((1 : Nat) : Int) == 0) = false := rfl
 have z11 : (((1 : Nat) : Int) == 1) = true := rfl
 have z12 : (((1 : Nat) : Int) == 2) = false := rfl
 have z20 : (((2 : Nat) : Int) == 0) = false := rfl
 have z21 : (((2 : Nat) : Int) == 1) = false := rfl
 have z22 : (((2 : Nat) : Int) == 2) = true := rfl
 rcases ns with _ | ⟨n1, _ | ⟨n2, _ | ⟨n3, L⟩⟩⟩
 · have hx2 : x = line := hxl (htn.2 rfl)
   subst hx2
   have b2 := kwb2 x
   have m4 := ka c 4 0 0 hw (by omega)
   have mw := ak4 c.ab x hw
   by_cases q2 : kwd x = 2
   · have d2 : decide (kwd x = 2) = true := decide_eq_true q2
     have e : mh c.ab (kwd x) [] = lh c.ab 4 0 0 := by rw [q2]; rfl
     rw [e]
     refine aqu @b2 @d2 @aj.cs.eq_1 @zx.eq_1 @z00 @z01 @z02 @z10 @z11 @z12 @z20 @z21 @z22 ?_
     (first | refine al.at (m4) ⟨leA, leA, trivial⟩ ?_ | refine ah.at (m4) ⟨leA, leA, trivial⟩ ?_)
     refine rn1 @aj.v.eq_1 ?_
     exact ak.aq rfl (by rfl)
   · have d2 : decide (kwd x = 2) = false := decide_eq_false q2
     have e : jl (kwd x) [] = none := by simp only [jl]; rw [if_neg q2]
     rw [ah0 e]
     refine aqu @b2 @d2 @aj.cs.eq_1 @zx.eq_1 @z00 @z01 @z02 @z10 @z11 @z12 @z20 @z21 @z22 ?_
     (first | refine al.at (mw) ⟨leA, leA, trivial⟩ ?_ | refine ah.at (mw) ⟨leA, leA, trivial⟩ ?_)
     refine rn1 @aj.v.eq_1 ?_
     exact ak.aq rfl (by rfl)
 · have hn1 := hbd n1 (by simp)
   have hr3 : rows IntS.cs [n1] = [.int .i64 n1] := rfl
   have m1 := amv c x n1 hw hn1
   refine aqu @hr3 @hr0 @aj.cs.eq_1 @zx.eq_1 @z00 @z01 @z02 @z10 @z11 @z12 @z20 @z21 @z22 ?_
   (first | refine al.at (m1) ⟨leA, leA, leA, trivial⟩ ?_ | refine ah.at (m1) ⟨leA, leA, leA, trivial⟩ ?_)
   refine rn1 @aj.v.eq_1 ?_
   exact ak.aq rfl (by rfl)
 · have hn2 := hbd n2 (by simp)
   have hr3 : rows IntS.cs [n1, n2] = [.int .i64 n1, .int .i64 n2] := rfl
   have m2 := an9 c x n1 n2 hw hn2
   refine aqu @hr3 @hr0 @aj.cs.eq_1 @zx.eq_1 @z00 @z01 @z02 @z10 @z11 @z12 @z20 @z21 @z22 ?_
   (first | refine al.at (m2) ⟨leA, leA, leA, leA, trivial⟩ ?_ | refine ah.at (m2) ⟨leA, leA, leA, leA, trivial⟩ ?_)
   refine rn1 @aj.v.eq_1 ?_
   exact ak.aq rfl (by rfl)
 · have c1 : (((n1 :: n2 :: n3 :: L).length : Int) == 1) = false := by simp; omega
   have c2 : (((n1 :: n2 :: n3 :: L).length : Int) == 2) = false := by simp; omega
   have c0 : (((n1 :: n2 :: n3 :: L).length : Int) == 0) = false := by simp; omega
   have e : jl (kwd x) (n1 :: n2 :: n3 :: L) = none := rfl
   rw [ad7 e]
   generalize n1 :: n2 :: n3 :: L = ns at *
   refine rn5 @c0 @c1 @c2 @aj.cs.eq_1 @zx.eq_1 ?_
   exact ak.aq rfl (by rfl)
theorem a09 (c : aj) : ak 0 (c.ab.o 0 1) [some (rows bf.cs c.ab.Posts), some (rows ai.cs c.ab.Shocks)] c.ab.v [] := by
 refine ak.pick [] (by decide) (fun j hj => by omega) (.inl ?_) rfl
 have e1 := dc (cs := bf.cs) c.ab.Posts
 have e2 := dc (cs := ai.cs) c.ab.Shocks
 simp [ab.o, ab.v, ren, bc, posOf, o4, ae] at e1 e2 ⊢
 exact ⟨e1.symm, e2.symm⟩
theorem afs (c : aj) (hp : c.ab.Posts.length ≤ 16777216) (hs : c.ab.Shocks.length ≤ 16777216) : Ctr Tryz.prog 37 [c.v] [] c.v [] := by
 have h := (jq c.ab hp hs).w9 (a09 c)
 refine Ctr.intro Tryz.mixed Tryz.func37 rfl Tryz.a1r ?_
 refine ev2 @Tryz.ntmps37 @Tryz.results37 ?_
 refine rn1 @aj.v.eq_1 ?_
 (first | refine al.at (h) ⟨leA, trivial⟩ ?_ | refine ah.at (h) ⟨leA, trivial⟩ ?_)
 refine rn1 @ab.v.eq_1 ?_
 exact ak.aq rfl (by rfl)
theorem ajp (c : aj) (line : ByteArray) (hc : c.fits) (hl : line.size ≤ 4194304) : Ctr Tryz.prog 9 [c.v, .str line] [] (.tup [(eb c line).1.v, .str (eb c line).2]) [] := by
 obtain ⟨f0, f1, f2, f3⟩ := hc
 have hc : c.fits := ⟨f0, f1, f2, f3⟩
 have he2 : (ByteArray.empty : ByteArray).size = 0 := rfl
 have hV := uo ⟨line, ByteArray.empty⟩ (by dsimp only; omega) (by dsimp only; omega)
 have hO := afs c (by omega) (by omega)
 have hG := tz c hc
 cases hb : np c with
 | false =>
  rw [show eb c line = (c, wNo) by rw [eb, if_pos hb]]
  rw [hb] at hG
  refine Ctr.intro Tryz.mixed Tryz.func9 rfl Tryz.as9 ?_
  refine ev2 @Tryz.ntmps9 @Tryz.results9 ?_
  refine rn1 @aj.v.eq_1 ?_
  (first | refine al.at (hO) ⟨leA, trivial⟩ ?_ | refine ah.at (hO) ⟨leA, trivial⟩ ?_)
  refine rn1 @aj.v.eq_1 ?_
  (first | refine al.at (hG) ⟨leA, trivial⟩ ?_ | refine ah.at (hG) ⟨leA, trivial⟩ ?_)
  refine rn0 ?_
  exact ak.aq rfl (by rfl)
 | true =>
  rw [hb] at hG
  cases hr : ic ⟨line, ByteArray.empty⟩ with
  | false =>
   rw [show eb c line = (c, aon) by rw [eb, if_neg (by simp [hb]), if_pos hr]]
   rw [hr] at hV
   refine Ctr.intro Tryz.mixed Tryz.func9 rfl Tryz.as9 ?_
   refine ev2 @Tryz.ntmps9 @Tryz.results9 ?_
   refine rn1 @aj.v.eq_1 ?_
   (first | refine al.at (hO) ⟨leA, trivial⟩ ?_ | refine ah.at (hO) ⟨leA, trivial⟩ ?_)
   refine rn1 @aj.v.eq_1 ?_
   (first | refine al.at (hG) ⟨leA, trivial⟩ ?_ | refine ah.at (hG) ⟨leA, trivial⟩ ?_)
   refine rn0 ?_
   (first | refine al.at (hV) ⟨leA, trivial⟩ ?_ | refine ah.at (hV) ⟨leA, trivial⟩ ?_)
   refine rn1 @aw.v.eq_1 ?_
   exact ak.aq rfl (by rfl)
  | true =>
   have hl2 := afo hr
   obtain ⟨hw, hlg⟩ := l9 hb
   rw [hr] at hV
   by_cases hf : c.Log.Count = 60
   · have hf' : (c.Log.Count == 60) = true := by simpa using hf
     rw [show eb c line = (c, ail) by rw [eb, if_neg (by simp [hb]), if_neg (by simp [hr]), if_pos hf]]
     refine Ctr.intro Tryz.mixed Tryz.func9 rfl Tryz.as9 ?_
     refine ev2 @Tryz.ntmps9 @Tryz.results9 ?_
     refine rn1 @aj.v.eq_1 ?_
     (first | refine al.at (hO) ⟨leA, trivial⟩ ?_ | refine ah.at (hO) ⟨leA, trivial⟩ ?_)
     refine rn1 @aj.v.eq_1 ?_
     (first | refine al.at (hG) ⟨leA, trivial⟩ ?_ | refine ah.at (hG) ⟨leA, trivial⟩ ?_)
     refine rn0 ?_
     (first | refine al.at (hV) ⟨leA, trivial⟩ ?_ | refine ah.at (hV) ⟨leA, trivial⟩ ?_)
     refine rn2 @aw.v.eq_1 @hf' ?_
     exact ak.aq rfl (by rfl)
   · have hf' : (c.Log.Count == 60) = false := by simpa using hf
     rw [show eb c line = (⟨(fw c.ab line).1, anq c.Log ⟨line, qd (fw c.ab line).2⟩⟩, qd (fw c.ab line).2) by rw [eb, if_neg (by simp [hb]), if_neg (by simp [hr]), if_neg hf]]
     have hcap : qd (fw c.ab line).2 = if 200 < ((fw c.ab line).2.size : Int) then afl else (fw c.ab line).2 := rfl
     have hcs : (qd (fw c.ab line).2).size ≤ 200 := by
      rw [hcap]; split
      · decide
      · omega
     obtain ⟨z, hz⟩ := alu c.Log ⟨line, qd (fw c.ab line).2⟩
     have iA := n5 c.Log ⟨line, qd (fw c.ab line).2⟩ f2 f3 (by dsimp only; omega) (by dsimp only; omega)
     rw [hz] at iA
     have hR := ams c line (by omega) hw
     have hbl : (fw c.ab line).1.Posts.length ≤ 1048576 ∧ (fw c.ab line).1.Shocks.length ≤ 1048576 := by
      have h9 := ey (al0 (line := line) hw)
      have := h9.plen
      have := h9.slen
      omega
     have hO2 := afs (cW c (fw c.ab line).1) (by have := hbl.1; show (fw c.ab line).1.Posts.length ≤ _; omega) (by have := hbl.2; show (fw c.ab line).1.Shocks.length ≤ _; omega)
     refine Ctr.intro Tryz.mixed Tryz.func9 rfl Tryz.as9 ?_
     refine ev2 @Tryz.ntmps9 @Tryz.results9 ?_
     refine rn1 @aj.v.eq_1 ?_
     (first | refine al.at (hO) ⟨leA, trivial⟩ ?_ | refine ah.at (hO) ⟨leA, trivial⟩ ?_)
     refine rn1 @aj.v.eq_1 ?_
     (first | refine al.at (hG) ⟨leA, trivial⟩ ?_ | refine ah.at (hG) ⟨leA, trivial⟩ ?_)
     refine rn0 ?_
     (first | refine al.at (hV) ⟨leA, trivial⟩ ?_ | refine ah.at (hV) ⟨leA, trivial⟩ ?_)
     refine rn2 @aw.v.eq_1 @hf' ?_
     (first | refine al.at (hR) ⟨leA, leA, trivial⟩ ?_ | refine ah.at (hR) ⟨leA, leA, trivial⟩ ?_)
     refine rn1 @aj.v.eq_1 ?_
     (first | refine al.at (hO2) ⟨leA, trivial⟩ ?_ | refine ah.at (hO2) ⟨leA, trivial⟩ ?_)
     refine rn1 @aj.v.eq_1 ?_
     refine ay.split (fun hg => ?_) (fun hg => ?_)
     · have e : qd (fw c.ab line).2 = afl := by rw [hcap, if_pos (of_decide_eq_true hg)]
       rw [e] at iA hz ⊢
       refine rn1 @hg ?_
       (first | refine al.at (iA) ⟨leA, leA, trivial⟩ ?_ | refine ah.at (iA) ⟨leA, leA, trivial⟩ ?_)
       refine rn1 @Log.v.eq_1 ?_
       exact ak.aq rfl (by rfl)
     · have e : qd (fw c.ab line).2 = (fw c.ab line).2 := by rw [hcap, if_neg (of_decide_eq_false hg)]
       rw [e] at iA hz ⊢
       refine rn1 @hg ?_
       (first | refine al.at (iA) ⟨leA, leA, trivial⟩ ?_ | refine ah.at (iA) ⟨leA, leA, trivial⟩ ?_)
       refine rn1 @Log.v.eq_1 ?_
       exact ak.aq rfl (by rfl)
end Go.Proofs
end
section
set_option maxRecDepth 100000
set_option maxHeartbeats 4000000
namespace Go.Proofs
open Go.Lv
theorem frzC (c : aj) (r : ByteArray) : ak 0 (.tup [c.o 0 1, .str r]) [some (rows bf.cs c.ab.Posts), some (rows ai.cs c.ab.Shocks)] (.tup [c.v, .str r]) [] := by
 refine ak.pick [] (by decide) (fun j hj => by omega) (.inl ?_) rfl
 have e1 := dc (cs := bf.cs) c.ab.Posts
 have e2 := dc (cs := ai.cs) c.ab.Shocks
 simp [aj.o, aj.v, ren, bc, posOf, o4, ae] at e1 e2 ⊢
 exact ⟨e1.symm, e2.symm⟩
theorem ane (c : aj) (line : ByteArray) (hc : c.fits) (hl : line.size ≤ 4194304) : Ctr Tryz.prog 8 [c.v, .str line] [] (.tup [(eb c line).1.v, .str (eb c line).2]) [] :=
 (ao3 c line hc hl).w9 (frzC _ _)
def aj.sz (c : aj) (n : Nat) : Prop := c.ab.Posts.length ≤ 1048576 ∧ c.ab.Shocks.length ≤ 1048576 ∧ c.Log.Durable.size ≤ 1048576 ∧ c.Log.Pending.size ≤ 1048576 + 500 * n
theorem aha {k : Int} {e : aw} (hk : 0 ≤ k ∧ k ≤ 59) (h : ic e = true) : (cc k e).size ≤ 500 := by
 have h1 := gi hk h
 have h2 := iv (dd k e)
 rw [cc, ByteArray.size_append]
 have : (⟨#[10]⟩ : ByteArray).size = 1 := rfl
 omega
end Go.Proofs
end
section
set_option maxRecDepth 100000
set_option maxHeartbeats 1000000
namespace Go.Proofs
open Go.Lv
theorem ap0 {p : UInt8 → Bool} {s : ByteArray} (h : dx p s = true) {c : UInt8} (hc : p c = false) : noB c s = true :=
 ss h (fun b hb => by
  cases g : b == c with
  | false => rfl
  | true => rw [eq_of_beq g] at hb; rw [hb] at hc; cases hc)
theorem w6 {c : UInt8} {a b : ByteArray} (h1 : noB c a = true) (h2 : noB c b = true) : noB c (a ++ b) = true := by
 unfold noB at *; rw [y4, h1, h2]; rfl
theorem alk {s : ByteArray} (h : dx bo s = true) : noB 10 s = true := ap0 h (by decide)
theorem apf {k : Int} {e : aw} (hk : 0 ≤ k ∧ k ≤ 59) (h : ic e = true) : noB 10 (kp (dd k e)) = true := by
 obtain ⟨_, _, h3, h4, _⟩ := wy h
 obtain ⟨u, rfl⟩ := Int.eq_ofNat_of_zero_le hk.1
 have hb := ag3 (dd u e)
 obtain ⟨v, hv⟩ := Int.eq_ofNat_of_zero_le hb.1
 rw [kp, hv, dd]
 refine w6 (w6 (w6 (w6 (w6 (w6 (ab6 10 (by decide) (u + 1) u (by omega)) (by decide)) (alk (ss h3 fun b hb => ?_))) (by decide)) (alk h4)) (by decide)) (ab6 10 (by decide) (v + 1) v (by omega))
 simp only [Bool.and_eq_true] at hb
 exact hb.1
theorem ani {k : Int} {e : aw} : (cc k e).size = (kp (dd k e)).size + 1 := by rw [cc, ByteArray.size_append]; rfl
theorem arb {k : Int} {e : aw} (hk : 0 ≤ k ∧ k ≤ 59) (h : ic e = true) : ix k (cc k e) = some (e, (cc k e).size) := by
 have hc := q7 (y := ⟨#[]⟩) (apf hk h)
 have e1 : kp (dd k e) ++ ((⟨#[10]⟩ : ByteArray) ++ ⟨#[]⟩) = cc k e := by
  rw [cc]
  congr 1
 rw [e1] at hc
 unfold ix
 rw [if_pos hc.2.2.2, hc.2.1, nz.2 ⟨hk, h, rfl⟩, ani]
 rfl
theorem ajv {l : Log} {e : aw} (h : j7 l = true) (he : ic e = true) (hc : l.Count ≠ 60) :
 cr (l.Durable ++ (l.Pending ++ cc l.Count e)) = cr (l.Durable ++ l.Pending) ++ [e] ∧ nj (l.Durable ++ (l.Pending ++ cc l.Count e)) = (l.Durable ++ (l.Pending ++ cc l.Count e)).size := by
 have hcb := lu h
 have hk : 0 ≤ l.Count ∧ l.Count ≤ 59 := by omega
 simp only [j7, Bool.and_eq_true, decide_eq_true_eq] at h
 obtain ⟨h1, h2, h3, h4⟩ := h
 rw [← ByteArray.append_assoc]
 have hsz : (l.Durable ++ l.Pending).size = l.Durable.size + l.Pending.size := ByteArray.size_append
 rw [← hsz] at h2
 generalize l.Durable ++ l.Pending = X at h2 h4 ⊢
 obtain ⟨a1, a2, a3, a4⟩ := vj X
 have hj : rdN X (cr X).length = (cr X, X.size) := by rw [← a2, ← h2, cr, nj]
 have hp := aj7 (D := X) (P := cc l.Count e) a1
 rw [hj] at hp
 have hx : (X ++ cc l.Count e).extract X.size (X ++ cc l.Count e).size = cc l.Count e := aad _ _
 have hs := j2 (s := X ++ cc l.Count e) (n := (cr X).length) (r := (e, (cc l.Count e).size)) (by
  rw [hp]
  dsimp only
  rw [hx, h4]
  exact arb hk he)
 rw [hp] at hs
 have hd : rdN (X ++ cc l.Count e) 60 = rdN (X ++ cc l.Count e) ((cr X).length + 1) := vo (by rw [hs]; simp) (by
  rw [hs]
  dsimp only
  exact x7 (by rw [ByteArray.size_extract, ByteArray.size_append]; omega))
 refine ⟨by rw [cr, hd, hs], ?_⟩
 rw [nj, hd, hs, ByteArray.size_append]
end Go.Proofs
end
section
set_option maxRecDepth 100000
set_option maxHeartbeats 1000000
namespace Go.Proofs
open Go.Lv
theorem su (p : UInt8 → Bool) (x y : ByteArray) : dx p (x ++ y) = (dx p x && dx p y) := by simp only [dx, lv, List.all_append]
theorem anw {b : UInt8} (h : gg b = true) : bo b = true := by
 simp only [gg, Bool.and_eq_true, decide_eq_true_eq] at h
 simp only [bo, j3, Bool.and_eq_true, decide_eq_true_eq, Bool.not_eq_true', beq_eq_false_iff_ne, ne_eq]
 refine ⟨⟨by omega, by omega⟩, fun e => ?_⟩
 rw [e] at h
 simp at h
theorem ae6 (u : Nat) : (Lib.decDigits u).all bo = true := by
 have h := (rj (u + 1) u (by omega)).1
 rw [List.all_eq_true] at h ⊢
 exact fun b hb => anw (h b hb)
theorem r4 (n : Int) : dx bo (num n) = true := by
 rcases Int.lt_or_le n 0 with hn | hn
 · obtain ⟨u, rfl⟩ : ∃ u : Nat, n = -(u : Int) := ⟨n.natAbs, by omega⟩
   have e : Lib.itoa (-(u : Int)) = 45 :: Lib.decDigits u := by unfold Lib.itoa; rw [if_pos (by omega)]; simp
   show (Lib.itoa (-(u : Int))).toArray.toList.all bo = true
   rw [e]
   simp only [List.all_cons, ae6, Bool.and_true]
   decide
 · obtain ⟨u, rfl⟩ : ∃ u : Nat, n = u := ⟨n.toNat, by omega⟩
   show (Lib.itoa (u : Int)).toArray.toList.all bo = true
   rw [qs]
   simpa using ae6 u
theorem acx : ∀ L : List Int, dx bo (nk L) = true
 | [] => rfl
 | [a] => r4 a
 | a :: b :: l => by
  have ih := acx (b :: l)
  rw [nk, su, su, r4, ih]
  decide
theorem qu (L : List Int) : dx bo (lg L) = true := by
 unfold lg
 split
 · decide
 · exact acx L
theorem akz (s : Int) : dx bo (sr s) = true := by
 unfold sr
 split
 · decide
 · split
   · decide
   · split <;> decide
theorem aic (x : ai) : dx bo (l8 x) = true := by
 have h1 : dx bo (qb x) = true := by
  rw [qb, su, su, r4, akz]; decide
 unfold l8
 split
 · exact h1
 · rw [su, su, r4, h1]; decide
theorem aco (w : ab) (n : Int) : dx bo ((yy w n).getD wQ) = true := by
 unfold yy
 cases w.Shocks.find? (du n) with
 | none => exact (by decide : dx bo wQ = true)
 | some x => exact aic x
theorem aih (w : ab) (k n : Int) : dx bo ((js w k n).getD wQ) = true := by
 unfold js
 split
 · exact r4 _
 · split
   · exact qu _
   · split
     · exact r4 _
     · split
       · exact r4 _
       · exact aco w n
theorem am8 (w : ab) (q : Nat) : dx bo ((vq w q).getD wQ) = true := by
 have hq : dx bo wQ = true := by decide
 unfold vq
 split
 · exact r4 _
 · split
   · exact qu _
   · split
     · exact qu _
     · split
       · exact qu _
       · split
         · cases lgO w with
           | none => exact hq
           | some p => exact qu _
         · exact hq
theorem aj4 (w : ab) (q : Nat) (ns : List Int) : dx bo (mh w q ns).2 = true := by
 have hq : dx bo wQ = true := by decide
 unfold mh
 split
 · rename_i k n v _
   unfold lh
   split
   · exact hq
   · exact aih _ _ _
 · split
   · exact am8 _ _
   · dsimp only
     split
     · exact aco _ _
     · exact hq
   · exact hq
theorem akt (w : ab) (line : ByteArray) : dx bo (fw w line).2 = true := by
 unfold fw
 split
 · exact (by decide : dx bo wQ = true)
 · exact aj4 _ _ _
theorem an1 {r : ByteArray} (h : dx bo r = true) : dx bo (qd r) = true ∧ (qd r).size ≤ 200 := by
 unfold qd
 split
 · exact ⟨by decide, by decide⟩
 · exact ⟨h, by omega⟩
theorem ana {line r r' : ByteArray} (h : ic ⟨line, r⟩ = true) (h1 : dx bo r' = true) (h2 : r'.size ≤ 200) : ic ⟨line, r'⟩ = true := by
 simp only [ic, Bool.and_eq_true, decide_eq_true_eq] at h ⊢
 exact ⟨h.1, h2, h1⟩
theorem ab8 (c : aj) (line : ByteArray) : ((eb c line).1 = c ∧ ((eb c line).2 = wNo ∨ (eb c line).2 = aon ∨ (eb c line).2 = ail)) ∨
 (np c = true ∧ ic ⟨line, (eb c line).2⟩ = true ∧ c.Log.Count ≠ 60 ∧ wB (eb c line).1.ab = true ∧ (eb c line).1.ab = (fw c.ab line).1 ∧ (eb c line).1.Log = ⟨c.Log.Durable, c.Log.Pending ++ cc c.Log.Count ⟨line, (eb c line).2⟩, c.Log.Count + 1⟩) := by
 unfold eb
 split
 · exact .inl ⟨rfl, .inl rfl⟩
 · rename_i h1
   split
   · exact .inl ⟨rfl, .inr (.inl rfl)⟩
   · rename_i h2
     split
     · exact .inl ⟨rfl, .inr (.inr rfl)⟩
     · rename_i h3
       have hc : np c = true := by simpa using h1
       have hr : ic ⟨line, ByteArray.empty⟩ = true := by simpa using h2
       obtain ⟨p1, p2⟩ := an1 (akt c.ab line)
       have hrr := ana hr p1 p2
       refine .inr ⟨hc, hrr, h3, al0 (l9 hc).1, rfl, ?_⟩
       dsimp only
       rw [anq, if_pos ⟨(l9 hc).2, hrr⟩, if_neg h3]
theorem adf {l : Log} (h : j7 l = true) : l.Durable.size + l.Pending.size ≤ 30000 ∧ nj (l.Durable ++ l.Pending) = l.Durable.size + l.Pending.size ∧ nj l.Durable = l.Durable.size ∧ ((cr (l.Durable ++ l.Pending)).length : Int) = l.Count := by
 simpa only [j7, Bool.and_eq_true, decide_eq_true_eq] using h
theorem am1 {l : Log} {e : aw} (h : j7 l = true) (he : ic e = true) (hc : l.Count ≠ 60) : j7 ⟨l.Durable, l.Pending ++ cc l.Count e, l.Count + 1⟩ = true := by
 obtain ⟨h1, h2, h3, h4⟩ := adf h
 obtain ⟨a1, a2⟩ := ajv h he hc
 have hb := (amg (l.Durable ++ (l.Pending ++ cc l.Count e))).2
 have hs : (l.Durable ++ (l.Pending ++ cc l.Count e)).size = l.Durable.size + (l.Pending ++ cc l.Count e).size := ByteArray.size_append
 have hs2 : (l.Pending ++ cc l.Count e).size = l.Pending.size + (cc l.Count e).size := ByteArray.size_append
 have hcb := lu h
 simp only [j7, a1, a2, h3, List.length_append, List.length_cons, List.length_nil]
 simp
 omega
noncomputable def af7 (c : aj) : List aw := cr (c.Log.Durable ++ c.Log.Pending)
theorem aqw {c : aj} {line : ByteArray} (h : np c = true) (he : ic ⟨line, (eb c line).2⟩ = true) (hc : c.Log.Count ≠ 60) (hw : wB (eb c line).1.ab = true) (hl : (eb c line).1.Log = ⟨c.Log.Durable, c.Log.Pending ++ cc c.Log.Count ⟨line, (eb c line).2⟩, c.Log.Count + 1⟩) :
 np (eb c line).1 = true ∧ af7 (eb c line).1 = af7 c ++ [⟨line, (eb c line).2⟩] ∧ ((af7 c).length : Int) = c.Log.Count := by
 have hlg := (l9 h).2
 refine ⟨?_, ?_, (adf hlg).2.2.2⟩
 · rw [np, hw, hl, am1 hlg he hc]; rfl
 · rw [af7, hl]
   exact (ajv hlg he hc).1
end Go.Proofs
end
section
set_option maxRecDepth 100000
set_option maxHeartbeats 4000000
namespace Go.Proofs
open Go.Lv
def dC (m : Nat) (s : aj) : Prop := (s.ab.ok ∧ s.ab.sm) ∧ (s.ab.Posts.length ≤ 100 ∧ s.ab.Shocks.length ≤ 100) ∧ s.Log.Durable.size ≤ 100000 ∧ s.Log.Pending.size ≤ 100000 + 500 * m ∧ bt s.Log.Count
theorem dC.fits {m : Nat} {s : aj} (h : dC m s) (hm : m ≤ 1000) : s.fits := by
 obtain ⟨_, ⟨h1, h2⟩, h3, h4, _⟩ := h
 exact ⟨by omega, by omega, by omega, by omega⟩
theorem dC.exec {m : Nat} {s : aj} (h : dC m s) (line : ByteArray) : dC (m + 1) (eb s line).1 := by
 obtain ⟨h1, h2, h3, h4, h5⟩ := h
 rcases ab8 s line with ⟨e, _⟩ | ⟨hc, hr, hn, hw, _, hl⟩
 · rw [e]; exact ⟨h1, h2, h3, by omega, h5⟩
 · obtain ⟨g1, g2, g3⟩ := akc hw
   have hlc := lu (l9 hc).2
   have hz := aha (k := s.Log.Count) (by omega) hr
   refine ⟨⟨g1, auf hw⟩, ⟨by omega, by omega⟩, ?_⟩
   rw [hl]
   refine ⟨h3, by simp only [ByteArray.size_append]; omega, ⟨by simp only []; omega, by simp only []; omega⟩⟩
theorem dC.log {m : Nat} {s : aj} (h : dC m s) {l : Log} (h1 : l.Durable.size ≤ 100000) (h2 : l.Pending.size ≤ 100000) (h3 : bt l.Count) : dC m ⟨s.ab, l⟩ := ⟨h.1, h.2.1, h1, by simp only []; omega, h3⟩
theorem sR.i64 {x : Int} (h : sR x) : -9223372036854775807 ≤ x ∧ x ≤ 9223372036854775807 := by
 obtain ⟨h1, h2⟩ := h; omega
theorem xm {B : List Int} (hB : CB B) {k : Int} (hk : k ≤ 900000) {c : Cur} (hc : c.le k) (s : aj) {m : Nat} (hs : dC m s) : mg Tryz.prog 31 [.ptr 0 0, s.v] [some (c.cs B)] (apw B 100 (k + 60)) := by
 have hcb : ∀ {c' : Cur} {k' : Int}, c'.le k' → k' ≤ 4000000 → c'.le 4611686018427387903 := fun h h' => ⟨h.1, by have := h.2; omega⟩
 obtain ⟨⟨_, hsm⟩, ⟨hp, hq⟩, _⟩ := hs
 refine mg.intro Tryz.mixed Tryz.func31 rfl Tryz.a1z ?_
 refine ev2 @Tryz.ntmps31 @Tryz.results31 ?_
 refine rs1 @aj.v.eq_1 ?_
 refine ah.rel [0] (zn hB (by omega) hc s.ab hsm (by omega) (by omega)) (by decide) ⟨leO, leO, trivial⟩ (dj rfl) rfl (fun r hout hΦ => ?_)
 obtain ⟨x, c1, hx, hc1, rfl, rfl⟩ := hΦ
 refine ⟨⟨⟨rfl, rfl⟩, trivial⟩, ?_⟩
 refine rs2 @Cur.ren @cm.v.eq_1 ?_
 obtain ⟨K, n, v⟩ := x
 obtain ⟨_, hn, hv⟩ := hx
 dsimp only at hn hv ⊢
 (have ct := fj n hn.i64.1 hn.i64.2; (first | refine al.at ct ⟨leA, trivial⟩ ?_ | refine ah.at ct ⟨leA, trivial⟩ ?_); clear ct)
 refine rs1 @Cur.ren ?_
 (have ct := fj v hv.i64.1 hv.i64.2; (first | refine al.at ct ⟨leA, trivial⟩ ?_ | refine ah.at ct ⟨leA, trivial⟩ ?_); clear ct)
 refine rs1 @Cur.ren ?_
 refine ij hB hc1 (by omega) 6 (by omega) rfl (fun vc2 c2 pvc2 hc2 => ?_)
 refine rs1 @Cur.ren ?_
 have sn := jh (n := n) (by have := hn.i64; omega) (by have := hn.i64; omega)
 have sv := jh (n := v) (by have := hv.i64; omega) (by have := hv.i64; omega)
 have hcases : vc2 = 4 ∨ vc2 = 5 ∨ (vc2 = 0 ∨ vc2 = 1 ∨ vc2 = 2 ∨ vc2 = 3) := by omega
 have hcc : ∀ {x : ByteArray} {y : ByteArray} {h : Hp}, h[0]? = some (some (c2.cs B)) → x.size ≤ 10 → y.size ≤ 21 → xr 1 (.str (x ++ y)) h (apw B 100 (k + 60)) := fun h0 hx hy => ph h0 (by rw [ByteArray.size_append]; omega) (fi hc2 (by omega))
 have hcd : ∀ {x y z w : ByteArray} {h : Hp}, h[0]? = some (some (c2.cs B)) → x.size ≤ 10 → y.size ≤ 21 → z.size ≤ 10 → w.size ≤ 21 → xr 1 (.str (x ++ y ++ z ++ w)) h (apw B 100 (k + 60)) := fun h0 hx hy hz hw => ph h0 (by simp only [ByteArray.size_append]; omega) (fi hc2 (by omega))
 rcases hcases with rfl | rfl | hv4
 · refine rs0 ?_
   have pc3 := afg hB (hcb hc2 (by omega)) [⟨#[110, 111, 119]⟩, ⟨#[112, 111, 115, 116, 115]⟩, ⟨#[116, 111, 100, 111]⟩, ⟨#[115, 116, 97, 116, 101, 115]⟩, ⟨#[108, 111, 110, 103, 101, 115, 116]⟩, ⟨#[116, 101, 120, 116, 32]⟩ ++ num n] (by simp) (by simp); have hc3 := dm (B := B) (n := (([⟨#[110, 111, 119]⟩, ⟨#[112, 111, 115, 116, 115]⟩, ⟨#[116, 111, 100, 111]⟩, ⟨#[115, 116, 97, 116, 101, 115]⟩, ⟨#[108, 111, 110, 103, 101, 115, 116]⟩, ⟨#[116, 101, 120, 116, 32]⟩ ++ num n] : List ByteArray).length : Int)) hc2; have pvc3 := w5 hB (K := [⟨#[110, 111, 119]⟩, ⟨#[112, 111, 115, 116, 115]⟩, ⟨#[116, 111, 100, 111]⟩, ⟨#[115, 116, 97, 116, 101, 115]⟩, ⟨#[108, 111, 110, 103, 101, 115, 116]⟩, ⟨#[116, 101, 120, 116, 32]⟩ ++ num n]) (by simp) hc2.1; generalize ofV B [⟨#[110, 111, 119]⟩, ⟨#[112, 111, 115, 116, 115]⟩, ⟨#[116, 111, 100, 111]⟩, ⟨#[115, 116, 97, 116, 101, 115]⟩, ⟨#[108, 111, 110, 103, 101, 115, 116]⟩, ⟨#[116, 101, 120, 116, 32]⟩ ++ num n] c2 = vc3 at pc3 pvc3; generalize ff B (([⟨#[110, 111, 119]⟩, ⟨#[112, 111, 115, 116, 115]⟩, ⟨#[116, 111, 100, 111]⟩, ⟨#[115, 116, 97, 116, 101, 115]⟩, ⟨#[108, 111, 110, 103, 101, 115, 116]⟩, ⟨#[116, 101, 120, 116, 32]⟩ ++ num n] : List ByteArray).length : Int) c2 = c3 at pc3 hc3; (first | refine ah.di [0, 1] false pc3 (by decide) ⟨leO, leO, trivial⟩ (br rfl rfl) (bp B _ _) (.inl rfl) ?_ | refine ah.di [0, 2] false pc3 (by decide) ⟨leO, leO, trivial⟩ (br rfl rfl) (bp B _ _) (.inl rfl) ?_ | refine ah.di [0, 3] false pc3 (by decide) ⟨leO, leO, trivial⟩ (br rfl rfl) (bp B _ _) (.inl rfl) ?_ | refine ah.di [0, 4] false pc3 (by decide) ⟨leO, leO, trivial⟩ (br rfl rfl) (bp B _ _) (.inl rfl) ?_ | refine ah.di [0, 5] false pc3 (by decide) ⟨leO, leO, trivial⟩ (br rfl rfl) (bp B _ _) (.inl rfl) ?_ | refine ah.di [0, 6] false pc3 (by decide) ⟨leO, leO, trivial⟩ (br rfl rfl) (bp B _ _) (.inl rfl) ?_ | refine ah.di [0, 7] false pc3 (by decide) ⟨leO, leO, trivial⟩ (br rfl rfl) (bp B _ _) (.inl rfl) ?_ | refine ah.di [0, 8] false pc3 (by decide) ⟨leO, leO, trivial⟩ (br rfl rfl) (bp B _ _) (.inl rfl) ?_)
   refine rs1 @Cur.ren ?_
   have hz : vc3.size ≤ 100 := by
    simp only [List.mem_cons, List.mem_nil_iff, or_false] at pvc3
    rcases pvc3 with rfl | rfl | rfl | rfl | rfl | rfl
    · decide
    · decide
    · decide
    · decide
    · decide
    · rw [ByteArray.size_append]
      have : (⟨#[116, 101, 120, 116, 32]⟩ : ByteArray).size = 5 := rfl
      omega
   exact ph rfl hz (fi hc3 (by omega))
 · refine rs0 ?_
   have pc3 := afg hB (hcb hc2 (by omega)) [⟨#[]⟩, ⟨#[119, 104, 97, 116]⟩, ⟨#[108, 111, 99, 97, 116, 101, 32, 49]⟩, ⟨#[119, 97, 105, 116, 32, 120]⟩, ⟨#[119, 97, 105, 116, 32, 48]⟩, ⟨#[100, 111, 119, 110, 32, 48]⟩, ⟨#[114, 101, 118, 105, 101, 119]⟩, ⟨#[97, 64, 98]⟩, ⟨#[115, 104, 111, 99, 107, 32, 49]⟩, ⟨#[112, 117, 98, 108, 105, 115, 104, 32, 49, 32, 50]⟩, ⟨#[116, 101, 120, 116, 32, 45, 49]⟩] (by simp) (by simp); have hc3 := dm (B := B) (n := (([⟨#[]⟩, ⟨#[119, 104, 97, 116]⟩, ⟨#[108, 111, 99, 97, 116, 101, 32, 49]⟩, ⟨#[119, 97, 105, 116, 32, 120]⟩, ⟨#[119, 97, 105, 116, 32, 48]⟩, ⟨#[100, 111, 119, 110, 32, 48]⟩, ⟨#[114, 101, 118, 105, 101, 119]⟩, ⟨#[97, 64, 98]⟩, ⟨#[115, 104, 111, 99, 107, 32, 49]⟩, ⟨#[112, 117, 98, 108, 105, 115, 104, 32, 49, 32, 50]⟩, ⟨#[116, 101, 120, 116, 32, 45, 49]⟩] : List ByteArray).length : Int)) hc2; have pvc3 := w5 hB (K := [⟨#[]⟩, ⟨#[119, 104, 97, 116]⟩, ⟨#[108, 111, 99, 97, 116, 101, 32, 49]⟩, ⟨#[119, 97, 105, 116, 32, 120]⟩, ⟨#[119, 97, 105, 116, 32, 48]⟩, ⟨#[100, 111, 119, 110, 32, 48]⟩, ⟨#[114, 101, 118, 105, 101, 119]⟩, ⟨#[97, 64, 98]⟩, ⟨#[115, 104, 111, 99, 107, 32, 49]⟩, ⟨#[112, 117, 98, 108, 105, 115, 104, 32, 49, 32, 50]⟩, ⟨#[116, 101, 120, 116, 32, 45, 49]⟩]) (by simp) hc2.1; generalize ofV B [⟨#[]⟩, ⟨#[119, 104, 97, 116]⟩, ⟨#[108, 111, 99, 97, 116, 101, 32, 49]⟩, ⟨#[119, 97, 105, 116, 32, 120]⟩, ⟨#[119, 97, 105, 116, 32, 48]⟩, ⟨#[100, 111, 119, 110, 32, 48]⟩, ⟨#[114, 101, 118, 105, 101, 119]⟩, ⟨#[97, 64, 98]⟩, ⟨#[115, 104, 111, 99, 107, 32, 49]⟩, ⟨#[112, 117, 98, 108, 105, 115, 104, 32, 49, 32, 50]⟩, ⟨#[116, 101, 120, 116, 32, 45, 49]⟩] c2 = vc3 at pc3 pvc3; generalize ff B (([⟨#[]⟩, ⟨#[119, 104, 97, 116]⟩, ⟨#[108, 111, 99, 97, 116, 101, 32, 49]⟩, ⟨#[119, 97, 105, 116, 32, 120]⟩, ⟨#[119, 97, 105, 116, 32, 48]⟩, ⟨#[100, 111, 119, 110, 32, 48]⟩, ⟨#[114, 101, 118, 105, 101, 119]⟩, ⟨#[97, 64, 98]⟩, ⟨#[115, 104, 111, 99, 107, 32, 49]⟩, ⟨#[112, 117, 98, 108, 105, 115, 104, 32, 49, 32, 50]⟩, ⟨#[116, 101, 120, 116, 32, 45, 49]⟩] : List ByteArray).length : Int) c2 = c3 at pc3 hc3; (first | refine ah.di [0, 1] false pc3 (by decide) ⟨leO, leO, trivial⟩ (br rfl rfl) (bp B _ _) (.inl rfl) ?_ | refine ah.di [0, 2] false pc3 (by decide) ⟨leO, leO, trivial⟩ (br rfl rfl) (bp B _ _) (.inl rfl) ?_ | refine ah.di [0, 3] false pc3 (by decide) ⟨leO, leO, trivial⟩ (br rfl rfl) (bp B _ _) (.inl rfl) ?_ | refine ah.di [0, 4] false pc3 (by decide) ⟨leO, leO, trivial⟩ (br rfl rfl) (bp B _ _) (.inl rfl) ?_ | refine ah.di [0, 5] false pc3 (by decide) ⟨leO, leO, trivial⟩ (br rfl rfl) (bp B _ _) (.inl rfl) ?_ | refine ah.di [0, 6] false pc3 (by decide) ⟨leO, leO, trivial⟩ (br rfl rfl) (bp B _ _) (.inl rfl) ?_ | refine ah.di [0, 7] false pc3 (by decide) ⟨leO, leO, trivial⟩ (br rfl rfl) (bp B _ _) (.inl rfl) ?_ | refine ah.di [0, 8] false pc3 (by decide) ⟨leO, leO, trivial⟩ (br rfl rfl) (bp B _ _) (.inl rfl) ?_)
   refine rs1 @Cur.ren ?_
   exact ph rfl (wg pvc3 (by rfl)) (fi hc3 (by omega))
 · rcases hv4 with rfl | rfl | rfl | rfl <;> refine rs0 ?_
   all_goals repeat' (refine ay.split (fun h6 => ?_) (fun h6 => ?_) <;> refine rs1 @h6 ?_)
   all_goals first
    | exact hcc rfl (by decide) sn
    | exact hcc rfl (by decide) sv
    | exact hcd rfl (by decide) sn (by decide) sv
    | exact ph rfl (by decide) (fi hc2 (by omega))
end Go.Proofs
end
section
set_option maxRecDepth 100000
set_option maxHeartbeats 4000000
namespace Go.Proofs
open Go.Lv
def aj.zs : List V := [.int .i64 0, .nilsl, .nilsl, .int .i64 0, .int .i64 0, .str ByteArray.empty, .str ByteArray.empty, .int .i64 0]
def avk (B : List Int) (k : Int) (r : V) (hout : Hp) : Prop := ∃ (s : aj) (c : Cur), dC 7 s ∧ c.le k ∧ r = s.v ∧ hout = [some (c.cs B)]
theorem y8 {B : List Int} {k : Int} {h : Hp} {s : aj} {c : Cur} (h0 : h[0]? = some (some (c.cs B))) (hs : dC 7 s) (hc : c.le k) : xr 1 (.agg s.cs) h (avk B k) := by
 refine ⟨_, _, ⟨s, c, hs, hc, rfl, rfl⟩, ak.pick [0] (by decide) (fun j hj => by cases j <;> simp_all) (.inl ?_) ?_⟩
 · simp [ren, aj.v, aj.cs]
 · simp only [az, List.map_cons, List.map_nil, bg, h0, Cur.ren]
theorem dC.mono {m n : Nat} {s : aj} (h : dC m s) (hmn : m ≤ n) : dC n s := by
 obtain ⟨h1, h2, h3, h4, h5⟩ := h
 exact ⟨h1, h2, h3, by omega, h5⟩
theorem akr {B : List Int} (hB : CB B) {k : Int} (hk : k ≤ 90000) {c : Cur} (hc : c.le k) : mg Tryz.prog 27 [.ptr 0 0] [some (c.cs B)] (avk B (k + 4000)) := by
 have hcb : ∀ {c' : Cur} {k' : Int}, c'.le k' → k' ≤ 4000000 → c'.le 4611686018427387903 := fun h h' => ⟨h.1, by have := h.2; omega⟩
 refine mg.intro Tryz.mixed Tryz.func27 rfl Tryz.a5l ?_
 refine ev2 @Tryz.ntmps27 @Tryz.results27 ?_
 refine rs0 ?_
 refine ah.rel [0] (aqo hB (by omega) hc) (by decide) ⟨leO, trivial⟩ (dj rfl) rfl (fun r hout hΦ => ?_)
 obtain ⟨w, c1, hw, hwp, hws, hc1, rfl, rfl⟩ := hΦ
 refine ⟨⟨⟨rfl, rfl⟩, trivial⟩, ?_⟩
 refine rs2 @Cur.ren @ab.v.eq_1 ?_
 refine ij hB hc1 (by omega) 7 (by omega) rfl (fun vc2 c2 pvc2 hc2 => ?_)
 refine rs1 @Cur.ren ?_
 obtain ⟨n0, hn0⟩ : ∃ n : Nat, vc2 = n := ⟨vc2.toNat, by omega⟩
 subst hn0
 have hs0 : dC 0 ⟨w, ⟨ByteArray.empty, ByteArray.empty, 0⟩⟩ := ⟨hw, ⟨hwp, hws⟩, by simp, by simp, by simp [bt]⟩
 refine dr.intro (fun x : Nat × aj × Cur => x.1 ≤ 7 ∧ dC (7 - x.1) x.2.1 ∧ x.2.2.le (k + 2002 + 100 * (7 - (x.1 : Int)))) (fun x => ⟨(.ptr 0 0 :: .undef :: .ptr 1 0 :: .ptr 2 0 :: .int .i64 x.1 :: (un 27 [])), [some (x.2.2.cs B), some aj.zs, some x.2.1.cs], 1⟩) (fun x => x.1) (n0, ⟨w, ⟨ByteArray.empty, ByteArray.empty, 0⟩⟩, c2) ⟨by simp only []; omega, hs0.mono (by omega), cf hc2 (by simp only []; omega)⟩ ?_ (fun x hx => ?_)
 · refine au.cut (3) (by simp) (by simp) ?_ ?_
   · simp [LeC, LeV, ren, bq]
   · simp [bz, cw, Cur.ren, ren, aj.zs, aj.cs]
 obtain ⟨n, s, c3⟩ := x
 obtain ⟨x1, hs, hc3⟩ := hx
 dsimp only at x1 hs hc3
 have hg := tz s (hs.fits (by omega))
 refine ev1 @aj.cs.eq_1 ?_
 by_cases hn : n = 0
 · subst hn
   have hd : decide ((0 : Int) < ((0 : Nat) : Int)) = false := rfl
   refine rs2 @hd @aj.cs.eq_1 ?_
   refine dt hB hc3 (by omega) 24 (by omega) rfl (fun vc5 c5 hc5 => ?_)
   refine rs2 @Cur.ren @aj.cs.eq_1 ?_
   refine ay.split (fun h6 => ?_) (fun h6 => ?_)
   · refine rs2 @h6 @aj.cs.eq_1 ?_
     refine ah.rel [0] (afj hB (by omega) hc5) (by decide) ⟨leO, trivial⟩ (dj rfl) rfl (fun r hout hΦ => ?_)
     obtain ⟨l, c6, y1, y2, y3, hc6, rfl, rfl⟩ := hΦ
     refine ⟨⟨⟨rfl, rfl⟩, trivial⟩, ?_⟩
     refine rs3 @Cur.ren @aj.cs.eq_1 @Log.v.eq_1 ?_
     exact ⟨by decide, y8 rfl ((hs.log y1 y2 y3).mono (by omega)) (fi hc6 (by omega))⟩
   · refine rs2 @h6 @aj.cs.eq_1 ?_
     exact ⟨by decide, y8 rfl (hs.mono (by omega)) (fi hc5 (by omega))⟩
 · have hd : decide ((0 : Int) < (n : Int)) = true := decide_eq_true (by omega)
   refine rs2 @hd @aj.cs.eq_1 ?_
   (first | refine al.at (hg) ⟨leA, trivial⟩ ?_ | refine ah.at (hg) ⟨leA, trivial⟩ ?_)
   refine rs0 ?_
   cases hb : np s with
   | false =>
    refine rs0 ?_
    refine dt hB hc3 (by omega) 24 (by omega) rfl (fun vc5 c5 hc5 => ?_)
    refine rs2 @Cur.ren @aj.cs.eq_1 ?_
    refine ay.split (fun h6 => ?_) (fun h6 => ?_)
    · refine rs2 @h6 @aj.cs.eq_1 ?_
      refine ah.rel [0] (afj hB (by omega) hc5) (by decide) ⟨leO, trivial⟩ (dj rfl) rfl (fun r hout hΦ => ?_)
      obtain ⟨l, c6, y1, y2, y3, hc6, rfl, rfl⟩ := hΦ
      refine ⟨⟨⟨rfl, rfl⟩, trivial⟩, ?_⟩
      refine rs3 @Cur.ren @aj.cs.eq_1 @Log.v.eq_1 ?_
      exact ⟨by decide, y8 rfl ((hs.log y1 y2 y3).mono (by omega)) (fi hc6 (by omega))⟩
    · refine rs2 @h6 @aj.cs.eq_1 ?_
      exact ⟨by decide, y8 rfl (hs.mono (by omega)) (fi hc5 (by omega))⟩
   | true =>
    refine rs0 ?_
    have hfs := hs.fits (by omega)
    refine clT.tree (fun s2 => ∃ (s' : aj) (c4 : Cur), dC (7 - n + 1) s' ∧ c4.le (k + 2002 + 100 * (7 - (n : Int)) + 60) ∧ s2 = ⟨(.ptr 0 0 :: .undef :: .ptr 1 0 :: .ptr 2 0 :: .int .i64 n :: (un 27 [])), [some (c4.cs B), some aj.zs, some s'.cs], 1⟩) (.take 1 (.alt 0 (.alt 2 (.alt 3 (.alt 4 (.take 5 (.take 6 (.take 7 (.alt 8 .done .stop)))) .stop) .stop) .stop) (.alt 2 (.alt 0 (.alt 3 (.alt 4 (.take 5 (.take 6 (.take 7 (.alt 8 .done .stop)))) .stop) .stop) (.alt 3 (.alt 0 (.alt 4 (.take 5 (.take 6 (.take 7 (.alt 8 .done .stop)))) .stop) .stop) .stop)) .stop))) (by kernel_rfl) (fun s2 hs2 => ?_) ?_
    · obtain ⟨s', c4, hs', hc4, rfl⟩ := hs2
      have hn1 : ((n - 1 : Nat) : Int) = (n : Int) - 1 := by omega
      refine rs1 @aj.cs.eq_1 ?_
      refine ⟨(n - 1, s', c4), ⟨by simp only []; omega, hs'.mono (by simp only []; omega), fi hc4 (by simp only []; omega)⟩, ?_, by simp only []; omega⟩
      refine au.cut (3) (by simp) (by simp) ?_ ?_
      · simp [LeC, LeV, ren, bq, hn1]
      · simp [bz, cw, bq, Cur.ren, ren, aj.zs, aj.cs]
    · refine rs1 @aj.cs.eq_1 ?_
      repeat' (first | (refine ah.rel [0] (xm hB (by omega) hc3 s hs) (by decide) ⟨leO, leO, trivial⟩ (dj rfl) rfl (fun r hout hΦ => ?_); obtain ⟨line, c4, hl, hc4, rfl, rfl⟩ := hΦ; refine ⟨⟨⟨rfl, rfl⟩, trivial⟩, ?_⟩; have cs := ajp s line hfs (by omega); refine rs3 @Cur.ren @aj.v.eq_1 @aj.cs.eq_1 ?_) | ((first | refine al.at (cs) ⟨leA, leA, trivial⟩ ?_ | refine ah.at (cs) ⟨leA, leA, trivial⟩ ?_); refine rs3 @Cur.ren @aj.v.eq_1 @aj.cs.eq_1 ?_) | (refine And.intro ?_ ?_) | exact trivial)
      all_goals
       refine ⟨_, ⟨(eb s line).1, c4, hs.exec line, fi hc4 (by omega), rfl⟩, ?_⟩
       refine au.cut (3) (by simp) (by simp) ?_ ?_
       · simp [LeC, LeV, ren, bq]
       · simp [bz, cw, bq, Cur.ren, ren, aj.zs, aj.cs]
end Go.Proofs
end
section
set_option maxRecDepth 100000
set_option maxHeartbeats 4000000
namespace Go.Proofs
open Go.Lv
def ax3 (r : V) (hout : Hp) : Prop := ∃ (c : aj) (line : ByteArray), dC 7 c ∧ line.size ≤ 101 ∧ r = .tup [c.v, .str line] ∧ hout = []
theorem u0 {B : List Int} (hB : CB B) : mg Tryz.prog 7 [ByteS.sl B] [] ax3 := by
 have hcb : ∀ {c' : Cur} {k' : Int}, c'.le k' → k' ≤ 4000000 → c'.le 4611686018427387903 := fun h h' => ⟨h.1, by have := h.2; omega⟩
 obtain ⟨c, hcd⟩ : ∃ c : Cur, c = ⟨0, 0⟩ := ⟨_, rfl⟩
 have hc : c.le 0 := by rw [hcd]; exact ⟨Int.le_refl 0, Int.le_refl 0⟩
 have hcc : c.cs B = [ByteS.sl B, .int .i64 0, .int .u64 0] := by rw [hcd]; rfl
 refine mg.intro Tryz.mixed Tryz.func7 rfl Tryz.okF7 ?_
 refine ev2 @Tryz.ntmps7 @Tryz.results7 ?_
 refine rs1 @ByteS.sl.eq_1 ?_
 rw [← ByteS.sl, ← hcc]

 refine ah.rel [1] (akr hB (by omega) hc) (by decide) ⟨leO, trivial⟩ (dj rfl) rfl (fun r hout hΦ => ?_)
 obtain ⟨s, c1, hs, hc1, rfl, rfl⟩ := hΦ
 refine ⟨⟨⟨rfl, rfl⟩, trivial⟩, ?_⟩
 refine rs2 @Cur.ren @aj.v.eq_1 ?_
 refine dt hB hc1 (by omega) 40 (by omega) rfl (fun vc2 c2 hc2 => ?_)
 refine rs1 @Cur.ren ?_
 refine ay.split (fun h1 => ?_) (fun h1 => ?_)
 · refine rs1 @h1 ?_
   refine ij hB hc2 (by omega) 2 (by omega) rfl (fun vc3 c3 pvc3 hc3 => ?_)
   refine rs1 @Cur.ren ?_
   obtain ⟨j, hj⟩ : ∃ j : Nat, vc3 = j := ⟨vc3.toNat, by omega⟩
   subst hj
   have hw : IntKind.i64.wrap (59 + (j : Int)) = ((59 + j : Nat) : Int) := by rw [wrap_i64 (by omega) (by omega)]; omega
   refine rs1 @hw ?_
   refine dr.intro (fun x : Nat × Log => x.1 ≤ 61 ∧ x.2.Durable.size ≤ 40000 ∧ x.2.Pending.size ≤ 40000 ∧ bt x.2.Count) (fun x => ⟨(.undef :: .undef :: .ptr 0 0 :: .undef :: .ptr 1 0 :: .ptr 2 0 :: .ptr 3 0 :: .int .i64 x.1 :: (un 34 [])), [some aj.zs, some (c3.cs B), some s.cs, some x.2.cs], 0⟩) (fun x => x.1) (59 + j, ⟨ByteArray.empty, ByteArray.empty, 0⟩) ⟨by simp only []; omega, by simp, by simp, by simp [bt]⟩ ?_ (fun x hx => ?_)
   · refine au.cut (4) (by simp) (by simp) ?_ ?_
     · simp [LeC, LeV, ren, bq]
     · simp [bz, cw, Cur.ren, ren, aj.zs, aj.cs, Log.cs]
   obtain ⟨n, l2⟩ := x
   obtain ⟨z0, z1, z2, z3⟩ := hx
   dsimp only at z0 z1 z2 z3
   refine ev0 ?_
   refine ay.split (fun h3 => ?_) (fun h3 => ?_)
   · have hn : 0 < n := by have := of_decide_eq_true h3; omega
     refine rs2 @h3 @Log.cs.eq_1 ?_
     obtain ⟨l3, n3, e3, w1, w2, w3⟩ := acy l2 ⟨⟨#[120]⟩, ByteArray.empty⟩ z1 z2 z3
     have ha := n5 l2 ⟨⟨#[120]⟩, ByteArray.empty⟩ (by omega) (by omega) (by decide) (by simp)
     rw [e3] at ha
     (first | refine al.at (ha) ⟨leA, leA, trivial⟩ ?_ | refine ah.at (ha) ⟨leA, leA, trivial⟩ ?_)
     refine rs1 @Log.v.eq_1 ?_
     have hn1 : ((n - 1 : Nat) : Int) = (n : Int) - 1 := by omega
     refine ⟨(n - 1, l3), ⟨by simp only []; omega, w1, w2, w3⟩, ?_, by simp only []; omega⟩
     refine au.cut (4) (by simp) (by simp) ?_ ?_
     · simp [LeC, LeV, ren, bq, hn1]
     · simp [bz, cw, Cur.ren, ren, aj.zs, aj.cs, Log.cs]
   · refine rs4 @h3 @aj.cs.eq_1 @Log.cs.eq_1 @aj.zs.eq_1 ?_
     have hc9 : c3.le 5000 := fi hc3 (by omega)
     have hs9 := hs.log (l := l2) (by omega) (by omega) z3
     refine ah.rel [1] (xm hB (by omega) hc9 _ hs9) (by decide) ⟨leO, leO, trivial⟩ (dj rfl) rfl (fun r hout hΦ => ?_)
     obtain ⟨line, c5, hl, hc5, rfl, rfl⟩ := hΦ
     refine ⟨⟨⟨rfl, rfl⟩, trivial⟩, ?_⟩
     refine rs1 @Cur.ren ?_
     refine dt hB hc5 (by omega) 8 (by omega) rfl (fun vc6 c6 hc6 => ?_)
     refine rs1 @Cur.ren ?_
     refine ay.split (fun h6 => ?_) (fun h6 => ?_)
     · refine rs1 @h6 ?_
       refine ah.rel [1] (aah hB (by omega) hc6 line ⟨#[32, 48, 49, 97, 64, 35, 44]⟩ (by omega) (by decide)) (by decide) ⟨leO, leO, leO, trivial⟩ (dj rfl) rfl (fun r hout hΦ => ?_)
       obtain ⟨line2, c7, hl2, hc7, rfl, rfl⟩ := hΦ
       refine ⟨⟨⟨rfl, rfl⟩, trivial⟩, ?_⟩
       refine rs1 @Cur.ren ?_
       exact ⟨_, _, ⟨_, line2, hs9, by omega, rfl, rfl⟩, ak.aq rfl (by rfl)⟩
     · refine rs1 @h6 ?_
       exact ⟨_, _, ⟨_, line, hs9, by omega, rfl, rfl⟩, ak.aq rfl (by rfl)⟩
 · refine rs1 @h1 ?_
   have hc9 : c2.le 5000 := fi hc2 (by omega)
   have hs9 := hs
   refine ah.rel [1] (xm hB (by omega) hc9 _ hs9) (by decide) ⟨leO, leO, trivial⟩ (dj rfl) rfl (fun r hout hΦ => ?_)
   obtain ⟨line, c5, hl, hc5, rfl, rfl⟩ := hΦ
   refine ⟨⟨⟨rfl, rfl⟩, trivial⟩, ?_⟩
   refine rs1 @Cur.ren ?_
   refine dt hB hc5 (by omega) 8 (by omega) rfl (fun vc6 c6 hc6 => ?_)
   refine rs1 @Cur.ren ?_
   refine ay.split (fun h6 => ?_) (fun h6 => ?_)
   · refine rs1 @h6 ?_
     refine ah.rel [1] (aah hB (by omega) hc6 line ⟨#[32, 48, 49, 97, 64, 35, 44]⟩ (by omega) (by decide)) (by decide) ⟨leO, leO, leO, trivial⟩ (dj rfl) rfl (fun r hout hΦ => ?_)
     obtain ⟨line2, c7, hl2, hc7, rfl, rfl⟩ := hΦ
     refine ⟨⟨⟨rfl, rfl⟩, trivial⟩, ?_⟩
     refine rs1 @Cur.ren ?_
     exact ⟨_, _, ⟨_, line2, hs9, by omega, rfl, rfl⟩, ak.aq rfl (by rfl)⟩
   · refine rs1 @h6 ?_
     exact ⟨_, _, ⟨_, line, hs9, by omega, rfl, rfl⟩, ak.aq rfl (by rfl)⟩
end Go.Proofs
end
section
set_option maxRecDepth 100000
set_option maxHeartbeats 2000000
namespace Go.Proofs
open Go.Lv
theorem ali (L : List Int) : Ctr Tryz.prog 6 [ByteS.sl L] [] (.bool (decide (65536 < (L.length : Int)))) [] := by
 refine Ctr.intro Tryz.mixed Tryz.func6 rfl Tryz.okF6 ?_
 refine ev2 @Tryz.ntmps6 @Tryz.results6 ?_
 refine rn0 ?_
 exact ak.aq rfl (by rfl)
theorem am5 (L : List bf) (hl : L.length ≤ 1048576) : Ctr Tryz.prog 85 [bf.sl L, bf.sl L] [] (.bool true) [] := by
 refine Ctr.intro Tryz.mixed Tryz.func85 rfl Tryz.a5v ?_
 refine ev2 @Tryz.ntmps85 @Tryz.results85 ?_
 refine rn0 ?_
 refine dr.intro (fun i : Nat => i ≤ L.length) (fun i => ⟨(bf.sl L :: bf.sl L :: (un 3 (.int .i64 i :: (un 20 [])))), [], 0⟩) (fun i => L.length - i) 0 (Nat.zero_le _) ?_ (fun i hi => ?_)
 · refine au.cut (0) (by simp) (by simp) ?_ ?_
   · simp [LeC, LeV, ren, bq]
   · rfl
 refine ev0 ?_
 refine ay.split (fun h1 => ?_) (fun h1 => ?_)
 · have hi' : i < L.length := by simpa using h1
   have hr := bw bf.csl hi'
   refine rn3 @h1 @hr @bf.cs.eq_1 ?_
   refine ⟨i + 1, hi', ?_, by omega⟩
   refine au.cut (0) (by simp) (by simp) ?_ ?_
   · simp [LeC, LeV, ren, bq]
   · rfl
 · refine rn1 @h1 ?_
   exact ak.aq rfl (by rfl)
theorem ako (L : List ai) (hl : L.length ≤ 1048576) : Ctr Tryz.prog 86 [ai.sl L, ai.sl L] [] (.bool true) [] := by
 refine Ctr.intro Tryz.mixed Tryz.func86 rfl Tryz.a5p ?_
 refine ev2 @Tryz.ntmps86 @Tryz.results86 ?_
 refine rn0 ?_
 refine dr.intro (fun i : Nat => i ≤ L.length) (fun i => ⟨(ai.sl L :: ai.sl L :: (un 3 (.int .i64 i :: (un 20 [])))), [], 0⟩) (fun i => L.length - i) 0 (Nat.zero_le _) ?_ (fun i hi => ?_)
 · refine au.cut (0) (by simp) (by simp) ?_ ?_
   · simp [LeC, LeV, ren, bq]
   · rfl
 refine ev0 ?_
 refine ay.split (fun h1 => ?_) (fun h1 => ?_)
 · have hi' : i < L.length := by simpa using h1
   have hr := bw ai.csl hi'
   refine rn3 @h1 @hr @ai.cs.eq_1 ?_
   refine ⟨i + 1, hi', ?_, by omega⟩
   refine au.cut (0) (by simp) (by simp) ?_ ?_
   · simp [LeC, LeV, ren, bq]
   · rfl
 · refine rn1 @h1 ?_
   exact ak.aq rfl (by rfl)
theorem ank (w : ab) (hp : w.Posts.length ≤ 1048576) (hs : w.Shocks.length ≤ 1048576) : Ctr Tryz.prog 41 [w.v, w.v] [] (.bool true) [] := by
 refine Ctr.intro Tryz.mixed Tryz.func41 rfl Tryz.a1a ?_
 refine ev2 @Tryz.ntmps41 @Tryz.results41 ?_
 refine rn1 @ab.v.eq_1 ?_
 (have ct := am5 w.Posts hp; (first | refine al.at ct ⟨leA, leA, trivial⟩ ?_ | refine ah.at ct ⟨leA, leA, trivial⟩ ?_); clear ct)
 refine rn0 ?_
 (have ct := ako w.Shocks hs; (first | refine al.at ct ⟨leA, leA, trivial⟩ ?_ | refine ah.at ct ⟨leA, leA, trivial⟩ ?_); clear ct)
 refine rn0 ?_
 exact ak.aq rfl (by rfl)
end Go.Proofs
end
section
set_option maxRecDepth 100000
set_option maxHeartbeats 2000000
namespace Go.Proofs
open Go.Lv
theorem ah1 (c : aj) (hp : c.ab.Posts.length ≤ 1048576) (hs : c.ab.Shocks.length ≤ 1048576) : Ctr Tryz.prog 10 [c.v, c.v] [] (.bool true) [] := by
 refine Ctr.intro Tryz.mixed Tryz.func10 rfl Tryz.a4c ?_
 refine ev2 @Tryz.ntmps10 @Tryz.results10 ?_
 refine rn1 @aj.v.eq_1 ?_
 (have ct := ank c.ab hp hs; (first | refine al.at ct ⟨leA, leA, trivial⟩ ?_ | refine ah.at ct ⟨leA, leA, trivial⟩ ?_); clear ct)
 refine rn1 @beq_self_eq_true.{0} ?_
 exact ak.aq (by simp) (by rfl)
end Go.Proofs
end
section
set_option maxRecDepth 100000
set_option maxHeartbeats 4000000
namespace Go.Proofs
open Go.Lv
theorem aei {l : Log} (h : j7 l = true) : ow l = some (cr (l.Durable ++ l.Pending)) := by
 unfold ow
 rw [if_pos h]
theorem a1p {m : Nat} {c : aj} (h : dC m c) (hm : m ≤ 1000) : c.ab.Posts.length ≤ 1048576 ∧ c.ab.Shocks.length ≤ 1048576 ∧ c.Log.Durable.size ≤ 4194304 ∧ c.Log.Pending.size ≤ 4194304 := dC.fits h hm
theorem abu (L : List Int) (hL : aem ByteS.ok L) : Ctr Tryz.prog 3 [ByteS.sl L] [] (.bool true) [] := by
 have hB : CB L := hL
 refine Ctr.intro Tryz.mixed Tryz.func3 rfl Tryz.okF3 ?_
 refine ev2 @Tryz.ntmps3 @Tryz.results3 ?_
 refine rn0 ?_
 (first | refine al.at (ali L) ⟨leA, trivial⟩ ?_ | refine ah.at (ali L) ⟨leA, trivial⟩ ?_)
 refine rn0 ?_
 refine ay.split (fun h1 => ?_) (fun h1 => ?_) <;> refine rn1 @h1 ?_
 · exact ak.aq rfl (by rfl)
 refine ah.rel [] (u0 hB) (by decide) ⟨leO, trivial⟩ rfl rfl (fun r hout hΦ => ?_)
 obtain ⟨c, line, hc, hln, rfl, rfl⟩ := hΦ
 refine ⟨trivial, ?_⟩
 have hf := hc.fits (by omega)
 have hx := hc.exec line
 obtain ⟨m1, m2, m3, m4⟩ := a1p hx (by omega)
 have hi := ane c line hf (by omega)
 have hs := ajp c line hf (by omega)
 have hv := ah1 (eb c line).1 m1 m2
 have hvi := e8 c hf
 have hvs := xt c hf
 have hex := ab8 c line
 have hrc := fun h0 h1 h2 h3 h4 => aqw (c := c) (line := line) h0 h1 h2 h3 h4
 have hvm := e8 (eb c line).1 ⟨m1, m2, m3, m4⟩
 have hlr := aea (eb c line).1.Log m3 m4
 obtain ⟨m, rep, he⟩ : ∃ m rep, eb c line = (m, rep) := ⟨_, _, rfl⟩
 simp only [he] at hi hs hv hex hrc hvm hlr m1 m2 m3 m4
 refine rn1 @aj.v.eq_1 ?_
 (first | refine al.at (hi) ⟨leA, leA, trivial⟩ ?_ | refine ah.at (hi) ⟨leA, leA, trivial⟩ ?_)
 refine rn1 @aj.v.eq_1 ?_
 (first | refine al.at (hs) ⟨leA, leA, trivial⟩ ?_ | refine ah.at (hs) ⟨leA, leA, trivial⟩ ?_)
 refine rn2 @aj.v.eq_1 @beq_self_eq_true.{0} ?_
 (first | refine al.at (hv) ⟨leA, leA, trivial⟩ ?_ | refine ah.at (hv) ⟨leA, leA, trivial⟩ ?_)
 refine rn1 @aj.v.eq_1 ?_
 (first | refine al.at (hvi) ⟨leA, trivial⟩ ?_ | refine ah.at (hvi) ⟨leA, trivial⟩ ?_)
 refine rn1 @aj.v.eq_1 ?_
 (first | refine al.at (hvs) ⟨leA, trivial⟩ ?_ | refine ah.at (hvs) ⟨leA, trivial⟩ ?_)
 refine rn2 @aj.v.eq_1 @bne_self_eq_false.{0} ?_
 rcases hex with ⟨rfl, hrep⟩ | ⟨g1, g2, g3, g4, _, g6⟩
 · refine rn2 @aj.v.eq_1 @beq_self_eq_true.{0} ?_
   (first | refine al.at (hv) ⟨leA, leA, trivial⟩ ?_ | refine ah.at (hv) ⟨leA, leA, trivial⟩ ?_)
   refine rn0 ?_
   have q1 : ((⟨#[98, 97, 100]⟩ : ByteArray).toList == (⟨#[110, 111]⟩ : ByteArray).toList) = false := by rw [gw]; exact decide_eq_false (fun h => absurd (congrArg ByteArray.size h) (by decide))
   have q2 : ((⟨#[102, 117, 108, 108]⟩ : ByteArray).toList == (⟨#[110, 111]⟩ : ByteArray).toList) = false := by rw [gw]; exact decide_eq_false (fun h => absurd (congrArg ByteArray.size h) (by decide))
   have q3 : ((⟨#[102, 117, 108, 108]⟩ : ByteArray).toList == (⟨#[98, 97, 100]⟩ : ByteArray).toList) = false := by rw [gw]; exact decide_eq_false (fun h => absurd (congrArg ByteArray.size h) (by decide))
   rcases hrep with rfl | rfl | rfl <;> refine rn6 @wNo.eq_1 @aon.eq_1 @ail.eq_1 @q1 @q2 @q3 ?_
   all_goals exact ak.aq (by simp [db]) (by rfl)
 · obtain ⟨k1, k2, k3⟩ := hrc g1 g2 g3 g4 g6
   have hcnt : m.Log.Count = c.Log.Count + 1 := by rw [g6]
   have hne : (m.Log.Count == c.Log.Count) = false := by rw [hcnt]; simp only [beq_eq_false_iff_ne, ne_eq]; omega
   rw [aei (l9 k1).2] at hlr
   rw [af7] at k2
   rw [k2] at hlr
   rw [k1] at hvm
   obtain ⟨R, hR⟩ : ∃ R, R = af7 c := ⟨_, rfl⟩
   rw [← hR] at hlr k3
   simp only [sq, me] at hlr
   obtain ⟨M, hM⟩ : ∃ M, M = R ++ [(⟨line, rep⟩ : aw)] := ⟨_, rfl⟩
   rw [← hM] at hlr
   have hMl : M.length = R.length + 1 := by rw [hM]; simp
   have hr : R.length < M.length := by omega
   have hMe : M[R.length] = ⟨line, rep⟩ := by simp [hM]
   have hra := bw aw.csl hr
   have hcb := lu (l9 g1).2
   have w1 : IntKind.i64.wrap (c.Log.Count + 1) = ((M.length : Nat) : Int) := by rw [wrap_i64 (by omega) (by omega)]; omega
   have w2 : IntKind.i64.wrap ((M.length : Int) - 1) = ((R.length : Nat) : Int) := by rw [wrap_i64 (by omega) (by omega)]; omega
   (repeat ((repeat1' (first | simp -implicitDefEqProofs -dsimp only [go_sem, hne, Bool.and_false] | simp -dsimp (disch := omega) only [wrap_i64])); repeat (with_reducible refine df ?_)))
   (first | refine al.at (hlr) ⟨leA, trivial⟩ ?_ | refine ah.at (hlr) ⟨leA, trivial⟩ ?_)
   refine rn1 @aj.v.eq_1 ?_
   (first | refine al.at (hvm) ⟨leA, trivial⟩ ?_ | refine ah.at (hvm) ⟨leA, trivial⟩ ?_)
   refine rn3 @w1 @w2 @beq_self_eq_true.{0} ?_
   rw [hra, hMe]
   refine rn2 @aw.cs.eq_1 @beq_self_eq_true.{0} ?_
   exact ak.aq rfl (by rfl)
end Go.Proofs
end
