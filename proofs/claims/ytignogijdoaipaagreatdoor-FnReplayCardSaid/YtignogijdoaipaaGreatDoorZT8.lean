/-
  A part of the proof: texts put together by a program of the prover. Conditions: none.
-/
import Derived.Test.YtignogijdoaipaaGreatDoorZT4
import Derived.Test.YtignogijdoaipaaGreatDoorZT5
import Derived.Test.YtignogijdoaipaaGreatDoorZT7
import Derived.Lib.AtoiAllCases
import Derived.Lib.AtoiTie
import Derived.Lib.Join
import Derived.Lib.SplitLaws
import Derived.WalkKit
set_option linter.unusedSimpArgs false
set_option linter.unusedVariables false
section
set_option maxRecDepth 100000
namespace Go.Proofs
open Go.Lv
def gm (c : UInt8) : Bool := decide (48 ≤ c.toNat) && decide (c.toNat ≤ 57)
def ae5 (n : Nat) (c : UInt8) : Nat := n * 10 + (c.toNat - 48)
def j8 (n : Nat) (l : List UInt8) : Nat := l.foldl ae5 n
theorem ll (n : Nat) : j8 n [] = n := rfl
theorem mj (n : Nat) (c : UInt8) (l : List UInt8) : j8 n (c :: l) = j8 (ae5 n c) l := List.foldl_cons ..
theorem pf (n : Nat) (c : UInt8) : ae5 n c = n * 10 + (c.toNat - 48) := rfl
theorem aaf (x y : List UInt8) (n : Nat) : j8 n (x ++ y) = j8 (j8 n x) y := List.foldl_append ..
theorem au4 (l : List UInt8) : ∀ n : Nat, n ≤ j8 n l := by
 induction l with
 | nil => intro n; rw [ll]; exact Nat.le_refl n
 | cons c l ih =>
  intro n
  have h := ih (ae5 n c)
  rw [mj]
  rw [pf] at h ⊢
  omega
theorem ai2 {u : Nat} (h : u < 10) : Lib.decDigits u = [UInt8.ofNat (48 + u)] := by rw [Lib.decDigits, dif_pos h]
theorem akx {u : Nat} (h : ¬ u < 10) : Lib.decDigits u = Lib.decDigits (u / 10) ++ [UInt8.ofNat (48 + u % 10)] := by rw [Lib.decDigits, dif_neg h]
theorem aiq {d : Nat} (h : d < 10) : (UInt8.ofNat (48 + d)).toNat = 48 + d := by
 rw [UInt8.toNat_ofNat']; omega
theorem sy : ∀ k u, u < k → (Lib.decDigits u).all gm = true ∧ j8 0 (Lib.decDigits u) = u ∧ Lib.decDigits u ≠ []
 | 0, u, h => by omega
 | k + 1, u, h => by
  by_cases hu : u < 10
  · rw [ai2 hu]
    refine ⟨?_, ?_, by simp⟩
    · simp only [List.all_cons, List.all_nil, gm, aiq hu, Bool.and_true, Bool.and_eq_true, decide_eq_true_eq]; omega
    · rw [mj, ll, pf, aiq hu]; omega
  · obtain ⟨h1, h2, h3⟩ := sy k (u / 10) (by omega)
    have hd : u % 10 < 10 := by omega
    rw [akx hu]
    refine ⟨?_, ?_, by simp⟩
    · rw [List.all_append, h1]
      simp only [List.all_cons, List.all_nil, gm, aiq hd, Bool.and_true, Bool.true_and, Bool.and_eq_true, decide_eq_true_eq]; omega
    · rw [aaf, h2]
      rw [mj, ll, pf, aiq hd]; omega
theorem akw : ∀ (l : List UInt8) (n : Nat), l.all gm = true → j8 n l < 1000000000000000000 → Lib.parseUint10 n l = .ok (j8 n l)
 | [], n, _, _ => rfl
 | c :: l, n, h, hb => by
  simp only [List.all_cons, Bool.and_eq_true, gm, decide_eq_true_eq] at h
  have hle := au4 l (ae5 n c)
  rw [mj] at hb ⊢
  have hst := pf n c
  rw [Lib.parseUint10, if_pos h.1, if_neg (by omega), if_neg (by omega)]
  rw [← hst]
  exact akw l _ (by simpa [gm] using h.2) hb
theorem zy {n : Int} (h0 : -999999999 ≤ n) (h1 : n ≤ 999999999) : Lib.atoiAll (num n).data.toList = .ok n := by
 have key : ∀ u : Nat, u ≤ 999999999 → Lib.parseMag (Lib.decDigits u) = .ok u := by
  intro u hu
  obtain ⟨d1, d2, d3⟩ := sy (u + 1) u (by omega)
  rw [Lib.parseMag, if_neg d3, akw _ _ d1 (by omega), d2]
 rcases Int.lt_or_le n 0 with hn | hn
 · obtain ⟨u, rfl⟩ : ∃ u : Nat, n = -(u : Int) := ⟨n.natAbs, by omega⟩
   have e : Lib.itoa (-(u : Int)) = 45 :: Lib.decDigits u := by unfold Lib.itoa; rw [if_pos (by omega)]; simp
   show Lib.atoiAll (Lib.itoa (-(u : Int))) = _
   rw [e, Lib.atoiAll_minus, key u (by omega), Lib.signed, if_neg (by omega)]
 · obtain ⟨u, rfl⟩ : ∃ u : Nat, n = u := ⟨n.toNat, by omega⟩
   show Lib.atoiAll (Lib.itoa (u : Int)) = _
   rw [rl]
   obtain ⟨d1, d2, d3⟩ := sy (u + 1) u (by omega)
   cases hd : Lib.decDigits u with
   | nil => exact absurd hd d3
   | cons c l =>
    have hk := key u (by omega)
    rw [hd] at hk d1
    simp only [List.all_cons, Bool.and_eq_true, gm, decide_eq_true_eq] at d1
    rw [Lib.atoiAll_plain c l (by omega) (by omega), hk, Lib.signless, if_neg (by omega)]
theorem av9 {a b : Int} (ha : -999999999 ≤ a ∧ a ≤ 999999999) (hb : -999999999 ≤ b ∧ b ≤ 999999999) (h : num a = num b) : a = b := by
 have h1 := zy ha.1 ha.2
 rw [h, zy hb.1 hb.2] at h1
 injection h1 with h1
 exact h1.symm
def aa5 (s : ByteArray) (n : Int) : Prop := -999999 ≤ n ∧ n ≤ 999999 ∧ num n = s
open Classical in
noncomputable def dc (s : ByteArray) : Option Int := if h : ∃ n, aa5 s n then some h.choose else none
theorem afl {s : ByteArray} {n : Int} (h : aa5 s n) : dc s = some n := by
 have hx : ∃ n, aa5 s n := ⟨n, h⟩
 rw [dc, dif_pos hx]
 have h2 := hx.choose_spec
 congr 1
 exact av9 ⟨by have := h2.1; omega, by have := h2.2.1; omega⟩ ⟨by have := h.1; omega, by have := h.2.1; omega⟩ (h2.2.2.trans h.2.2.symm)
theorem ra {s : ByteArray} (h : ∀ n, ¬ aa5 s n) : dc s = none := by
 rw [dc, dif_neg (fun ⟨n, hn⟩ => h n hn)]
theorem yz {s : ByteArray} {n : Int} (h : dc s = some n) : aa5 s n := by
 unfold dc at h
 split at h
 · rename_i hx
   simp only [Option.some.injEq] at h
   rw [← h]; exact hx.choose_spec
 · cases h
theorem adi : ∀ (k u : Nat), u < 10 ^ (k + 1) → (Lib.decDigits u).length ≤ k + 1
 | 0, u, h => by rw [ai2 (by omega)]; simp
 | k + 1, u, h => by
  by_cases hu : u < 10
  · rw [ai2 hu]; simp
  · have h2 : u / 10 < 10 ^ (k + 1) := by rw [Nat.pow_succ] at h; omega
    have := adi k (u / 10) h2
    rw [akx hu, List.length_append]
    simp only [List.length_cons, List.length_nil]; omega
theorem api {n : Int} (h0 : -999999 ≤ n) (h1 : n ≤ 999999) : (num n).size ≤ 7 := by
 rcases Int.lt_or_le n 0 with hn | hn
 · obtain ⟨u, rfl⟩ : ∃ u : Nat, n = -(u : Int) := ⟨n.natAbs, by omega⟩
   have e : Lib.itoa (-(u : Int)) = 45 :: Lib.decDigits u := by unfold Lib.itoa; rw [if_pos (by omega)]; simp
   have := adi 5 u (by omega)
   show (Lib.itoa (-(u : Int))).toArray.size ≤ 7
   rw [e]; simp; omega
 · obtain ⟨u, rfl⟩ : ∃ u : Nat, n = u := ⟨n.toNat, by omega⟩
   have := adi 5 u (by omega)
   show (Lib.itoa (u : Int)).toArray.size ≤ 7
   rw [rl]; simp; omega
theorem al6 {s : ByteArray} {n : Int} (h : dc s = some n) : s.size ≤ 7 := by
 obtain ⟨h1, h2, h3⟩ := yz h
 rw [← h3]; exact api h1 h2
theorem ym {c : UInt8} {s : ByteArray} {j : Nat} : ∀ (m : Nat), j ≤ m → m ≤ s.size → (∀ t (ht : t < s.size), j ≤ t → t < m → (s[t]'ht == c) = false) → gu c s m = gu c s j
 | 0, h1, _, _ => by rw [show j = 0 by omega]
 | m + 1, h1, h2, h => by
  by_cases e : j = m + 1
  · rw [e]
  · rw [uh (show m < s.size by omega) (h m (by omega) (by omega) (by omega))]
    exact ym m (by omega) (by omega) (fun t ht h3 h4 => h t ht h3 (by omega))
theorem ext_get {s : ByteArray} {j t : Nat} (ht : j + t < s.size) : (s.extract j s.size).data.toList[t]? = some (s[j + t]'ht) := by
 have hl : s.data.toList.length = s.size := gi s
 rw [dr, ← hl, List.take_length, List.getElem?_drop, List.getElem?_eq_getElem (by rw [hl]; exact ht), nt s ht]
theorem ak1 (c : UInt8) (s : ByteArray) : ∀ (k j : Nat), j ≤ s.size → (gu c s j).2 = j → Lib.countB (s.extract j s.size) ⟨#[c]⟩ = k → jv c s = (gu c s j).1 ++ Lib.splitB ⟨#[c]⟩ 0 k (s.extract j s.size)
 | k, j, hj, h2, hk => by
  have hx : Lib.indexB (s.extract j s.size) ⟨#[c]⟩ = Lib.indexByte (s.extract j s.size).data.toList c := Lib.index_one _ _
  have hsz : (s.extract j s.size).size = s.size - j := by rw [ByteArray.size_extract]; omega
  rcases Lib.indexB_cases (s.extract j s.size) ⟨#[c]⟩ with hm | ⟨i, hm, hroom⟩
  · have hnone := Lib.indexByte_none (hx.symm.trans hm)
    rw [Lib.splitB_miss _ _ _ _ hm, jv, ym s.size hj (Nat.le_refl _) (fun t ht h3 _ => by
     have h4 := hnone (t - j)
     rw [ext_get (by omega)] at h4
     have e : j + (t - j) = t := by omega
     simp only [e] at h4
     simpa using h4), h2]
  · have h1 : (⟨#[c]⟩ : ByteArray).size = 1 := rfl
    obtain ⟨g1, g2⟩ := Lib.indexByte_some (hx.symm.trans hm)
    rw [h1, hsz] at hroom
    have hi : j + i < s.size := by omega
    rw [ext_get hi] at g1
    have hc : (s[j + i]'hi == c) = true := by simpa using g1
    have hsk : gu c s (j + i) = gu c s j := ym (j + i) (by omega) (by omega) (fun t ht h3 h4 => by
     have h5 := g2 (t - j) (by omega)
     rw [ext_get (by omega)] at h5
     have e : j + (t - j) = t := by omega
     simp only [e] at h5
     simpa using h5)
    have hst := qq hi hc
    rw [hsk, h2] at hst
    have hcount := Lib.countB_hit (s.extract j s.size) ⟨#[c]⟩ i (by rw [h1]; omega) hm
    match k, hk with
    | 0, hk => rw [hk] at hcount; omega
    | k + 1, hk =>
     have hee : (s.extract j s.size).extract (i + (⟨#[c]⟩ : ByteArray).size) (s.extract j s.size).size = s.extract (j + i + 1) s.size := by
      rw [h1, hsz]
      apply og
      rw [dr, dr, dr]
      have hl : s.data.toList.length = s.size := gi s
      rw [← hl, List.take_length, List.take_of_length_le (by simp), List.drop_drop]
      congr 1
     have he0 : (s.extract j s.size).extract 0 (i + 0) = s.extract j (j + i) := by
      apply og
      rw [dr, dr, dr, List.drop_zero]
      have hl : s.data.toList.length = s.size := gi s
      rw [← hl, List.take_length, List.drop_take, Nat.add_zero, Nat.add_sub_cancel_left]
     have ih := ak1 c s k (j + i + 1) (by omega) (by rw [hst]) (by rw [← hee]; omega)
     rw [Lib.splitB_hit _ _ _ _ _ hm, ih, hst, hee, he0, List.append_assoc]
     rfl
theorem akh (c : UInt8) (s : ByteArray) : Lib.splitB ⟨#[c]⟩ 0 (Lib.countB s ⟨#[c]⟩) s = jv c s := by
 have h := ak1 c s (Lib.countB (s.extract 0 s.size) ⟨#[c]⟩) 0 (Nat.zero_le _) rfl rfl
 have e : s.extract 0 s.size = s := by simp
 rw [e] at h
 rw [h]; rfl
def n7 : List Int → ByteArray
 | [] => ⟨#[]⟩
 | [n] => num n
 | n :: m :: l => num n ++ (⟨#[32]⟩ ++ n7 (m :: l))
def a77 : ByteArray := ⟨#[110, 111, 110, 101]⟩
def wQ : ByteArray := ⟨#[63]⟩
def lx (L : List Int) : ByteArray := if L = [] then a77 else n7 L
theorem ad1 : ∀ (L : List Int) (n : Int), L ≠ [] → n7 (L ++ [n]) = n7 L ++ ⟨#[32]⟩ ++ num n
 | [], n, h => absurd rfl h
 | [a], n, _ => by
  show num a ++ (⟨#[32]⟩ ++ num n) = num a ++ ⟨#[32]⟩ ++ num n
  rw [ByteArray.append_assoc]
 | a :: b :: l, n, _ => by
  have ih := ad1 (b :: l) n (by simp)
  show num a ++ (⟨#[32]⟩ ++ n7 ((b :: l) ++ [n])) = num a ++ (⟨#[32]⟩ ++ n7 (b :: l)) ++ ⟨#[32]⟩ ++ num n
  rw [ih]
  simp only [ByteArray.append_assoc]
theorem ags : ∀ L : List Int, (n7 L).data.toList = Lib.join ((L.map num).map (·.data.toList)) [32]
 | [] => rfl
 | [a] => by simp [n7, Lib.join]
 | a :: b :: l => by
  have ih := ags (b :: l)
  rw [n7, j3, j3, ih]
  simp [Lib.join, List.intercalate, List.intersperse]
theorem yw : ∀ L : List Int, (∀ n ∈ L, bu n) → (n7 L).size ≤ 22 * L.length
 | [], _ => Nat.le_refl _
 | [a], h => by
  have := aar (h a (by simp))
  simp only [n7, List.length_cons, List.length_nil]; omega
 | a :: b :: l, h => by
  have ih := yw (b :: l) (fun n hn => h n (by simp at hn ⊢; exact .inr hn))
  have h1 := aar (h a (by simp))
  have h2 : (⟨#[32]⟩ : ByteArray).size = 1 := rfl
  rw [n7, ByteArray.size_append, ByteArray.size_append]
  simp only [List.length_cons] at ih ⊢; omega
end Go.Proofs
end
section
set_option maxRecDepth 100000
set_option maxHeartbeats 4000000
namespace Go.Proofs
open Go.Lv Go.RowKit
theorem avy {w : World} {m : Nat → Nat} {h : Hp} {av : Nat → Prop} {vs : Array Value} {s t : ByteArray} (hsz : vs.size = [V.str s, V.str t].length)
 (ha : ∀ i (hi : i < [V.str s, V.str t].length), RV w m h av true (vs.getD i Go.undef) [V.str s, V.str t][i]) : vs = #[.string s, .string t] := by
 obtain ⟨v, u, rfl⟩ : ∃ v u, vs = #[v, u] := by
  match vs, hsz with
  | ⟨[v, u]⟩, _ => exact ⟨v, u, rfl⟩
 have h0 := ha 0 (by simp)
 have h1 := ha 1 (by simp)
 simp only [List.getElem_cons_zero, List.getElem_cons_succ] at h0 h1
 obtain rfl : v = .string s := by
  simp at h0; cases h0; rfl
 obtain rfl : u = .string t := by
  simp at h1; cases h1; rfl
 rfl
theorem ae8 {w : World} {m : Nat → Nat} {av : Nat → Prop} : RH w m [] av := ⟨fun i j ci cj h => by simp at h, fun id cs h => by simp at h, fun id cs h => by simp at h⟩
theorem ab5 {O : Nat → Prop} {w w' : World} (hb : Below w.heap.size w w') : Ext O w w' :=
 ⟨hb.os, hb.tape, hb.output, hb.size, fun g hg _ => hb.block g hg, fun g hg => Nat.le_of_eq (iw (hb.block g hg)).symm⟩
theorem arh (s : ByteArray) (c : UInt8) (hs : s.size ≤ 16777216) : Ctr Tryz.prog 45 [.str s, .str ⟨#[c]⟩] [] (.osl 0 0 (jv c s).length 1) [some (rows StringS.cs (jv c s))] := by
 refine ⟨Tryz.a7o, fun w vs m av hH hav hgl hsz ha => ?_⟩
 obtain rfl := avy hsz ha
 obtain ⟨mv, hm, m0, rfl⟩ := hgl.var (g := 0) (e := false) (by simp [aho])
 refine (Tryz.strings_Split s ⟨#[c]⟩ m0 w (by omega) hm (Nat.le_refl 1)).mono ?_
 rintro e w' ⟨rfl, rfl⟩
 rw [akh]
 have hl : Lib.countB s ⟨#[c]⟩ + 1 = (jv c s).length := by
  rw [← akh, Lib.splitB_all ⟨#[c]⟩ (Nat.le_refl 1) 0 _ _ rfl]
 rw [hl]
 generalize jv c s = L
 have hrl : (rows StringS.cs L).length = L.length := by rw [ay, Nat.mul_one]
 have hrow : ∀ i (hi : i < (rows StringS.cs L).length), ∃ x, (rows StringS.cs L)[i] = .str x ∧ ((L.map Value.string).toArray).getD i Go.undef = .string x := by
  intro i hi
  have hi' : i < L.length := by omega
  refine ⟨L[i], ?_, ?_⟩
  · have := bw StringS.csl hi'
    rw [Nat.mul_one] at this
    have h2 : (rows StringS.cs L)[i]? = some (.str L[i]) := by
     have h3 := congrArg (·[0]?) this
     simpa [StringS.cs, List.getElem?_take] using h3
    rw [List.getElem?_eq_getElem hi] at h2
    exact Option.some.inj h2
  · simp [hi']
 have hnew := heap_alloc_new w (.cells (L.map Value.string).toArray 9)
 refine ⟨_, fun _ => w.heap.size, rfl, Ext.alloc _ _ _, ⟨fun i j ci cj h1 h2 _ => ?_, fun id cs h => .inr ⟨id, cs, h, rfl⟩, fun id cs h => ?_⟩, ?_, fun id cs h => .inr ⟨Nat.zero_le _, Nat.le_refl _⟩⟩
 · have e1 : i < 1 := by have := (List.getElem?_eq_some_iff.1 h1).1; simpa using this
   have e2 : j < 1 := by have := (List.getElem?_eq_some_iff.1 h2).1; simpa using this
   omega
 · have e1 : id < 1 := by have := (List.getElem?_eq_some_iff.1 h).1; simpa using this
   obtain rfl : id = 0 := by omega
   simp only [List.getElem?_cons_zero, Option.some.injEq] at h
   subst h
   refine .inl ⟨_, _, _, hnew, aa2.zero _, by simp [hrl], fun i hi => ?_⟩
   obtain ⟨x, h1, h2⟩ := hrow i hi
   rw [h1, h2]
   exact .str _
 · refine .osl 0 0 L.length L.length 1 _ ⟨rfl, ml _⟩ (by simp [hrl]) (Nat.le_refl _) ?_
   simp only [dh, hnew]
   simp
theorem au5 (L : List ByteArray) (hL : (Lib.join (L.map (·.data.toList)) [32]).length ≤ 140737488355328) (hl : L.length ≤ 16777216) : Ctr Tryz.prog 146 [StringS.sl L, .str ⟨#[32]⟩] [] (.str ⟨(Lib.join (L.map (·.data.toList)) [32]).toArray⟩) [] := by
 refine ⟨Tryz.aym, fun w vs m av hH hav hgl hsz ha => ?_⟩
 obtain ⟨v, u, rfl⟩ : ∃ v u, vs = #[v, u] := by
  match vs, hsz with
  | ⟨[v, u]⟩, _ => exact ⟨v, u, rfl⟩
 have h0 := ha 0 (by simp)
 have h1 := ha 1 (by simp)
 simp only [List.getElem_cons_zero, List.getElem_cons_succ] at h0 h1
 obtain rfl : u = .string ⟨#[32]⟩ := by
  simp at h1; cases h1; rfl
 have hrl : (rows StringS.cs L).length = L.length := by rw [ay, Nat.mul_one]
 have hv : (#[v, Value.string ⟨#[32]⟩] : Array Value).getD 0 Go.undef = v := rfl
 rw [hv] at h0
 generalize hy : StringS.sl L = y at h0
 cases h0 with
 | slz a c wd =>
  have e0 : L = [] := by
   simp only [StringS.sl, V.sl.injEq] at hy
   exact List.length_eq_zero_iff.1 hy.1
  subst e0
  refine (Tryz.strings_Join_none a c ⟨#[32]⟩ w).mono ?_
  rintro e w' ⟨rfl, rfl⟩
  exact ⟨_, m, rfl, Ext.refl _ _, ae8, .str _, fun id cs h => by simp at h⟩
 | sl b off n cap wd cs vals hl' ha' hc hv' hr =>
  simp only [StringS.sl, V.sl.injEq] at hy
  obtain ⟨rfl, rfl, rfl⟩ := hy
  by_cases he : L = []
  · subst he
    refine (Tryz.strings_Join_none _ cap ⟨#[32]⟩ w).mono ?_
    rintro e w' ⟨rfl, rfl⟩
    exact ⟨_, m, rfl, Ext.refl _ _, ae8, .str _, fun id cs h => by simp at h⟩
  have hpos : 0 < L.length := List.length_pos_iff.2 he
  have hcells : ∀ (j : Nat) x, L[j]? = some x → w.cell? ⟨b, off + j, none⟩ = some (.string x) := by
   intro j x hj
   obtain ⟨hj1, hj2⟩ := List.getElem?_eq_some_iff.1 hj
   have hi : j < (rows StringS.cs L).length := by omega
   have h2 : (rows StringS.cs L)[j] = .str x := by
    have := bw StringS.csl hj1
    rw [Nat.mul_one] at this
    have h3 := congrArg (·[0]?) this
    have h4 : (rows StringS.cs L)[j]? = some (.str L[j]) := by simpa [StringS.cs, List.getElem?_take] using h3
    rw [List.getElem?_eq_getElem hi, hj2] at h4
    exact Option.some.inj h4
   have h5 := hr j hi
   rw [h2] at h5
   rw [hv' j hi]
   generalize vals j = vv at h5
   cases h5
   rfl
  have hbk : b < w.heap.size := World.block_lt_of_cell? w ⟨b, off + 0, none⟩ (hcells 0 L[0] (List.getElem?_eq_getElem hpos))
  refine (Tryz.strings_Join b off cap L ⟨#[32]⟩ w hcells hbk (by omega) hc hL).mono ?_
  rintro e w' ⟨rfl, hb⟩
  exact ⟨_, m, rfl, ab5 hb, ae8, .str _, fun id cs h => by simp at h⟩
 | _ => simp [StringS.sl] at hy
end Go.Proofs
end
section
namespace Go.Lv
theorem Ctr.se {P : Program} {f : FuncId} {args : List V} {r r' : V} {hout hout' : Hp} (h : Ctr P f args [] r hout) (hw : aj 0 r hout r' hout') : Ctr P f args [] r' hout' :=
 ⟨h.1, fun w vs m av h1 h2 h3 h4 h5 => (h.2 w vs m av h1 h2 h3 h4 h5).mono fun e w' ⟨v, m', g1, g2, g3, g4, g5⟩ => by
  obtain ⟨m2, k1, k2, k3⟩ := hw w m [] av w' m' v rfl (Nat.zero_le _) h2 g2.size g3 g4 g5
  exact ⟨v, m2, g1, g2, k1, k2, k3⟩⟩
section
variable {α : Type} {cs : α → List V} {w : Nat} [na cs w]
end
end Go.Lv
end
section
set_option maxRecDepth 100000
namespace Go.Proofs
open Go.Lv
theorem u3 (c : UInt8) (s : ByteArray) : ∀ (i : Nat) (x : ByteArray), x ∈ (gu c s i).1 → x.size ≤ s.size
 | 0, x, h => by simp [gu] at h
 | i + 1, x, h => by
  by_cases hi : i < s.size
  · cases hc : (s[i]'hi == c) with
    | true =>
     rw [qq hi hc] at h
     rcases List.mem_append.1 h with h | h
     · exact u3 c s i x h
     · simp only [List.mem_singleton] at h
       subst h
       rw [ByteArray.size_extract]; omega
    | false =>
     rw [uh hi hc] at h
     exact u3 c s i x h
  · rw [gu, dif_neg hi] at h
    exact u3 c s i x h
theorem xy (c : UInt8) (s : ByteArray) {x : ByteArray} (h : x ∈ jv c s) : x.size ≤ s.size := by
 rw [jv] at h
 rcases List.mem_append.1 h with h | h
 · exact u3 c s _ x h
 · simp only [List.mem_singleton] at h
   subst h
   rw [ByteArray.size_extract]; omega
theorem agx (s : ByteArray) (c : UInt8) (hs : s.size ≤ 16777216) : Ctr Tryz.prog 45 [.str s, .str ⟨#[c]⟩] [] (StringS.sl (jv c s)) [] :=
 (arh s c hs).se (by
  refine aj.pick [] (by decide) (fun j hj => by omega) (.inl ?_) rfl
  have e := db (cs := StringS.cs) (jv c s)
  simp [ren, bb, posOf, ma, ab] at e ⊢
  exact e.symm)
theorem acp (s : ByteArray) (c : UInt8) (hs : s.size ≤ 16777216) : Ctr Tryz.prog 46 [.str s, .int .u8 c.toNat] [] (StringS.sl (jv c s)) [] :=
 (vm s c hs).se (by
  refine aj.pick [] (by decide) (fun j hj => by omega) (.inl ?_) rfl
  have e := db (cs := StringS.cs) (jv c s)
  simp [ren, bb, posOf, ma, ab] at e ⊢
  exact e.symm)
end Go.Proofs
end
section
set_option maxRecDepth 100000
set_option maxHeartbeats 4000000
namespace Go.Proofs
open Go.Lv Go.RowKit
noncomputable def j7 (s : ByteArray) : V := .tup [.int .i64 ((dc s).getD 0), .bool (dc s).isSome]
theorem ai3 {w w' : World} (h : GL w (fun _ => False)) (hE : Ext (fun _ => False) w w') : GL w' (fun _ => False) := by
 refine ⟨fun p hp => ?_, fun p hp => ?_⟩
 · obtain ⟨h1, T, fr, h2⟩ := h.1 p hp
   exact ⟨h1, T, fr, by rw [hE.block _ (Array.getElem?_eq_some_iff.1 h2).1 (fun h => h)]; exact h2⟩
 · obtain ⟨h1, C, T, fr, v, h2, h3⟩ := h.2 p hp
   exact ⟨h1, C, T, fr, v, by rw [hE.block _ (Array.getElem?_eq_some_iff.1 h2).1 (fun h => h)]; exact h2, h3⟩
theorem apn {P : Program} {f : FuncId} {args : List V} {r : V} (h : Ctr P f args [] r []) {w : World} (hgl : GL w (fun _ => False)) {vs : Array Value} (hsz : vs.size = args.length)
 (ha : ∀ i (hi : i < args.length), RV w (fun _ => 0) [] (fun _ => False) true (vs.getD i Go.undef) args[i]) :
 Calls P f vs w fun e w' => ∃ v, e = .returned v ∧ Ext (fun _ => False) w w' ∧ RV w' (fun _ => 0) [] (fun _ => False) true v r := by
 refine (h.2 w vs (fun _ => 0) (fun _ => False) ae8 (fun b hb => hb.elim) hgl hsz ha).mono ?_
 rintro e w' ⟨v, m', rfl, hE, _, hR, _⟩
 refine ⟨v, rfl, hE.mono (fun b _ ⟨id, cs, h, _⟩ => by simp at h), ?_⟩
 exact RV.step (w := w') (w' := w') (m := m') (m' := fun _ => 0) (h := []) (h' := []) (av := avm (fun _ => False) m' []) (av' := fun _ => False) (fun b off v hb hc => ⟨fun h => h, hc⟩) (fun id c hid => by simp at hid) hR
theorem af9 (n : Int) (hn : bu n) : Ctr Tryz.prog 108 [.int .i64 n] [] (.tup [.str (if ep n (-999999) 999999 = true then num n else ⟨#[]⟩), .bool (ep n (-999999) 999999)]) [] := by
 refine Ctr.intro Tryz.mixed Tryz.func108 rfl Tryz.azu ?_
 refine ev2 @Tryz.ntmps108 @Tryz.results108 ?_
 (have ct := j4 n (-999999) 999999; (first | refine ak.at ct ⟨leA, leA, leA, trivial⟩ ?_ | refine ai.at ct ⟨leA, leA, leA, trivial⟩ ?_); clear ct)
 refine rn0 ?_
 refine aw.split (fun h => ?_) (fun h => ?_) <;> refine rn1 @h ?_
 · have h' : ep n (-999999) 999999 = false := by simpa using h
   exact aj.au (by rw [h']; rfl) (by rfl)
 · have h' : ep n (-999999) 999999 = true := by simpa using h
   (first | refine ak.at (oi n hn) ⟨leA, trivial⟩ ?_ | refine ai.at (oi n hn) ⟨leA, trivial⟩ ?_)
   refine rn0 ?_
   exact aj.au (by rw [h']; rfl) (by rfl)
theorem ti (n : Int) (hn : bu n) {w : World} (hgl : GL w (fun _ => False)) : Calls Tryz.prog 108 #[.int .i64 n] w fun e w' =>
 e = .returned (.tuple #[.string (if ep n (-999999) 999999 = true then num n else ⟨#[]⟩), .bool (ep n (-999999) 999999)]) ∧ Ext (fun _ => False) w w' := by
 refine (apn (af9 n hn) hgl rfl (fun i hi => ?_)).mono ?_
 · have e : i = 0 := by simp at hi; omega
   subst e
   exact .int _ _
 · rintro e w' ⟨v, rfl, hE, hR⟩
   refine ⟨?_, hE⟩
   cases hR with
   | tup a a' ha hra =>
    have h0 := hra 0 (by simp)
    have h1 := hra 1 (by simp)
    simp only [List.getElem_cons_zero, List.getElem_cons_succ] at h0 h1
    match a, ha with
    | ⟨[x, y]⟩, _ =>
     have e0 : (⟨[x, y]⟩ : Array Value).getD 0 Go.undef = x := rfl
     have e1 : (⟨[x, y]⟩ : Array Value).getD 1 Go.undef = y := rfl
     rw [e0] at h0
     rw [e1] at h1
     generalize (if ep n (-999999) 999999 = true then num n else (⟨#[]⟩ : ByteArray)) = tx at *
     generalize ep n (-999999) 999999 = bx at *
     cases h0
     cases h1
     rfl
theorem ah7 (s : ByteArray) (hs : s.size ≤ 281474976710656) {w : World} (hgl : GL w (fun _ => False)) : Calls Tryz.prog 70 #[.string s] w fun e w' =>
 e = .returned (.tuple #[.int .i64 ((dc s).getD 0), .bool (dc s).isSome]) ∧ Ext (fun _ => False) w w' := by
 by_cases hl : s.size ≤ 7
 rotate_left
 · have hno : dc s = none := by
    cases h : dc s with
    | none => rfl
    | some n => exact absurd (al6 h) hl
   have hd : decide ((s.size : Int) > 7) = true := decide_eq_true (by omega)
   rw [hno]
   go_enter Tryz.func70, Tryz.ntmps70
   go_wp2
   go_ret2
   exact ⟨rfl, Ext.refl _ _⟩
 have hd : decide ((s.size : Int) > 7) = false := decide_eq_false (by omega)
 cases ha : Lib.atoiAll s.data.toList with
 | range =>
  exfalso
  rw [Lib.atoiAll_short _ (by have := gi s; omega)] at ha
  cases hx : Lib.atoi s.data.toList <;> rw [hx] at ha <;> cases ha
 | ok v =>
  obtain ⟨vb0, vb1⟩ := Lib.atoiAll_bounds ha
  have hvi : bu v := ⟨vb0, vb1⟩
  have hun : ∀ n, aa5 s n → n = v := fun n hn => by
   have := zy (n := n) (by have := hn.1; omega) (by have := hn.2.1; omega)
   rw [hn.2.2, ha] at this
   injection this with this
   exact this.symm
  have hW : ∀ W1, (W1 = w ∨ ∃ t, W1 = Lib.bytesWorld w 5 t) → Ext (fun _ => False) w W1 := by
   rintro W1 (rfl | ⟨t, rfl⟩)
   · exact Ext.refl _ _
   · exact ab5 (Lib.bytesWorld_below _ _ _)
  cases hin : ep v (-999999) 999999 with
  | false =>
   have hno : dc s = none := ra (fun n hn => by
    have h1 := hun n hn
    subst h1
    have : ep n (-999999) 999999 = true := gg.2 ⟨hn.1, hn.2.1⟩
    rw [hin] at this
    cases this)
   have hF := fun {W : World} (h : GL W (fun _ => False)) => ti v hvi h
   simp only [hin] at hF
   rw [hno]
   go_enter Tryz.func70, Tryz.ntmps70
   go_wp2_with (go_at_call 107; refine (Tryz.strconv_Atoi_ok s (by omega) v ha _).mono ?_; rintro e W1 ⟨rfl, hw1⟩)
   have hE1 := hW W1 hw1
   go_wp2_with (go_at_call 108; refine (hF (ai3 hgl hE1)).mono ?_; rintro e W2 ⟨rfl, hE⟩)
   go_wp2
   go_ret2
   exact ⟨rfl, hE1.trans hE⟩
  | true =>
   have hF := fun {W : World} (h : GL W (fun _ => False)) => ti v hvi h
   simp only [hin, if_true] at hF
   by_cases hq : num v = s
   · have hp : aa5 s v := ⟨(gg.1 hin).1, (gg.1 hin).2, hq⟩
     rw [afl hp]
     rw [hq] at hF
     go_enter Tryz.func70, Tryz.ntmps70
     go_wp2_with (go_at_call 107; refine (Tryz.strconv_Atoi_ok s (by omega) v ha _).mono ?_; rintro e W1 ⟨rfl, hw1⟩)
     have hE1 := hW W1 hw1
     go_wp2_with (go_at_call 108; refine (hF (ai3 hgl hE1)).mono ?_; rintro e W2 ⟨rfl, hE⟩)
     go_wp2
     go_ret2
     exact ⟨rfl, hE1.trans hE⟩
   · have hno : dc s = none := ra (fun n hn => by
      have h1 := hun n hn
      subst h1
      exact hq hn.2.2)
     have hq2 : ((num v).toList == s.toList) = false := by rw [im]; exact decide_eq_false hq
     rw [hno]
     go_enter Tryz.func70, Tryz.ntmps70
     go_wp2_with (go_at_call 107; refine (Tryz.strconv_Atoi_ok s (by omega) v ha _).mono ?_; rintro e W1 ⟨rfl, hw1⟩)
     have hE1 := hW W1 hw1
     go_wp2_with (go_at_call 108; refine (hF (ai3 hgl hE1)).mono ?_; rintro e W2 ⟨rfl, hE⟩)
     go_wp2
     all_goals first | (go_ret2; exact ⟨rfl, hE1.trans hE⟩) | (exfalso; simp_all; done)
 | _ =>
  have hno : dc s = none := ra (fun n hn => by
   have := zy (n := n) (by have := hn.1; omega) (by have := hn.2.1; omega)
   rw [hn.2.2, ha] at this
   cases this)
  obtain ⟨ev, hv, hev⟩ := hgl.var (g := 1) (e := true) (by simp [aho])
  rw [hno]
  go_enter Tryz.func70, Tryz.ntmps70
  go_wp2_with (go_at_call 107; refine (Tryz.strconv_Atoi_syntax s hs ha (by intro h; cases h) (by intro v h; cases h) ev _ hv hev).mono ?_; rintro e W1 ⟨N, rfl, hN1, hN2, hb⟩)
  have hE1 : Ext (fun _ => False) w W1 := ab5 hb
  go_wp2_with (go_at_call 108; refine (ti 0 ⟨by omega, by omega⟩ (ai3 hgl hE1)).mono ?_; rintro e W2 ⟨rfl, hE⟩)
  go_wp2
  go_ret2
  exact ⟨rfl, hE1.trans hE⟩
theorem aai (s : ByteArray) (hs : s.size ≤ 281474976710656) : Ctr Tryz.prog 70 [.str s] [] (j7 s) [] := by
 refine ⟨Tryz.a6w, fun w vs m av hH hav hgl hsz ha => ?_⟩
 obtain ⟨v, rfl⟩ : ∃ v, vs = #[v] := by
  match vs, hsz with
  | ⟨[v]⟩, _ => exact ⟨v, rfl⟩
 have h0 := ha 0 (by simp)
 simp only [List.getElem_cons_zero] at h0
 obtain rfl : v = .string s := by
  simp at h0; cases h0; rfl
 refine (ah7 s hs (hgl.mono (fun b hb => hb.elim))).mono ?_
 rintro e w' ⟨rfl, hE⟩
 refine ⟨_, m, rfl, hE.mono (fun b _ h => h.elim), ae8, ?_, fun id cs h => by simp at h⟩
 refine .tup _ _ rfl (fun i hi => ?_)
 match i, hi with
 | 0, _ => exact .int _ _
 | 1, _ => exact .bool _
theorem ahk {s : ByteArray} {n : Int} (h : aa5 s n) : s.data.toList = if n < 0 then 45 :: Lib.decDigits n.natAbs else Lib.decDigits n.toNat := by
 rw [← h.2.2]
 show Lib.itoa n = _
 rfl
theorem a52 {u : Nat} {l : List UInt8} {c : UInt8} (h : Lib.decDigits u = c :: l) : (c == 45) = false := by
 have := (sy (u + 1) u (by omega)).1
 rw [h] at this
 simp only [List.all_cons, Bool.and_eq_true, gm, decide_eq_true_eq] at this
 rw [beq_eq_false_iff_ne]
 intro e
 subst e
 have : (45 : UInt8).toNat = 45 := rfl
 omega
theorem avq : ∀ (l : List UInt8) (n : Nat), l.all gm = true → j8 n l + 1 ≤ (n + 1) * 10 ^ l.length := by
 intro l
 induction l with
 | nil => intro n _; rw [ll]; simp
 | cons c l ih =>
  intro n h
  simp only [List.all_cons, Bool.and_eq_true] at h
  have h1 := ih (ae5 n c) h.2
  have h2 := h.1
  simp only [gm, Bool.and_eq_true, decide_eq_true_eq] at h2
  rw [mj, List.length_cons, Nat.pow_succ]
  have h3 : ae5 n c + 1 ≤ (n + 1) * 10 := by rw [pf]; omega
  have h4 := Nat.mul_le_mul_right (10 ^ l.length) h3
  have e : (n + 1) * (10 ^ l.length * 10) = (n + 1) * 10 * 10 ^ l.length := by rw [Nat.mul_comm (10 ^ l.length) 10, ← Nat.mul_assoc]
  omega
theorem me {l : List UInt8} (h : l.all gm = true) (hl : l.length ≤ 6) : j8 0 l ≤ 999999 := by
 have h1 := avq l 0 h
 have h2 : (10 : Nat) ^ l.length ≤ 10 ^ 6 := Nat.pow_le_pow_right (by decide) hl
 omega
structure re (s t : ByteArray) : Prop where
 rd : ∀ n, aa5 s n → t.data.toList = Lib.decDigits n.natAbs ∧ (n < 0 ↔ t.size < s.size)
 le : t.size ≤ s.size
theorem al4 {s : ByteArray} (h1 : 1 < s.size) (h2 : (s[0]'(by omega) == 45) = true) : re s (s.extract 1 s.size) := by
 have e0 : s.data.toList = s[0]'(by omega) :: s.data.toList.drop 1 := by
  have := List.drop_eq_getElem_cons (l := s.data.toList) (i := 0) (by rw [gi]; omega)
  rw [List.drop_zero, nt s (by omega)] at this
  exact this
 have et : (s.extract 1 s.size).data.toList = s.data.toList.drop 1 := by
  have hl : s.data.toList.length = s.size := gi s
  rw [dr, ← hl, List.take_length]
 refine ⟨fun n hn => ?_, by rw [ByteArray.size_extract]; omega⟩
 have hL := ahk hn
 split at hL
 · rename_i hneg
   rw [et, hL]
   refine ⟨rfl, fun _ => by rw [ByteArray.size_extract]; omega, fun _ => hneg⟩
 · exfalso
   rw [e0] at hL
   have := a52 hL.symm
   rw [h2] at this
   cases this
theorem ahn {s : ByteArray} (h : s.size ≤ 1 ∨ ∃ h1 : 1 < s.size, (s[0]'(by omega) == 45) = false) : re s s := by
 refine ⟨fun n hn => ?_, Nat.le_refl _⟩
 have hL := ahk hn
 have hl : s.data.toList.length = s.size := gi s
 split at hL
 · rename_i hneg
   exfalso
   have hd := (sy (n.natAbs + 1) n.natAbs (by omega)).2.2
   have h3 : 0 < (Lib.decDigits n.natAbs).length := List.length_pos_iff.2 hd
   have h4 : s.size = (Lib.decDigits n.natAbs).length + 1 := by rw [← hl, hL, List.length_cons]
   rcases h with h | ⟨h1, h2⟩
   · omega
   · have e0 : s.data.toList = s[0]'(by omega) :: s.data.toList.drop 1 := by
      have := List.drop_eq_getElem_cons (l := s.data.toList) (i := 0) (by rw [gi]; omega)
      rw [List.drop_zero, nt s (by omega)] at this
      exact this
     rw [e0] at hL
     injection hL with hL _
     rw [hL] at h2
     cases h2
 · rename_i hneg
   rw [hL]
   have e : n.toNat = n.natAbs := by omega
   rw [e]
   exact ⟨rfl, fun h => absurd h hneg, fun h => by omega⟩
theorem re.no {s t : ByteArray} (h : re s t) (hb : ¬ (1 ≤ t.size ∧ t.size ≤ 6) ∨ t.data.toList.all gm = false) : dc s = none := ra (fun n hn => by
 obtain ⟨h1, _⟩ := h.rd n hn
 obtain ⟨d1, _, d3⟩ := sy (n.natAbs + 1) n.natAbs (by omega)
 rcases hb with hb | hb
 · have h2 : 0 < (Lib.decDigits n.natAbs).length := List.length_pos_iff.2 d3
   have h3 := adi 5 n.natAbs (by have := hn.1; have := hn.2.1; omega)
   rw [← h1, gi] at h2 h3
   omega
 · rw [h1, d1] at hb; cases hb)
def abl (s t : ByteArray) (u : Nat) : Int := if t.size < s.size then -(u : Int) else u
theorem re.yes {s t : ByteArray} (h : re s t) (hd : t.data.toList.all gm = true) (h6 : t.size ≤ 6) (hq : num (abl s t (j8 0 t.data.toList)) = s) : dc s = some (abl s t (j8 0 t.data.toList)) := by
 have hb := me hd (by rw [gi]; exact h6)
 refine afl ⟨?_, ?_, hq⟩ <;> (unfold abl; split <;> omega)
theorem re.not {s t : ByteArray} (h : re s t) (hq : ¬ num (abl s t (j8 0 t.data.toList)) = s) : dc s = none := ra (fun n hn => by
 obtain ⟨h1, h2⟩ := h.rd n hn
 obtain ⟨_, d2, _⟩ := sy (n.natAbs + 1) n.natAbs (by omega)
 apply hq
 rw [h1, d2, ← hn.2.2]
 congr 1
 unfold abl
 have e : (num n).size = s.size := by rw [hn.2.2]
 split
 · rename_i h3
   have := h2.2 (by omega)
   omega
 · rename_i h3
   have : ¬ n < 0 := fun h4 => h3 (by have := h2.1 h4; omega)
   omega)
theorem ap1 (s : ByteArray) (hs : s.size ≤ 281474976710656) : Ctr Tryz.prog 121 [.str s] [] (j7 s) [] := by
 refine Ctr.intro Tryz.mixed Tryz.func121 rfl Tryz.ax7 ?_
 refine ev2 @Tryz.ntmps121 @Tryz.results121 ?_
 refine ax.bz (fun g0 => ?_) (fun g0 => ?_) <;> refine rn1 @g0 ?_
 · have hs1 : 1 < s.size := by simp at g0; omega
   have hbb : (s[0]'(by omega) == 45) = (((s[0]'(by omega)).toNat : Int) == 45) := by
    rw [Bool.eq_iff_iff]; simp only [beq_iff_eq]
    constructor
    · intro g; rw [g]; rfl
    · intro g; exact UInt8.toNat_inj.1 (by have : (45 : UInt8).toNat = 45 := rfl; omega)
   refine ⟨by omega, ?_⟩
   refine aw.split (fun g2 => ?_) (fun g2 => ?_)
   · have hB : re s (s.extract 1 s.size) := al4 hs1 (by rw [hbb]; exact g2)
     refine rn1 @g2 ?_
     have hts := hB.le
     refine rn0 ?_
     (have ct := ef ((s.extract 1 s.size).size : Int) 1 6; (first | refine ak.at ct ⟨leA, leA, leA, trivial⟩ ?_ | refine ai.at ct ⟨leA, leA, leA, trivial⟩ ?_); clear ct)
     refine rn0 ?_
     refine aw.split (fun g1 => ?_) (fun g1 => ?_) <;> refine rn1 @g1 ?_
     · have hr : ¬ (1 ≤ (s.extract 1 s.size).size ∧ (s.extract 1 s.size).size ≤ 6) := by
        have : ep ((s.extract 1 s.size).size : Int) 1 6 = false := by simpa using g1
        intro hx
        have h2 : ep ((s.extract 1 s.size).size : Int) 1 6 = true := gg.2 ⟨by omega, by omega⟩
        rw [this] at h2; cases h2
       rw [j7, hB.no (.inl hr)]
       exact aj.au rfl (by rfl)
     have hr : ep ((s.extract 1 s.size).size : Int) 1 6 = true := by simpa using g1
     have hr2 := gg.1 hr
     have hl : (s.extract 1 s.size).data.toList.length = (s.extract 1 s.size).size := gi (s.extract 1 s.size)
     have hl6 : (s.extract 1 s.size).size ≤ 6 := by omega
     refine dn.intro (fun i : Nat => i ≤ (s.extract 1 s.size).size ∧ ((s.extract 1 s.size).data.toList.take i).all gm = true) (fun i => ⟨(.str s :: (un 3 (.str (s.extract 1 s.size) :: .int .i64 (j8 0 ((s.extract 1 s.size).data.toList.take i)) :: .int .i64 i :: (un 51 [])))), [], 0⟩) (fun i => (s.extract 1 s.size).size - i) 0 ⟨Nat.zero_le _, rfl⟩ ?_ (fun i hi => ?_)
     · refine bo.cut (0) (by simp) (by simp) ?_ ?_
       · simp [LeC, LeV, ren, bh, ll]
       · rfl
     refine ev0 ?_
     refine aw.split (fun h1 => ?_) (fun h1 => ?_)
     · have hi' : i < (s.extract 1 s.size).size := by simpa using h1
       have hsm := me hi.2 (by rw [List.length_take]; omega)
       have hst : (s.extract 1 s.size).data.toList.take (i + 1) = (s.extract 1 s.size).data.toList.take i ++ [(s.extract 1 s.size)[i]'hi'] := by
        rw [List.take_succ_eq_append_getElem (by rw [hl]; exact hi'), nt (s.extract 1 s.size) hi']
       have hbad : gm ((s.extract 1 s.size)[i]'hi') = false → dc s = none := fun hd => hB.no (.inr (by
        rw [List.all_eq_false]
        exact ⟨(s.extract 1 s.size)[i]'hi', by rw [← nt (s.extract 1 s.size) hi']; exact List.getElem_mem _, by simp [hd]⟩))
       refine ev1 @h1 ?_
       refine ⟨⟨by omega, hi'⟩, ?_⟩
       refine ax.cu (fun h2 => ?_) (fun h2 => ?_) <;> refine ev1 @h2 ?_
       · refine ⟨⟨by omega, hi'⟩, ?_⟩
         refine aw.split (fun h3 => ?_) (fun h3 => ?_) <;> refine ev1 @h3 ?_
         · rw [j7, hbad (by simp at h3; simp only [gm, Bool.and_eq_false_iff, decide_eq_false_iff_not]; omega)]
           exact aj.au rfl (by rfl)
         · have hdg : gm ((s.extract 1 s.size)[i]'hi') = true := by simp at h2 h3; simp only [gm, Bool.and_eq_true, decide_eq_true_eq]; omega
           have hdg2 := hdg
           simp only [gm, Bool.and_eq_true, decide_eq_true_eq] at hdg2
           have hvs : j8 0 ((s.extract 1 s.size).data.toList.take (i + 1)) = j8 0 ((s.extract 1 s.size).data.toList.take i) * 10 + (((s.extract 1 s.size)[i]'hi').toNat - 48) := by rw [hst, aaf, mj, ll, pf]
           have hw8 : IntKind.u8.wrap ((((s.extract 1 s.size)[i]'hi').toNat : Int) - 48) = (((s.extract 1 s.size)[i]'hi').toNat : Int) - 48 := by rw [IntKind.wrap_u8]; omega
           refine ⟨⟨by omega, hi'⟩, i + 1, ⟨hi', by rw [hst, List.all_append, hi.2]; simp [hdg]⟩, ?_, by omega⟩
           refine bo.cut (0) (by simp) (by simp) ?_ ?_
           · rw [hvs, hw8, wrap_i64 (n := 10 * _) (by omega) (by omega), wrap_i64 (n := _ - 48) (by omega) (by omega), wrap_i64 (n := 10 * _ + _) (by omega) (by omega), wrap_i64 (n := (i : Int) + 1) (by omega) (by omega)]
             simp [LeC, LeV, ren, bh]
             try omega
           · rfl
       · rw [j7, hbad (by simp at h2; simp only [gm, Bool.and_eq_false_iff, decide_eq_false_iff_not]; omega)]
         exact aj.au rfl (by rfl)
     · have hi' : i = (s.extract 1 s.size).size := by have := of_decide_eq_false h1; omega
       subst hi'
       have htk : (s.extract 1 s.size).data.toList.take (s.extract 1 s.size).size = (s.extract 1 s.size).data.toList := by rw [← hl, List.take_length]
       simp only [htk] at hi ⊢
       have hsm := me hi.2 (by omega)
       refine ev1 @h1 ?_
       refine aw.split (fun h2 => ?_) (fun h2 => ?_)
       · have hsg : abl s (s.extract 1 s.size) (j8 0 (s.extract 1 s.size).data.toList) = 0 - ((j8 0 (s.extract 1 s.size).data.toList : Nat) : Int) := by unfold abl; rw [if_pos (by have := of_decide_eq_true h2; omega)]; omega
         refine rn1 @h2 ?_
         (have ct := fp (0 - ((j8 0 (s.extract 1 s.size).data.toList : Nat) : Int)) (by omega) (by omega); (first | refine ak.at ct ⟨leA, trivial⟩ ?_ | refine ai.at ct ⟨leA, trivial⟩ ?_); clear ct)
         rw [← hsg]
         refine rn1 @im ?_
         refine aw.split (fun h3 => ?_) (fun h3 => ?_) <;> refine rn1 @h3 ?_
         · rw [j7, hB.not (by simpa using h3)]
           exact aj.au rfl (by rfl)
         · rw [j7, hB.yes hi.2 hl6 (by simpa using h3)]
           exact aj.au (by rw [hsg]; rfl) (by rfl)
       · have hsg : abl s (s.extract 1 s.size) (j8 0 (s.extract 1 s.size).data.toList) = ((j8 0 (s.extract 1 s.size).data.toList : Nat) : Int) := by unfold abl; rw [if_neg (by have := of_decide_eq_false h2; omega)]
         refine rn1 @h2 ?_
         (have ct := fp ((j8 0 (s.extract 1 s.size).data.toList : Nat) : Int) (by omega) (by omega); (first | refine ak.at ct ⟨leA, trivial⟩ ?_ | refine ai.at ct ⟨leA, trivial⟩ ?_); clear ct)
         rw [← hsg]
         refine rn1 @im ?_
         refine aw.split (fun h3 => ?_) (fun h3 => ?_) <;> refine rn1 @h3 ?_
         · rw [j7, hB.not (by simpa using h3)]
           exact aj.au rfl (by rfl)
         · rw [j7, hB.yes hi.2 hl6 (by simpa using h3)]
           exact aj.au (by rw [hsg]; rfl) (by rfl)
   · have hB : re s s := ahn (.inr ⟨hs1, by rw [hbb]; exact g2⟩)
     refine rn1 @g2 ?_
     have hts := hB.le
     refine rn0 ?_
     (have ct := ef (s.size : Int) 1 6; (first | refine ak.at ct ⟨leA, leA, leA, trivial⟩ ?_ | refine ai.at ct ⟨leA, leA, leA, trivial⟩ ?_); clear ct)
     refine rn0 ?_
     refine aw.split (fun g1 => ?_) (fun g1 => ?_) <;> refine rn1 @g1 ?_
     · have hr : ¬ (1 ≤ s.size ∧ s.size ≤ 6) := by
        have : ep (s.size : Int) 1 6 = false := by simpa using g1
        intro hx
        have h2 : ep (s.size : Int) 1 6 = true := gg.2 ⟨by omega, by omega⟩
        rw [this] at h2; cases h2
       rw [j7, hB.no (.inl hr)]
       exact aj.au rfl (by rfl)
     have hr : ep (s.size : Int) 1 6 = true := by simpa using g1
     have hr2 := gg.1 hr
     have hl : s.data.toList.length = s.size := gi s
     have hl6 : s.size ≤ 6 := by omega
     refine dn.intro (fun i : Nat => i ≤ s.size ∧ (s.data.toList.take i).all gm = true) (fun i => ⟨(.str s :: (un 3 (.str s :: .int .i64 (j8 0 (s.data.toList.take i)) :: .int .i64 i :: (un 51 [])))), [], 0⟩) (fun i => s.size - i) 0 ⟨Nat.zero_le _, rfl⟩ ?_ (fun i hi => ?_)
     · refine bo.cut (0) (by simp) (by simp) ?_ ?_
       · simp [LeC, LeV, ren, bh, ll]
       · rfl
     refine ev0 ?_
     refine aw.split (fun h1 => ?_) (fun h1 => ?_)
     · have hi' : i < s.size := by simpa using h1
       have hsm := me hi.2 (by rw [List.length_take]; omega)
       have hst : s.data.toList.take (i + 1) = s.data.toList.take i ++ [s[i]'hi'] := by
        rw [List.take_succ_eq_append_getElem (by rw [hl]; exact hi'), nt s hi']
       have hbad : gm (s[i]'hi') = false → dc s = none := fun hd => hB.no (.inr (by
        rw [List.all_eq_false]
        exact ⟨s[i]'hi', by rw [← nt s hi']; exact List.getElem_mem _, by simp [hd]⟩))
       refine ev1 @h1 ?_
       refine ⟨⟨by omega, hi'⟩, ?_⟩
       refine ax.cu (fun h2 => ?_) (fun h2 => ?_) <;> refine ev1 @h2 ?_
       · refine ⟨⟨by omega, hi'⟩, ?_⟩
         refine aw.split (fun h3 => ?_) (fun h3 => ?_) <;> refine ev1 @h3 ?_
         · rw [j7, hbad (by simp at h3; simp only [gm, Bool.and_eq_false_iff, decide_eq_false_iff_not]; omega)]
           exact aj.au rfl (by rfl)
         · have hdg : gm (s[i]'hi') = true := by simp at h2 h3; simp only [gm, Bool.and_eq_true, decide_eq_true_eq]; omega
           have hdg2 := hdg
           simp only [gm, Bool.and_eq_true, decide_eq_true_eq] at hdg2
           have hvs : j8 0 (s.data.toList.take (i + 1)) = j8 0 (s.data.toList.take i) * 10 + ((s[i]'hi').toNat - 48) := by rw [hst, aaf, mj, ll, pf]
           have hw8 : IntKind.u8.wrap (((s[i]'hi').toNat : Int) - 48) = ((s[i]'hi').toNat : Int) - 48 := by rw [IntKind.wrap_u8]; omega
           refine ⟨⟨by omega, hi'⟩, i + 1, ⟨hi', by rw [hst, List.all_append, hi.2]; simp [hdg]⟩, ?_, by omega⟩
           refine bo.cut (0) (by simp) (by simp) ?_ ?_
           · rw [hvs, hw8, wrap_i64 (n := 10 * _) (by omega) (by omega), wrap_i64 (n := _ - 48) (by omega) (by omega), wrap_i64 (n := 10 * _ + _) (by omega) (by omega), wrap_i64 (n := (i : Int) + 1) (by omega) (by omega)]
             simp [LeC, LeV, ren, bh]
             try omega
           · rfl
       · rw [j7, hbad (by simp at h2; simp only [gm, Bool.and_eq_false_iff, decide_eq_false_iff_not]; omega)]
         exact aj.au rfl (by rfl)
     · have hi' : i = s.size := by have := of_decide_eq_false h1; omega
       subst hi'
       have htk : s.data.toList.take s.size = s.data.toList := by rw [← hl, List.take_length]
       simp only [htk] at hi ⊢
       have hsm := me hi.2 (by omega)
       refine ev1 @h1 ?_
       have hsg : abl s s (j8 0 s.data.toList) = ((j8 0 s.data.toList : Nat) : Int) := by unfold abl; rw [if_neg (by omega)]
       (have ct := fp ((j8 0 s.data.toList : Nat) : Int) (by omega) (by omega); (first | refine ak.at ct ⟨leA, trivial⟩ ?_ | refine ai.at ct ⟨leA, trivial⟩ ?_); clear ct)
       rw [← hsg]
       refine rn1 @im ?_
       refine aw.split (fun h3 => ?_) (fun h3 => ?_) <;> refine rn1 @h3 ?_
       · rw [j7, hB.not (by simpa using h3)]
         exact aj.au rfl (by rfl)
       · rw [j7, hB.yes hi.2 hl6 (by simpa using h3)]
         exact aj.au (by rw [hsg]; rfl) (by rfl)
 · have hB : re s s := ahn (.inl (by simp at g0; omega))
   have hts := hB.le
   refine rn0 ?_
   (have ct := ef (s.size : Int) 1 6; (first | refine ak.at ct ⟨leA, leA, leA, trivial⟩ ?_ | refine ai.at ct ⟨leA, leA, leA, trivial⟩ ?_); clear ct)
   refine rn0 ?_
   refine aw.split (fun g1 => ?_) (fun g1 => ?_) <;> refine rn1 @g1 ?_
   · have hr : ¬ (1 ≤ s.size ∧ s.size ≤ 6) := by
      have : ep (s.size : Int) 1 6 = false := by simpa using g1
      intro hx
      have h2 : ep (s.size : Int) 1 6 = true := gg.2 ⟨by omega, by omega⟩
      rw [this] at h2; cases h2
     rw [j7, hB.no (.inl hr)]
     exact aj.au rfl (by rfl)
   have hr : ep (s.size : Int) 1 6 = true := by simpa using g1
   have hr2 := gg.1 hr
   have hl : s.data.toList.length = s.size := gi s
   have hl6 : s.size ≤ 6 := by omega
   refine dn.intro (fun i : Nat => i ≤ s.size ∧ (s.data.toList.take i).all gm = true) (fun i => ⟨(.str s :: (un 3 (.str s :: .int .i64 (j8 0 (s.data.toList.take i)) :: .int .i64 i :: (un 51 [])))), [], 0⟩) (fun i => s.size - i) 0 ⟨Nat.zero_le _, rfl⟩ ?_ (fun i hi => ?_)
   · refine bo.cut (0) (by simp) (by simp) ?_ ?_
     · simp [LeC, LeV, ren, bh, ll]
     · rfl
   refine ev0 ?_
   refine aw.split (fun h1 => ?_) (fun h1 => ?_)
   · have hi' : i < s.size := by simpa using h1
     have hsm := me hi.2 (by rw [List.length_take]; omega)
     have hst : s.data.toList.take (i + 1) = s.data.toList.take i ++ [s[i]'hi'] := by
      rw [List.take_succ_eq_append_getElem (by rw [hl]; exact hi'), nt s hi']
     have hbad : gm (s[i]'hi') = false → dc s = none := fun hd => hB.no (.inr (by
      rw [List.all_eq_false]
      exact ⟨s[i]'hi', by rw [← nt s hi']; exact List.getElem_mem _, by simp [hd]⟩))
     refine ev1 @h1 ?_
     refine ⟨⟨by omega, hi'⟩, ?_⟩
     refine ax.cu (fun h2 => ?_) (fun h2 => ?_) <;> refine ev1 @h2 ?_
     · refine ⟨⟨by omega, hi'⟩, ?_⟩
       refine aw.split (fun h3 => ?_) (fun h3 => ?_) <;> refine ev1 @h3 ?_
       · rw [j7, hbad (by simp at h3; simp only [gm, Bool.and_eq_false_iff, decide_eq_false_iff_not]; omega)]
         exact aj.au rfl (by rfl)
       · have hdg : gm (s[i]'hi') = true := by simp at h2 h3; simp only [gm, Bool.and_eq_true, decide_eq_true_eq]; omega
         have hdg2 := hdg
         simp only [gm, Bool.and_eq_true, decide_eq_true_eq] at hdg2
         have hvs : j8 0 (s.data.toList.take (i + 1)) = j8 0 (s.data.toList.take i) * 10 + ((s[i]'hi').toNat - 48) := by rw [hst, aaf, mj, ll, pf]
         have hw8 : IntKind.u8.wrap (((s[i]'hi').toNat : Int) - 48) = ((s[i]'hi').toNat : Int) - 48 := by rw [IntKind.wrap_u8]; omega
         refine ⟨⟨by omega, hi'⟩, i + 1, ⟨hi', by rw [hst, List.all_append, hi.2]; simp [hdg]⟩, ?_, by omega⟩
         refine bo.cut (0) (by simp) (by simp) ?_ ?_
         · rw [hvs, hw8, wrap_i64 (n := 10 * _) (by omega) (by omega), wrap_i64 (n := _ - 48) (by omega) (by omega), wrap_i64 (n := 10 * _ + _) (by omega) (by omega), wrap_i64 (n := (i : Int) + 1) (by omega) (by omega)]
           simp [LeC, LeV, ren, bh]
           try omega
         · rfl
     · rw [j7, hbad (by simp at h2; simp only [gm, Bool.and_eq_false_iff, decide_eq_false_iff_not]; omega)]
       exact aj.au rfl (by rfl)
   · have hi' : i = s.size := by have := of_decide_eq_false h1; omega
     subst hi'
     have htk : s.data.toList.take s.size = s.data.toList := by rw [← hl, List.take_length]
     simp only [htk] at hi ⊢
     have hsm := me hi.2 (by omega)
     refine ev1 @h1 ?_
     have hsg : abl s s (j8 0 s.data.toList) = ((j8 0 s.data.toList : Nat) : Int) := by unfold abl; rw [if_neg (by omega)]
     (have ct := fp ((j8 0 s.data.toList : Nat) : Int) (by omega) (by omega); (first | refine ak.at ct ⟨leA, trivial⟩ ?_ | refine ai.at ct ⟨leA, trivial⟩ ?_); clear ct)
     rw [← hsg]
     refine rn1 @im ?_
     refine aw.split (fun h3 => ?_) (fun h3 => ?_) <;> refine rn1 @h3 ?_
     · rw [j7, hB.not (by simpa using h3)]
       exact aj.au rfl (by rfl)
     · rw [j7, hB.yes hi.2 hl6 (by simpa using h3)]
       exact aj.au (by rw [hsg]; rfl) (by rfl)
end Go.Proofs
end
section
set_option maxRecDepth 100000
namespace Go.Proofs
open Go.Lv
structure ah where
 ae : ae
 Log : Log
def ah.cs (r : ah) : List V := [.int .i64 r.ae.Now, .sl r.ae.Posts.length 3 (Go.Lv.rows bc.cs r.ae.Posts), .sl r.ae.Shocks.length 5 (Go.Lv.rows al.cs r.ae.Shocks), .int .i64 r.ae.Next, .int .i64 r.ae.Archived, .str r.Log.Durable, .str r.Log.Pending, .int .i64 r.Log.Count]
def ah.v (r : ah) : V := .agg [.int .i64 r.ae.Now, .sl r.ae.Posts.length 3 (Go.Lv.rows bc.cs r.ae.Posts), .sl r.ae.Shocks.length 5 (Go.Lv.rows al.cs r.ae.Shocks), .int .i64 r.ae.Next, .int .i64 r.ae.Archived, .str r.Log.Durable, .str r.Log.Pending, .int .i64 r.Log.Count]
def ah.o (r : ah) (i0 i1 : Nat) : V := .agg [.int .i64 r.ae.Now, .osl i0 0 r.ae.Posts.length 3, .osl i1 0 r.ae.Shocks.length 5, .int .i64 r.ae.Next, .int .i64 r.ae.Archived, .str r.Log.Durable, .str r.Log.Pending, .int .i64 r.Log.Count]
theorem ah.csl (a : ah) : a.cs.length = 8 := rfl
def ah.ok (r : ah) : Prop := r.ae.ok ∧ r.Log.ok
theorem ah.le {h : Hp} {r : ah} {i0 i1 : Nat} (h0 : h[i0]? = some (some (rows bc.cs r.ae.Posts))) (h1 : h[i1]? = some (some (rows al.cs r.ae.Shocks))) : LeV (ren (fh h 3) 3 (r.o i0 i1)) r.v := by
 refine .inl ?_
 simp only [ah.o, ah.v, ren, List.map_cons, List.map_nil, fh, h0, h1, ab, List.drop_zero, db]
end Go.Proofs
end
section
set_option maxRecDepth 100000
set_option maxHeartbeats 1000000
namespace Go.Proofs
open Go.Lv
def ue (s : Int) : ByteArray := if s = 0 then ⟨#[110, 101, 119]⟩ else if s = 1 then ⟨#[108, 111, 99, 97, 116, 101, 100]⟩ else if s = 2 then ⟨#[114, 101, 118, 105, 101, 119, 101, 100]⟩ else ⟨#[112, 117, 98, 108, 105, 115, 104, 101, 100]⟩
def qs (x : al) : ByteArray := (ue x.State ++ ⟨#[32, 115, 101, 101, 110, 32]⟩) ++ num x.Seen
def mo (x : al) : ByteArray := if x.State = 0 then qs x else qs x ++ (⟨#[32, 115, 105, 122, 101, 32]⟩ ++ num x.Size)
theorem agh {n x : Int} {s : al} (h : lh n x s = true) : (num s.Seen).size ≤ 21 ∧ (num s.Size).size ≤ 21 := by
 have := gk.1 h
 exact ⟨jn (by omega) (by omega), jn (by omega) (by omega)⟩
def jj (w : ae) (n : Int) : V := if wB w = true then match w.Shocks.find? (dz n) with
 | some x => .tup [.str (mo x), .bool true]
 | none => .tup [.str ByteArray.empty, .bool false] else .tup [.str ByteArray.empty, .bool false]
theorem z6 (n t : Int) (x : al) (h : lh n t x = true) : Ctr Tryz.prog 48 [x.v] [] (.str (mo x)) [] := by
 have hv := gk.1 h
 have hs := agh h
 obtain ⟨N, S, E, Z, T⟩ := x
 simp only at hv hs
 have hst : S = 0 ∨ S = 1 ∨ S = 2 ∨ S = 3 := by omega
 rcases hst with rfl | rfl | rfl | rfl
 all_goals
  refine Ctr.intro Tryz.mixed Tryz.func48 rfl Tryz.a7f ?_
  refine ev2 @Tryz.ntmps48 @Tryz.results48 ?_
  refine ev1 @al.v.eq_1 ?_
  repeat (first | ((have ct := sk E ⟨by omega, by omega⟩; (first | refine ak.at ct ⟨leA, trivial⟩ ?_ | refine ai.at ct ⟨leA, trivial⟩ ?_); clear ct); refine ev0 ?_) | ((have ct := sk Z ⟨by omega, by omega⟩; (first | refine ak.at ct ⟨leA, trivial⟩ ?_ | refine ai.at ct ⟨leA, trivial⟩ ?_); clear ct); refine ev0 ?_) | (with_reducible refine And.intro (by first | omega | (show cc _ = true; kernel_rfl) | (simp only [ByteArray.size_append, cg, List.size_toArray, List.length_cons, List.length_nil]; omega)) ?_; try refine ew0 ?_))
  exact aj.au (by simp [mo, qs, ue]) (by rfl)
theorem ae7 (n t : Int) (x : al) (h : lh n t x = true) : Ctr Tryz.prog 50 [x.v] [] (.str (mo x)) [] := by
 have hv := gk.1 h
 have hs := agh h
 obtain ⟨N, S, E, Z, T⟩ := x
 simp only at hv hs
 have hst : S = 0 ∨ S = 1 ∨ S = 2 ∨ S = 3 := by omega
 rcases hst with rfl | rfl | rfl | rfl
 all_goals
  refine Ctr.intro Tryz.mixed Tryz.func50 rfl Tryz.a4k ?_
  refine ev2 @Tryz.ntmps50 @Tryz.results50 ?_
  refine ev1 @al.v.eq_1 ?_
  repeat (first | ((have ct := fp E (by omega) (by omega); (first | refine ak.at ct ⟨leA, trivial⟩ ?_ | refine ai.at ct ⟨leA, trivial⟩ ?_); clear ct); refine ev0 ?_) | ((have ct := fp Z (by omega) (by omega); (first | refine ak.at ct ⟨leA, trivial⟩ ?_ | refine ai.at ct ⟨leA, trivial⟩ ?_); clear ct); refine ev0 ?_) | (with_reducible refine And.intro (by first | omega | (show cc _ = true; kernel_rfl) | (simp only [ByteArray.size_append, cg, List.size_toArray, List.length_cons, List.length_nil]; omega)) ?_; try refine ew0 ?_))
  exact aj.au (by simp [mo, qs, ue, ByteArray.append_assoc]) (by rfl)
theorem ahl {α : Type} (p : α → Bool) (L : List α) : (∃ i, ∃ h : i < L.length, jx p L = (i : Int) ∧ L.find? p = some L[i]) ∨ (jx p L = -1 ∧ L.find? p = none) := by
 unfold jx
 cases h : L.findIdx? p with
 | none =>
  right
  refine ⟨rfl, ?_⟩
  rw [List.findIdx?_eq_none_iff] at h
  rw [List.find?_eq_none]
  intro x hx
  simpa using h x hx
 | some i =>
  left
  rw [List.findIdx?_eq_some_iff_getElem] at h
  obtain ⟨hi, h1, h2⟩ := h
  refine ⟨i, hi, rfl, ?_⟩
  rw [List.find?_eq_some_iff_getElem]
  exact ⟨h1, i, hi, rfl, fun j hj => by simpa using h2 j hj⟩
theorem yi (w : ae) (n : Int) (hp : w.Posts.length ≤ 281474976710656) (hs : w.Shocks.length ≤ 281474976710656) : Ctr Tryz.prog 73 [w.v, .int .i64 n] [] (jj w n) [] := by
 refine Ctr.intro Tryz.mixed Tryz.func73 rfl Tryz.a56 ?_
 refine ev2 @Tryz.ntmps73 @Tryz.results73 ?_
 refine ev1 @ae.v.eq_1 ?_
 (have ct := kg w n hs; (first | refine ak.at ct ⟨leA, leA, trivial⟩ ?_ | refine ai.at ct ⟨leA, leA, trivial⟩ ?_); clear ct)
 refine ev0 ?_
 (have ct := dx w hp hs; (first | refine ak.at ct ⟨leA, trivial⟩ ?_ | refine ai.at ct ⟨leA, trivial⟩ ?_); clear ct)
 cases h : wB w with
 | false =>
  refine ev1 @h ?_
  exact aj.au (by simp [jj, h]; rfl) (by rfl)
 | true =>
  have hw := ew h
  rcases ahl (dz n) w.Shocks with ⟨i, hi, e1, e2⟩ | ⟨e1, e2⟩
  · rw [e1]
    have hsh := hw.shocks _ (List.getElem_mem hi)
    have hr := bw al.csl hi
    have hd : decide ((i : Int) < 0) = false := decide_eq_false (by omega)
    refine rs5 @h @hd @hr @al.cs.eq_1 @ae.cs.eq_1 ?_
    (first | refine ak.at (z6 _ _ w.Shocks[i] hsh) ⟨leA, trivial⟩ ?_ | refine ai.at (z6 _ _ w.Shocks[i] hsh) ⟨leA, trivial⟩ ?_)
    refine ev0 ?_
    exact aj.au (by simp [jj, h, e2]) (by rfl)
  · rw [e1]
    refine ev1 @h ?_
    exact aj.au (by simp [jj, h, e2]; rfl) (by rfl)
theorem af0 (w : ae) (n : Int) (hp : w.Posts.length ≤ 281474976710656) (hs : w.Shocks.length ≤ 281474976710656) : Ctr Tryz.prog 156 [w.v, .int .i64 n] [] (jj w n) [] := by
 refine Ctr.intro Tryz.mixed Tryz.func156 rfl Tryz.azm ?_
 refine ev2 @Tryz.ntmps156 @Tryz.results156 ?_
 refine ev1 @ae.v.eq_1 ?_
 (have ct := kp w n hs; (first | refine ak.at ct ⟨leA, leA, trivial⟩ ?_ | refine ai.at ct ⟨leA, leA, trivial⟩ ?_); clear ct)
 refine ev0 ?_
 (have ct := ey w hp hs; (first | refine ak.at ct ⟨leA, trivial⟩ ?_ | refine ai.at ct ⟨leA, trivial⟩ ?_); clear ct)
 cases h : wB w with
 | false =>
  refine ev1 @h ?_
  exact aj.au (by simp [jj, h]; rfl) (by rfl)
 | true =>
  have hw := ew h
  rcases ahl (dz n) w.Shocks with ⟨i, hi, e1, e2⟩ | ⟨e1, e2⟩
  · rw [e1]
    have hsh := hw.shocks _ (List.getElem_mem hi)
    have hr := bw al.csl hi
    have hd : decide ((i : Int) < 0) = false := decide_eq_false (by omega)
    refine rs5 @h @hd @hr @al.cs.eq_1 @ae.cs.eq_1 ?_
    (first | refine ak.at (ae7 _ _ w.Shocks[i] hsh) ⟨leA, trivial⟩ ?_ | refine ai.at (ae7 _ _ w.Shocks[i] hsh) ⟨leA, trivial⟩ ?_)
    refine ev0 ?_
    exact aj.au (by simp [jj, h, e2]) (by rfl)
  · rw [e1]
    refine ev1 @h ?_
    exact aj.au (by simp [jj, h, e2]; rfl) (by rfl)
end Go.Proofs
end
section
set_option maxRecDepth 100000
namespace Go.Proofs
open Go.Lv
structure fm where
 Week : Int
 Events : Int
 Felt : Int
 Picks : Int
 Lost : Int
def fm.cs (r : fm) : List V := [.int .i64 r.Week, .int .i64 r.Events, .int .i64 r.Felt, .int .i64 r.Picks, .int .i64 r.Lost]
def fm.v (r : fm) : V := .agg [.int .i64 r.Week, .int .i64 r.Events, .int .i64 r.Felt, .int .i64 r.Picks, .int .i64 r.Lost]
theorem fm.csl (a : fm) : a.cs.length = 5 := rfl
instance : r3 fm.cs 5 := ⟨fun _ => rfl, fun _ d => by cases d <;> rfl, fun _ => rfl, fun _ => rfl⟩
def fm.ok (r : fm) : Prop := bu r.Week ∧ bu r.Events ∧ bu r.Felt ∧ bu r.Picks ∧ bu r.Lost
abbrev fm.rows (L : List fm) : List V := Go.Lv.rows fm.cs L
abbrev fm.sl (L : List fm) : V := .sl L.length 5 (Go.Lv.rows fm.cs L)
abbrev fm.zs : List V := [.int .i64 0, .int .i64 0, .int .i64 0, .int .i64 0, .int .i64 0]
def fm.mk1 (k : Int) : fm := ⟨k, k + 1, k + 1 + 1, k + 1 + 1 + 1, k + 1 + 1 + 1 + 1⟩
def fm.marks (k : Int) (n : Nat) : List fm := (List.range n).map fun i : Nat => fm.mk1 (k + 5 * (i : Int))
@[simp] theorem fm.uq (k : Int) (n : Nat) : (fm.marks k n).length = n := by simp [fm.marks]
end Go.Proofs
end
section
set_option maxRecDepth 100000
set_option maxHeartbeats 1000000
namespace Go.Proofs
open Go.Lv
def ni (c : ah) : Bool := wB c.ae && jd c.Log
def ah.fits (c : ah) : Prop := c.ae.Posts.length ≤ 1048576 ∧ c.ae.Shocks.length ≤ 1048576 ∧ c.Log.Durable.size ≤ 4194304 ∧ c.Log.Pending.size ≤ 4194304
theorem ja (c : ah) (hc : c.fits) : Ctr Tryz.prog 11 [c.v] [] (.bool (ni c)) [] := by
 obtain ⟨h0, h1, h2, h3⟩ := hc
 refine Ctr.intro Tryz.mixed Tryz.func11 rfl Tryz.a7x ?_
 refine ev2 @Tryz.ntmps11 @Tryz.results11 ?_
 refine ev1 @ah.v.eq_1 ?_
 (have ct := dx c.ae (by omega) (by omega); (first | refine ak.at ct ⟨leA, trivial⟩ ?_ | refine ai.at ct ⟨leA, trivial⟩ ?_); clear ct)
 cases h : wB c.ae with
 | false =>
  refine ev1 @h ?_
  exact aj.au (by simp [ni, h]) (by rfl)
 | true =>
  refine ev1 @h ?_
  (have ct := rk c.Log h2 h3; (first | refine ak.at ct ⟨leA, trivial⟩ ?_ | refine ai.at ct ⟨leA, trivial⟩ ?_); clear ct)
  refine ev0 ?_
  exact aj.au (by simp [ni, h]) (by rfl)
theorem afj (c : ah) (hc : c.fits) : Ctr Tryz.prog 38 [c.v] [] (.bool (ni c)) [] := by
 obtain ⟨h0, h1, h2, h3⟩ := hc
 refine Ctr.intro Tryz.mixed Tryz.func38 rfl Tryz.a5m ?_
 refine ev2 @Tryz.ntmps38 @Tryz.results38 ?_
 refine ev1 @ah.v.eq_1 ?_
 (have ct := ey c.ae (by omega) (by omega); (first | refine ak.at ct ⟨leA, trivial⟩ ?_ | refine ai.at ct ⟨leA, trivial⟩ ?_); clear ct)
 cases h : wB c.ae with
 | false =>
  refine ev1 @h ?_
  exact aj.au (by simp [ni, h]) (by rfl)
 | true =>
  refine ev1 @h ?_
  (have ct := uk c.Log h2 h3; (first | refine ak.at ct ⟨leA, trivial⟩ ?_ | refine ai.at ct ⟨leA, trivial⟩ ?_); clear ct)
  refine ev0 ?_
  exact aj.au (by simp [ni, h]) (by rfl)
end Go.Proofs
end
section
namespace Go.Lv
variable {α : Type}
def ae9 (lt : α → α → Bool) (S : List α) (x : α) : Nat → Nat
 | 0 => 0
 | k + 1 => match S[k]? with
  | some y => if lt x y then ae9 lt S x k else k + 1
  | none => k + 1
theorem ahc {lt : α → α → Bool} {S : List α} {x : α} {k : Nat} (hk : k < S.length) (h : lt x S[k] = true) : ae9 lt S x (k + 1) = ae9 lt S x k := by
 simp [ae9, hk, h]
theorem ag6 {lt : α → α → Bool} {S : List α} {x : α} {k : Nat} (hk : k < S.length) (h : lt x S[k] = false) : ae9 lt S x (k + 1) = k + 1 := by
 simp [ae9, hk, h]
def putAt (S : List α) (x : α) (j : Nat) : List α := S.take j ++ x :: S.drop j
theorem agz (S : List α) (x : α) (j : Nat) : (putAt S x j).length = S.length + 1 := by
 simp [putAt]; omega
theorem apz (S : List α) (x : α) : putAt S x S.length = S ++ [x] := by simp [putAt]
def ins (lt : α → α → Bool) (S : List α) (x : α) : List α := putAt S x (ae9 lt S x S.length)
def cw (lt : α → α → Bool) (L : List α) : List α := L.foldl (ins lt) []
theorem avp (lt : α → α → Bool) (S : List α) (x : α) : (ins lt S x).length = S.length + 1 := agz _ _ _
theorem aiz (lt : α → α → Bool) (L : List α) (x : α) : cw lt (L ++ [x]) = ins lt (cw lt L) x := by simp [cw]
theorem aaw {lt : α → α → Bool} {L : List α} {i : Nat} (hi : i < L.length) : cw lt (L.take (i + 1)) = ins lt (cw lt (L.take i)) L[i] := by
 rw [List.take_succ_eq_append_getElem hi, aiz]
theorem js (lt : α → α → Bool) (L : List α) : (cw lt L).length = L.length := by
 have key : ∀ (L S : List α), (L.foldl (ins lt) S).length = S.length + L.length := by
  intro L
  induction L with
  | nil => intro S; simp
  | cons a L ih => intro S; rw [List.foldl_cons, ih, avp]; simp; omega
 have := key L []
 simpa [cw] using this
theorem akf (lt : α → α → Bool) (L : List α) (h : L.length ≤ 1) : cw lt L = L := by
 match L, h with
 | [], _ => rfl
 | [a], _ => rfl
def qe (S R : List α) (x : α) (j : Nat) : List α := putAt S x j ++ R
theorem ast (S R : List α) (x : α) (j : Nat) : (qe S R x j).length = S.length + 1 + R.length := by simp [qe, agz]
theorem aqw {S R : List α} {x : α} {j : Nat} (hj : j ≤ S.length) (h : j < (qe S R x j).length) : (qe S R x j)[j] = x := by
 have : (qe S R x j)[j]? = some x := by
  rw [qe, putAt, List.append_assoc, List.getElem?_append_right (by simp; omega)]
  simp [Nat.min_eq_left hj]
 rw [List.getElem?_eq_getElem h] at this
 exact Option.some.inj this
theorem ae0 {S R : List α} {x : α} {j : Nat} (hj : j < S.length) (h : j < (qe S R x (j + 1)).length) : (qe S R x (j + 1))[j] = S[j] := by
 have : (qe S R x (j + 1))[j]? = some S[j] := by
  rw [qe, putAt, List.append_assoc, List.getElem?_append_left (by simp; omega), List.getElem?_take_of_lt (by omega), List.getElem?_eq_getElem hj]
 rw [List.getElem?_eq_getElem h] at this
 exact Option.some.inj this
theorem apv {S R : List α} {x : α} {j : Nat} (hj : j < S.length) : ((qe S R x (j + 1)).set (j + 1) S[j]).set j x = qe S R x j := by
 have hd : S.drop j = S[j] :: S.drop (j + 1) := List.drop_eq_getElem_cons hj
 have ht : S.take (j + 1) = S.take j ++ [S[j]] := List.take_succ_eq_append_getElem hj
 have hl : (S.take j).length = j := by simp; omega
 simp only [qe, putAt, ht, hd, List.append_assoc, List.cons_append, List.nil_append, List.singleton_append]
 rw [List.set_append_right _ _ (by omega), hl, List.set_append_right _ _ (by omega), hl]
 simp
def ail (lt : α → α → Bool) (L : List α) (i : Nat) : List α := cw lt (L.take i) ++ L.drop i
theorem arn (lt : α → α → Bool) (L : List α) : ail lt L 1 = L := by
 rw [ail, akf lt _ (by simp; omega), List.take_append_drop]
theorem aq6 (lt : α → α → Bool) (L : List α) {i : Nat} (h : L.length ≤ i) : ail lt L i = cw lt L := by
 simp [ail, List.take_of_length_le h, List.drop_eq_nil_of_le h]
theorem aqr {lt : α → α → Bool} {L : List α} {i : Nat} (hi : i < L.length) : ail lt L i = qe (cw lt (L.take i)) (L.drop (i + 1)) L[i] i := by
 have hl : (cw lt (L.take i)).length = i := by rw [js]; simp; omega
 rw [ail, List.drop_eq_getElem_cons hi, qe]
 have := apz (cw lt (L.take i)) L[i]
 rw [hl] at this
 rw [this]; simp
theorem ahi {lt : α → α → Bool} {L : List α} {i j : Nat} (hi : i < L.length) (h : ae9 lt (cw lt (L.take i)) L[i] i = j) : qe (cw lt (L.take i)) (L.drop (i + 1)) L[i] j = ail lt L (i + 1) := by
 have hl : (cw lt (L.take i)).length = i := by rw [js]; simp; omega
 rw [ail, aaw hi, ins, hl, h, qe]
end Go.Lv
end
section
set_option maxRecDepth 100000
set_option maxHeartbeats 1000000
namespace Go.Proofs
open Go.Lv
theorem aah (L : List al) (c : al → al → Int) (fc : Nat) (hv : ∀ x y, Ctr Tryz.prog fc [al.v x, al.v y] [] (.int .i64 (c x y)) []) (hl : L.length ≤ 19) :
 Ctr Tryz.prog 200 [.osl 0 0 L.length 5, .int .i64 0, .int .i64 L.length, .fn (.func fc) [] []] [some (rows al.cs L)] (.tup []) [some (rows al.cs (cw (fun x y => decide (c x y < 0)) L))] := by
 generalize hlt : (fun x y => decide (c x y < 0)) = lt
 have ltv : ∀ x y, lt x y = decide (c x y < 0) := fun x y => by rw [← hlt]
 refine Ctr.intro Tryz.mixed Tryz.func200 rfl Tryz.ayj ?_
 refine ev2 @Tryz.ntmps200 @Tryz.results200 ?_
 refine dn.intro (fun i : Nat => 1 ≤ i ∧ (i ≤ 1 ∨ i ≤ L.length)) (fun i => ⟨(.osl 0 0 L.length 5 :: .int .i64 0 :: .int .i64 L.length :: .fn (.func fc) [] [] :: (un 4 (.int .i64 i :: (un 44 [])))), [some (rows al.cs (ail lt L i))], 1⟩) (fun i => L.length - i) 1 ⟨Nat.le_refl _, .inl (Nat.le_refl _)⟩ ?_ (fun i hi => ?_)
 · refine bo.cut (1) (by simp) (by simp) ?_ ?_
   · (simp [LeC, LeV, ren, bh]; rfl)
   · rw [arn]; simp [cb, ck, ab]
 refine ev0 ?_
 refine aw.split (fun h1 => ?_) (fun h1 => ?_)
 · refine ev1 @h1 ?_
   have hi' : i < L.length := by simpa using h1
   have hS : (cw lt (L.take i)).length = i := by rw [js]; simp; omega
   rw [aqr hi']
   refine dn.intro (fun j : Nat => j ≤ i ∧ ae9 lt (cw lt (L.take i)) L[i] i = ae9 lt (cw lt (L.take i)) L[i] j) (fun j => ⟨(.osl 0 0 L.length 5 :: .int .i64 0 :: .int .i64 L.length :: .fn (.func fc) [] [] :: (un 4 (.int .i64 i :: .int .i64 j :: (un 43 [])))), [some (rows al.cs (qe (cw lt (L.take i)) (L.drop (i + 1)) L[i] j))], 1⟩) (fun j => j) i ⟨Nat.le_refl _, rfl⟩ ?_ (fun j hj => ?_)
   · refine bo.cut (1) (by simp) (by simp) ?_ ?_
     · simp [LeC, LeV, ren, bh]
     · simp [cb, ck, ab]
   have hml : ∀ j, (qe (cw lt (L.take i)) (L.drop (i + 1)) L[i] j).length = L.length := fun j => by rw [ast, hS, List.length_drop]; omega
   refine ev0 ?_
   refine ⟨by kernel_rfl, ?_⟩
   cases j with
   | zero =>
    have hz : ((0 : Nat) : Int) = 0 := rfl
    refine rn1 @hz ?_
    refine ⟨i + 1, ⟨by omega, .inr hi'⟩, ?_, by omega⟩
    refine bo.cut (1) (by simp) (by simp) ?_ ?_
    · simp [LeC, LeV, ren, bh]
    · rw [ahi (j := 0) hi' hj.2]
      simp [cb, ck, ab]
   | succ j =>
    have hjS : j < (cw lt (L.take i)).length := by rw [hS]; omega
    have hg : decide ((0 : Int) < ((j + 1 : Nat) : Int)) = true := decide_eq_true (by omega)
    have hw1 : IntKind.i64.wrap (((j + 1 : Nat) : Int) - 1) = (j : Int) := by rw [wrap_i64 (by omega) (by omega)]; omega
    have hk1 : j + 1 < (qe (cw lt (L.take i)) (L.drop (i + 1)) L[i] (j + 1)).length := by rw [hml]; omega
    have hk0 : j < (qe (cw lt (L.take i)) (L.drop (i + 1)) L[i] (j + 1)).length := by rw [hml]; omega
    have g1 := aqw (S := cw lt (L.take i)) (R := L.drop (i + 1)) (x := L[i]) (j := j + 1) (by omega) hk1
    have g0 := ae0 (R := L.drop (i + 1)) (x := L[i]) hjS hk0
    have hr1 := bw al.csl hk1
    have hr0 := bw al.csl hk0
    have hlr := lu (w := 5) al.csl (qe (cw lt (L.take i)) (L.drop (i + 1)) L[i] (j + 1))
    rw [g1] at hr1
    rw [g0] at hr0
    rw [hml] at hlr
    refine rn6 @hg @hw1 @hr1 @hr0 @hlr @al.cs.eq_1 ?_
    (have ct := hv L[i] (cw lt (L.take i))[j]; (first | refine ak.at ct ⟨leA, leA, trivial⟩ ?_ | refine ai.at ct ⟨leA, leA, trivial⟩ ?_); clear ct)
    refine ev0 ?_
    have hlx := ltv L[i] (cw lt (L.take i))[j]
    rw [← hlx]
    refine aw.split (fun h2 => ?_) (fun h2 => ?_)
    · have s1 := ob al.csl hk1 (cw lt (L.take i))[j]
      have s2 := ob (L := (qe (cw lt (L.take i)) (L.drop (i + 1)) L[i] (j + 1)).set (j + 1) (cw lt (L.take i))[j]) al.csl (by rw [List.length_set]; exact hk0) L[i]
      rw [apv hjS] at s2
      simp only [al.cs] at s1 s2
      refine rn6 @h2 @hw1 @hr1 @hr0 @hlr @al.cs.eq_1 ?_
      have hl2 : (rows al.cs ((qe (cw lt (L.take i)) (L.drop (i + 1)) L[i] (j + 1)).set (j + 1) (cw lt (L.take i))[j])).length = L.length * 5 := by rw [lu (w := 5) al.csl, List.length_set, hml]
      rw [s1, s2]
      refine ⟨by rw [hl2]; omega, j, ⟨by omega, hj.2.trans (ahc hjS h2)⟩, ?_, by omega⟩
      refine bo.cut (1) (by simp) (by simp) ?_ ?_
      · simp [LeC, LeV, ren, bh]
      · simp [cb, ck, ab]
    · refine ev1 @h2 ?_
      have hp := ag6 hjS h2
      refine ⟨i + 1, ⟨by omega, .inr hi'⟩, ?_, by omega⟩
      refine bo.cut (1) (by simp) (by simp) ?_ ?_
      · rw [wrap_i64 (by omega) (by omega)]; simp [LeC, LeV, ren, bh]
      · rw [ahi hi' (hj.2.trans hp)]
        simp [cb, ck, ab]
 · refine ev1 @h1 ?_
   have h1' : L.length ≤ i := by simp at h1; omega
   rw [aq6 lt L h1']
   exact aj.refl _ _ _
theorem aey (L : List al) (c : al → al → Int) (fc : Nat) (hv : ∀ x y, Ctr Tryz.prog fc [al.v x, al.v y] [] (.int .i64 (c x y)) []) (hl : L.length ≤ 19) :
 Ctr Tryz.prog 183 [.osl 0 0 L.length 5, .int .i64 L.length, .fn (.func fc) [] []] [some (rows al.cs L)] (.tup []) [some (rows al.cs (cw (fun x y => decide (c x y < 0)) L))] := by
 refine Ctr.intro Tryz.mixed Tryz.func183 rfl Tryz.azq ?_
 refine ev2 @Tryz.ntmps183 @Tryz.results183 ?_
 have c0 : decide ((20 : Int) ≤ L.length) = false := decide_eq_false (by omega)
 have c1 : decide ((20 : Int) < L.length) = false := decide_eq_false (by omega)
 refine dn.intro (fun _ : Unit => True) (fun _ => ⟨(.osl 0 0 L.length 5 :: .int .i64 L.length :: .fn (.func fc) [] [] :: (un 3 (.int .i64 20 :: .int .i64 0 :: .int .i64 20 :: (un 54 [])))), [some (rows al.cs L)], 1⟩) (fun _ => 0) () trivial ?_ (fun _ _ => ?_)
 · refine bo.cut (1) (by simp) (by simp) ?_ ?_
   · simp [LeC, LeV, ren, bh]
   · simp [cb, ck, ab]
 refine ev1 @c0 ?_
 refine ai.dp [0] false ( aah L c fc hv hl) (by decide) ⟨leO, leO, leO, leO, trivial⟩ anm ( abj (by simp [ay, js])) (.inl rfl) ?_
 refine ev0 ?_
 refine dn.intro (fun _ : Unit => True) (fun _ => ⟨(.osl 0 0 L.length 5 :: .int .i64 L.length :: .fn (.func fc) [] [] :: (un 3 (.int .i64 20 :: (un 56 [])))), [some (rows al.cs (cw (fun x y => decide (c x y < 0)) L))], 1⟩) (fun _ => 0) () trivial ?_ (fun _ _ => ?_)
 · refine bo.cut (1) (by simp) (by simp) ?_ ?_
   · simp [LeC, LeV, ren, bh]
   · simp [cb, ck, ab]
 refine ev1 @c1 ?_
 exact aj.refl _ _ _
theorem yr (L : List al) (c : al → al → Int) (fc : Nat) (hv : ∀ x y, Ctr Tryz.prog fc [al.v x, al.v y] [] (.int .i64 (c x y)) []) (hl : L.length ≤ 19) :
 Ctr Tryz.prog 151 [.osl 0 0 L.length 5, .fn (.func fc) [] []] [some (rows al.cs L)] (.tup []) [some (rows al.cs (cw (fun x y => decide (c x y < 0)) L))] := by
 refine Ctr.intro Tryz.mixed Tryz.func151 rfl Tryz.ayx ?_
 refine ev2 @Tryz.ntmps151 @Tryz.results151 ?_
 refine ai.dp [0] false ( aey L c fc hv hl) (by decide) ⟨leO, leO, leO, trivial⟩ anm ( abj (by simp [ay, js])) (.inl rfl) ?_
 refine ev0 ?_
 exact aj.refl _ _ _
end Go.Proofs
end
section
namespace Go.Lv
variable {α : Type}
theorem adm {lt : α → α → Bool} {A B : List α} {x : α} (hB : ∀ b ∈ B, lt x b = true) (hA : ∀ a ∈ A, lt x a = false) : ∀ k, k ≤ B.length → ae9 lt (A ++ B) x (A.length + k) = A.length
 | 0, _ => by
  cases h : A.length with
  | zero => rfl
  | succ m =>
   have hm : m < (A ++ B).length := by rw [List.length_append]; omega
   have e : (A ++ B)[m] = A[m]'(by omega) := List.getElem_append_left (by omega)
   exact ag6 hm (by rw [e]; exact hA _ (List.getElem_mem _))
 | k + 1, hk => by
  have hm : A.length + k < (A ++ B).length := by rw [List.length_append]; omega
  have e : (A ++ B)[A.length + k] = B[k]'(by omega) := by
   rw [List.getElem_append_right (by omega)]
   congr 1; omega
  rw [← Nat.add_assoc, ahc hm (by rw [e]; exact hB _ (List.getElem_mem _))]
  exact adm hB hA k (by omega)
theorem apq {lt : α → α → Bool} {A B : List α} {x : α} (hB : ∀ b ∈ B, lt x b = true) (hA : ∀ a ∈ A, lt x a = false) : ins lt (A ++ B) x = A ++ x :: B := by
 rw [ins, List.length_append, adm hB hA _ (Nat.le_refl _), putAt]
 simp
def ju (f : α → Int) (c : Int) (L : List α) (J : List Nat) : List α := J.flatMap fun (j : Nat) => L.filter fun x => f x == c - (j : Int)
theorem ua (f : α → Int) (c : Int) (L : List α) (J K : List Nat) : ju f c L (J ++ K) = ju f c L J ++ ju f c L K := by simp [ju]
theorem ab9 {f : α → Int} {c : Int} {L : List α} {J : List Nat} {x : α} (h : x ∈ ju f c L J) : ∃ j ∈ J, f x = c - (j : Int) := by
 simp only [ju, List.mem_flatMap, List.mem_filter, beq_iff_eq] at h
 obtain ⟨j, hj, _, e⟩ := h
 exact ⟨j, hj, e⟩
theorem aeq {f : α → Int} {c : Int} {L : List α} {J : List Nat} {x : α} (h : ∀ j ∈ J, f x ≠ c - (j : Int)) : ju f c (L ++ [x]) J = ju f c L J := by
 induction J with
 | nil => rfl
 | cons j J ih =>
  have h1 : f x ≠ c - (j : Int) := h j (by simp)
  have h2 := ih (fun k hk => h k (by simp [hk]))
  simp only [ju, List.flatMap_cons] at h2 ⊢
  rw [h2, List.filter_append]
  simp [h1]
theorem af6 {f : α → Int} {c : Int} {n : Nat} : ∀ {L : List α}, (∀ x ∈ L, c - n < f x ∧ f x ≤ c) → cw (fun x y => decide (f y < f x)) L = ju f c L (List.range n) := by
 intro L hL
 have key : ∀ i, i ≤ L.length → cw (fun x y => decide (f y < f x)) (L.take i) = ju f c (L.take i) (List.range n) := by
  intro i
  induction i with
  | zero => intro _; simp [cw, ju]
  | succ i ih =>
   intro hi
   have hi' : i < L.length := hi
   have hx := hL L[i] (List.getElem_mem hi')
   rw [aaw hi', ih (by omega), List.take_succ_eq_append_getElem hi']
   obtain ⟨j, m, e1, e2⟩ : ∃ j m : Nat, f L[i] = c - (j : Int) ∧ n = j + (m + 1) := ⟨(c - f L[i]).toNat, n - 1 - (c - f L[i]).toNat, by omega, by omega⟩
   have hr : List.range n = List.range j ++ ([j] ++ (List.range m).map (fun k => j + (k + 1))) := by
    rw [e2, List.range_add, List.range_succ_eq_map]
    simp
   rw [hr, ua, ua, ua, ua]
   rw [aeq (J := List.range j) (by intro k hk; have := List.mem_range.1 hk; omega)]
   rw [aeq (J := (List.range m).map (fun k => j + (k + 1))) (by
    intro k hk
    obtain ⟨k, _, rfl⟩ := List.mem_map.1 hk
    omega)]
   have hone : ju f c (L.take i ++ [L[i]]) [j] = ju f c (L.take i) [j] ++ [L[i]] := by
    simp only [ju, List.flatMap_cons, List.flatMap_nil, List.append_nil, List.filter_append]
    simp [e1]
   rw [hone, ← List.append_assoc]
   rw [apq (A := ju f c (L.take i) (List.range j) ++ ju f c (L.take i) [j]) (B := ju f c (L.take i) ((List.range m).map (fun k => j + (k + 1))))]
   · simp
   · intro b hb
     obtain ⟨k, hk, e⟩ := ab9 hb
     obtain ⟨k, _, rfl⟩ := List.mem_map.1 hk
     simp; omega
   · intro a ha
     rcases List.mem_append.1 ha with h | h
     · obtain ⟨k, hk, e⟩ := ab9 h
       have := List.mem_range.1 hk
       simp; omega
     · obtain ⟨k, hk, e⟩ := ab9 h
       simp at hk; subst hk
       simp; omega
 have := key L.length (Nat.le_refl _)
 simpa using this
end Go.Lv
end
section
set_option maxRecDepth 100000
set_option maxHeartbeats 1000000
namespace Go.Proofs
open Go.Lv
def amv (a b : Int) : Int := if a < b then -1 else if b < a then 1 else 0
theorem ari (a b : Int) : decide (amv a b < 0) = decide (a < b) := by
 unfold amv
 split
 · rename_i h; simp [h]
 · rename_i h; split <;> simp [h]
theorem s6 (a : Int) : Ctr Tryz.prog 184 [.int .i64 a] [] (.bool false) [] := by
 refine Ctr.intro Tryz.mixed Tryz.func184 rfl Tryz.aye ?_
 refine ev2 @Tryz.ntmps184 @Tryz.results184 ?_
 exact aj.au (by simp) (by rfl)
theorem afw (a b : Int) : Ctr Tryz.prog 153 [.int .i64 a, .int .i64 b] [] (.int .i64 (amv a b)) [] := by
 refine Ctr.intro Tryz.mixed Tryz.func153 rfl Tryz.a06 ?_
 refine ev2 @Tryz.ntmps153 @Tryz.results153 ?_
 (first | refine ak.at (s6 a) ⟨leA, trivial⟩ ?_ | refine ai.at (s6 a) ⟨leA, trivial⟩ ?_)
 refine ev0 ?_
 (first | refine ak.at (s6 b) ⟨leA, trivial⟩ ?_ | refine ai.at (s6 b) ⟨leA, trivial⟩ ?_)
 refine ev0 ?_
 refine aw.split (fun h1 => ?_) (fun h1 => ?_) <;> refine ev1 @h1 ?_
 · exact aj.au (by rw [amv, if_pos (of_decide_eq_true h1)]) (by rfl)
 · refine aw.split (fun h2 => ?_) (fun h2 => ?_) <;> refine ev1 @h2 ?_
   · exact aj.au (by rw [amv, if_neg (of_decide_eq_false h1), if_pos (of_decide_eq_true h2)]) (by rfl)
   · exact aj.au (by rw [amv, if_neg (of_decide_eq_false h1), if_neg (of_decide_eq_false h2)]) (by rfl)
def lb (x : al) : Bool := x.State == 1
def ajw (x y : al) : Int := amv y.Size x.Size
def o5 (w : ae) : List al := cw (fun x y => decide (ajw x y < 0)) (w.Shocks.filter lb)
theorem amf {w : ae} (hw : wB w = true) : o5 w = ju al.Size 95 (w.Shocks.filter lb) (List.range 116) := by
 have h : (fun x y : al => decide (ajw x y < 0)) = fun x y => decide (y.Size < x.Size) := by
  funext x y
  exact ari _ _
 rw [o5, h]
 refine af6 (fun x hx => ?_)
 have := gk.1 ((ew hw).shocks x (List.mem_filter.1 hx).1)
 omega
theorem amh {w : ae} (hw : wB w = true) : ∃ G : Nat → List al, G 0 = [] ∧ (∀ j : Nat, G (j + 1) = G j ++ (w.Shocks.filter fun x => lb x && x.Size == 95 - (j : Int))) ∧ (∀ j, (G j).length ≤ 6 * j) ∧ o5 w = G 116 := by
 have hlen := (ew hw).slen
 have GS : ∀ j : Nat, ju al.Size 95 (w.Shocks.filter lb) (List.range (j + 1)) = ju al.Size 95 (w.Shocks.filter lb) (List.range j) ++ (w.Shocks.filter fun x => lb x && x.Size == 95 - (j : Int)) := by
  intro j
  rw [List.range_succ, ua]
  congr 1
  simp only [ju, List.flatMap_cons, List.flatMap_nil, List.append_nil, List.filter_filter]
  congr 1
  funext x
  exact Bool.and_comm _ _
 refine ⟨fun j => ju al.Size 95 (w.Shocks.filter lb) (List.range j), rfl, GS, fun j => ?_, amf hw⟩
 induction j with
 | zero => simp [ju]
 | succ j ih =>
  show (ju al.Size 95 (w.Shocks.filter lb) (List.range (j + 1))).length ≤ _
  rw [GS, List.length_append]
  have := List.length_filter_le (fun x => lb x && x.Size == 95 - (j : Int)) w.Shocks
  have ih' : (ju al.Size 95 (w.Shocks.filter lb) (List.range j)).length ≤ 6 * j := ih
  omega
def kq (w : ae) : Option (List Int) := if wB w = true then some ((o5 w).map al.Number) else none
theorem aln (x : al) : Ctr Tryz.prog 150 [x.v] [] (.bool (lb x)) [] := by
 refine Ctr.intro Tryz.mixed Tryz.func150 rfl Tryz.ay5 ?_
 refine ev2 @Tryz.ntmps150 @Tryz.results150 ?_
 refine ev1 @al.v.eq_1 ?_
 exact aj.au rfl (by rfl)
theorem ao2 (x y : al) : Ctr Tryz.prog 152 [x.v, y.v] [] (.int .i64 (ajw x y)) [] := by
 refine Ctr.intro Tryz.mixed Tryz.func152 rfl Tryz.azw ?_
 refine ev2 @Tryz.ntmps152 @Tryz.results152 ?_
 refine ev1 @al.v.eq_1 ?_
 (have ct := afw y.Size x.Size; (first | refine ak.at ct ⟨leA, leA, trivial⟩ ?_ | refine ai.at ct ⟨leA, leA, trivial⟩ ?_); clear ct)
 refine ev0 ?_
 exact aj.au rfl (by rfl)
theorem ahs (w : ae) (hp : w.Posts.length ≤ 16777216) (hs : w.Shocks.length ≤ 16777216) : Ctr Tryz.prog 115 [w.v] [] (wg 1 (kq w)) (o8 IntS.cs (kq w)) := by
 refine Ctr.intro Tryz.mixed Tryz.func115 rfl Tryz.ays ?_
 refine ev2 @Tryz.ntmps115 @Tryz.results115 ?_
 refine ev1 @ae.v.eq_1 ?_
 (have ct := dx w (by omega) (by omega); (first | refine ak.at ct ⟨leA, trivial⟩ ?_ | refine ai.at ct ⟨leA, trivial⟩ ?_); clear ct)
 cases h : wB w with
 | false =>
  refine ev0 ?_
  have e : kq w = none := by simp [kq, h]
  rw [e]
  exact aj.au rfl (by rfl)
 | true =>
  have e : kq w = some ((o5 w).map al.Number) := by simp [kq, h]
  rw [e]
  have hw := ew h
  have hlen := hw.slen
  have hfl : (w.Shocks.filter lb).length ≤ 6 := Nat.le_trans (List.length_filter_le _ _) hlen
  have hrl : (o5 w).length = (w.Shocks.filter lb).length := js _ _
  refine ev0 ?_
  (first | refine ak.at (wv w.Shocks lb _ [] (fun _ => rfl) aln hs) ⟨leA, leA, trivial⟩ ?_ | refine ai.at (wv w.Shocks lb _ [] (fun _ => rfl) aln hs) ⟨leA, leA, trivial⟩ ?_)
  refine ev0 ?_
  refine ai.dp [1] false ( yr (w.Shocks.filter lb) ajw _ ao2 (by omega)) (by decide) ⟨leO, leO, trivial⟩ anm ( abj (by simp [ay, js])) (.inl rfl) ?_
  have hr0 : cw (fun x y => decide (ajw x y < 0)) (w.Shocks.filter lb) = o5 w := rfl
  rw [hr0]
  refine ev0 ?_
  rw [← hrl]
  refine dn.intro (fun i : Nat => i ≤ (o5 w).length) (fun i => ⟨(un 5 (.osl 2 0 i 1 :: (un 11 (.osl 1 0 (o5 w).length 5 :: .int .i64 (o5 w).length :: .int .i64 i :: (un 10 []))))), [some w.cs, some (rows al.cs (o5 w)), some (rows IntS.cs (((o5 w).take i).map al.Number))], 0⟩) (fun i => (o5 w).length - i) 0 (Nat.zero_le _) ?_ (fun i hi => ?_)
  · refine bo.cut (3) (by simp) (by simp) ?_ ?_
    · simp [LeC, LeV, ren, bh]
    · (simp [cb, ck, ren, ab, ae.cs]; try rfl)
  refine ev0 ?_
  refine aw.split (fun h1 => ?_) (fun h1 => ?_)
  · refine ev1 @h1 ?_
    have hi' : i < (o5 w).length := by simpa using h1
    have h5 := al.csl (o5 w)[i]
    have hr := bw al.csl hi'
    refine rn7 @hr @al.cs.eq_1 @ay @bf @Nat.mul_one @List.length_map.{0, 0} @List.length_take.{0} ?_
    refine ⟨i + 1, hi', ?_, by omega⟩
    refine bo.cut (3) (by simp) (by simp) ?_ ?_
    · simp [LeC, LeV, ren, bh]
    · rw [List.take_succ_eq_append_getElem hi', List.map_append, List.map_singleton, ← dy]
      simp [cb, ck, ren, bh, ab, dj, k9, ae.cs, IntS.cs]
  · refine ev1 @h1 ?_
    have hi' : i = (o5 w).length := by simp at h1; omega
    subst hi'
    rw [List.take_length]
    have hml : ((o5 w).map al.Number).length = (o5 w).length := List.length_map _
    simp only [wg, o8, hml]
    refine aj.pick [2] (by decide) (fun j hj => by omega) (.inl ?_) ?_
    · first | rfl | (simp [ren, bb, posOf]; done)
    · simp only [az, List.map_cons, List.map_nil, bg, List.getElem?_cons_zero, List.getElem?_cons_succ, ab]
theorem aie (w : ae) (hp : w.Posts.length ≤ 16777216) (hs : w.Shocks.length ≤ 16777216) : Ctr Tryz.prog 124 [w.v] [] (yy 1 (kq w)) (r5 IntS.cs (kq w)) := by
 refine Ctr.intro Tryz.mixed Tryz.func124 rfl Tryz.azs ?_
 refine ev2 @Tryz.ntmps124 @Tryz.results124 ?_
 refine ev1 @ae.v.eq_1 ?_
 (have ct := ey w (by omega) (by omega); (first | refine ak.at ct ⟨leA, trivial⟩ ?_ | refine ai.at ct ⟨leA, trivial⟩ ?_); clear ct)
 cases h : wB w with
 | false =>
  refine ev0 ?_
  have e : kq w = none := by simp [kq, h]
  rw [e]
  simp only [yy, r5]
  refine aj.pick [1] (by decide) (fun j hj => by omega) (.inl ?_) ?_
  · first | rfl | (simp [ren, bb, posOf]; done)
  · simp only [az, List.map_cons, List.map_nil, bg, List.getElem?_cons_zero, List.getElem?_cons_succ, ab]
 | true =>
  have e : kq w = some ((o5 w).map al.Number) := by simp [kq, h]
  obtain ⟨G, G0, GS, GL, hend⟩ := amh h
  rw [e, hend]
  clear e hend
  have hw := ew h
  have hlen := hw.slen
  have hfl : (w.Shocks.filter lb).length ≤ 6 := Nat.le_trans (List.length_filter_le _ _) hlen
  refine ev0 ?_
  refine dn.intro (fun j : Nat => j ≤ 116) (fun j => ⟨(.undef :: .ptr 0 0 :: .undef :: .undef :: .osl 1 0 (G j).length 1 :: .int .i64 (95 - (j : Int)) :: (un 38 [])), [some w.cs, some (rows IntS.cs ((G j).map al.Number))], 0⟩) (fun j => 116 - j) 0 (Nat.zero_le _) ?_ (fun j hj => ?_)
  · refine bo.cut (2) (by simp) (by simp) ?_ ?_
    · simp [LeC, LeV, ren, bh, G0]
    · (simp [cb, ck, ren, ab, ae.cs, G0]; try rfl)
  refine ev0 ?_
  refine aw.split (fun h1 => ?_) (fun h1 => ?_)
  · refine ev1 @h1 ?_
    have hj' : j < 116 := by simp at h1; omega
    have hstep : ∀ {i : Nat} (hi : i < w.Shocks.length), (w.Shocks.take (i + 1)).filter (fun x => lb x && x.Size == 95 - (j : Int)) = (w.Shocks.take i).filter (fun x => lb x && x.Size == 95 - (j : Int)) ++ if (lb w.Shocks[i] && w.Shocks[i].Size == 95 - (j : Int)) = true then [w.Shocks[i]] else [] := fun {i} hi => by
     rw [List.take_succ_eq_append_getElem hi, List.filter_append]
     congr 1
     cases h : (lb w.Shocks[i] && w.Shocks[i].Size == 95 - (j : Int)) <;> simp [h]
    generalize hF : (fun i : Nat => G j ++ (w.Shocks.take i).filter (fun x => lb x && x.Size == 95 - (j : Int))) = F
    have F0 : F 0 = G j := by rw [← hF]; simp
    have FS1 : ∀ {i : Nat} (hi : i < w.Shocks.length), (lb w.Shocks[i] && w.Shocks[i].Size == 95 - (j : Int)) = true → F (i + 1) = F i ++ [w.Shocks[i]] := by
     intro i hi hc
     rw [← hF]
     simp only [hstep hi, hc, if_true, List.append_assoc]
    have FS0 : ∀ {i : Nat} (hi : i < w.Shocks.length), (lb w.Shocks[i] && w.Shocks[i].Size == 95 - (j : Int)) = false → F (i + 1) = F i := by
     intro i hi hc
     rw [← hF]
     simp only [hstep hi, hc, if_false, List.append_nil, Bool.false_eq_true]
    have FE : F w.Shocks.length = G (j + 1) := by rw [← hF, GS]; simp
    have FL : ∀ i, (F i).length ≤ 6 * j + 6 := by
     intro i
     rw [← hF]
     simp only [List.length_append]
     have h2 := List.length_filter_le (fun x => lb x && x.Size == 95 - (j : Int)) (w.Shocks.take i)
     have h3 := GL j
     rw [List.length_take] at h2
     omega
    clear hF hstep
    refine dn.intro (fun i : Nat => i ≤ w.Shocks.length) (fun i => ⟨(.undef :: .ptr 0 0 :: .undef :: .undef :: .osl 1 0 (F i).length 1 :: .int .i64 (95 - (j : Int)) :: .int .i64 i :: (un 37 [])), [some w.cs, some (rows IntS.cs ((F i).map al.Number))], 0⟩) (fun i => w.Shocks.length - i) 0 (Nat.zero_le _) ?_ (fun i hi => ?_)
    · refine bo.cut (2) (by simp) (by simp) ?_ ?_
      · simp [LeC, LeV, ren, bh, F0]
      · simp [cb, ck, ren, ab, ae.cs, F0]
    refine ev1 @ae.cs.eq_1 ?_
    refine aw.split (fun h2 => ?_) (fun h2 => ?_)
    · refine ev1 @h2 ?_
      have hi' : i < w.Shocks.length := by simpa using h2
      have h5 := al.csl w.Shocks[i]
      have hr := bw al.csl hi'
      have hFl := FL i
      refine rn3 @hr @al.cs.eq_1 @ae.cs.eq_1 ?_
      refine ax.bz (fun h3 => ?_) (fun h3 => ?_) <;> refine ev1 @h3 ?_
      · refine aw.split (fun h4 => ?_) (fun h4 => ?_) <;> refine ev1 @h4 ?_
        · refine rn7 @hr @al.cs.eq_1 @ae.cs.eq_1 @ay @bf @Nat.mul_one @List.length_map.{0, 0} ?_
          have hc : (lb w.Shocks[i] && w.Shocks[i].Size == 95 - (j : Int)) = true := by rw [lb, h3, h4]; rfl
          refine ⟨i + 1, hi', ?_, by omega⟩
          refine bo.cut (2) (by simp) (by simp) ?_ ?_
          · rw [FS1 hi' hc]; simp [LeC, LeV, ren, bh]
          · rw [FS1 hi' hc, List.map_append, List.map_singleton, ← dy]
            simp [cb, ck, ren, bh, ab, dj, k9, ae.cs, IntS.cs]
        · try refine ew0 ?_
          have hc : (lb w.Shocks[i] && w.Shocks[i].Size == 95 - (j : Int)) = false := by rw [lb, h3, h4]; rfl
          refine ⟨i + 1, hi', ?_, by omega⟩
          refine bo.cut (2) (by simp) (by simp) ?_ ?_
          · rw [FS0 hi' hc]; simp [LeC, LeV, ren, bh]
          · rw [FS0 hi' hc]; simp [cb, ck, ren, ab, ae.cs]
      · try refine ew0 ?_
        have hc : (lb w.Shocks[i] && w.Shocks[i].Size == 95 - (j : Int)) = false := by rw [lb, h3]; rfl
        refine ⟨i + 1, hi', ?_, by omega⟩
        refine bo.cut (2) (by simp) (by simp) ?_ ?_
        · rw [FS0 hi' hc]; simp [LeC, LeV, ren, bh]
        · rw [FS0 hi' hc]; simp [cb, ck, ren, ab, ae.cs]
    · refine ev1 @h2 ?_
      have hi' : i = w.Shocks.length := by simp at h2; omega
      subst hi'
      try refine ew0 ?_
      refine ⟨j + 1, by omega, ?_, by omega⟩
      refine bo.cut (2) (by simp) (by simp) ?_ ?_
      · rw [FE]; (simp [LeC, LeV, ren, bh]; try omega)
      · rw [FE]; simp [cb, ck, ren, ab, ae.cs]
  · refine ev1 @h1 ?_
    have hj' : j = 116 := by simp at h1; omega
    subst hj'
    have hml : ((G 116).map al.Number).length = (G 116).length := List.length_map _
    simp only [yy, r5, hml]
    refine aj.pick [1] (by decide) (fun j hj => by omega) (.inl ?_) ?_
    · first | rfl | (simp [ren, bb, posOf]; done)
    · simp only [az, List.map_cons, List.map_nil, bg, List.getElem?_cons_zero, List.getElem?_cons_succ, ab]
end Go.Proofs
end
section
set_option maxRecDepth 100000
set_option maxHeartbeats 1000000
namespace Go.Proofs
open Go.Lv
def ldP (L : List bc) (o : Option Nat) (p : bc) : Bool := match o with
 | none => true
 | some b => match L[b]? with
  | some q => decide (p.Since < q.Since)
  | none => true
def ld (L : List bc) : Nat → Option Nat
 | 0 => none
 | i + 1 => match L[i]? with
  | none => ld L i
  | some p => if p.Up = false ∧ ldP L (ld L i) p = true then some i else ld L i
theorem aew {L : List bc} : ∀ {i b : Nat}, ld L i = some b → b < i ∧ b < L.length
 | 0, _, h => by simp [ld] at h
 | i + 1, b, h => by
  unfold ld at h
  split at h
  · have := aew h; omega
  · rename_i r hr
    split at h
    · simp at h; subst h
      exact ⟨by omega, (List.getElem?_eq_some_iff.1 hr).1⟩
    · have := aew h; omega
theorem vo {L : List bc} {i : Nat} (hi : i < L.length) : ld L (i + 1) = if L[i].Up = false ∧ ldP L (ld L i) L[i] = true then some i else ld L i := by
 rw [ld, List.getElem?_eq_getElem hi]
def ldI (o : Option Nat) : Int := match o with
 | none => -1
 | some b => b
def n6 (w : ae) : List V := if wB w = true then
 match ld w.Posts w.Posts.length with
 | none => [.int .i64 0, .int .i64 0, .bool false]
 | some b => match w.Posts[b]? with
  | some p => [.int .i64 p.Station, .int .i64 (w.Now - p.Since), .bool true]
  | none => [.int .i64 0, .int .i64 0, .bool false]
 else [.int .i64 0, .int .i64 0, .bool false]
theorem aj9 {w : ae} (h : ld w.Posts w.Posts.length = none) : V.tup [.int .i64 0, .int .i64 0, .bool false] = .tup (n6 w) := by
 unfold n6; rw [h]; split <;> rfl
theorem afk {w : ae} (hw : wB w = true) {b : Nat} (hb : b < w.Posts.length) (h : ld w.Posts w.Posts.length = some b) : V.tup [.int .i64 w.Posts[b].Station, .int .i64 (w.Now - w.Posts[b].Since), .bool true] = .tup (n6 w) := by
 unfold n6; rw [h, if_pos hw]; simp [hb]
def apc (L : List bc) (o : Option Nat) : Int := match o with
 | none => 0
 | some b => match L[b]? with
  | some p => p.Station
  | none => 0
def u5 (w : ae) (o : Option Nat) : Int := match o with
 | none => -1
 | some b => match w.Posts[b]? with
  | some p => w.Now - p.Since
  | none => -1
theorem ac9 (w : ae) (hp : w.Posts.length ≤ 16777216) (hs : w.Shocks.length ≤ 16777216) : Ctr Tryz.prog 117 [w.v] [] (.tup (n6 w)) [] := by
 refine Ctr.intro Tryz.mixed Tryz.func117 rfl Tryz.azr ?_
 refine ev2 @Tryz.ntmps117 @Tryz.results117 ?_
 refine ev1 @ae.v.eq_1 ?_
 cases h : wB w with
 | false => repeat' (first | exact aj.refl _ _ _ | (refine aj.au ?_ (by rfl); first | rfl | (simp [h, n6, *]; done)) | ((have ct := dx w (by omega) (by omega); (first | refine ak.at ct ⟨leA, trivial⟩ ?_ | refine ai.at ct ⟨leA, trivial⟩ ?_); clear ct); simp -implicitDefEqProofs -dsimp only [go_sem, h, n6, *]) | (refine ax.bz (fun _ => ?_) (fun _ => ?_) <;> simp -implicitDefEqProofs -dsimp only [go_sem, h, n6, *]) | (refine ax.cu (fun _ => ?_) (fun _ => ?_) <;> simp -implicitDefEqProofs -dsimp only [go_sem, h, n6, *]) | (refine aw.split (fun _ => ?_) (fun _ => ?_) <;> simp -implicitDefEqProofs -dsimp only [go_sem, h, n6, *]) | (exfalso; simp_all; done))
 | true =>
  have ok := ew h
  have hnow := ok.now
  repeat (first | ((have ct := dx w (by omega) (by omega); (first | refine ak.at ct ⟨leA, trivial⟩ ?_ | refine ai.at ct ⟨leA, trivial⟩ ?_); clear ct); refine ev1 @h ?_) | (with_reducible refine And.intro (by first | omega | (show cc _ = true; kernel_rfl)) ?_; try refine ew1 @h ?_))
  refine dn.intro (fun i : Nat => i ≤ w.Posts.length) (fun i => ⟨(.undef :: .ptr 0 0 :: (un 3 (.int .i64 (apc w.Posts (ld w.Posts i)) :: .int .i64 (u5 w (ld w.Posts i)) :: (un 7 (bc.sl w.Posts :: .int .i64 w.Posts.length :: .int .i64 i :: (un 24 [])))))), [some w.cs], 0⟩) (fun i => w.Posts.length - i) 0 (Nat.zero_le _) ?_ (fun i hi => ?_)
  · refine bo.cut (1) (by simp) (by simp) ?_ ?_
    · simp [LeC, LeV, ren, bh, ld, apc, u5]
    · simp [cb, ck, ren, ae.cs]
  refine ev1 @ae.cs.eq_1 ?_
  refine aw.split (fun h1 => ?_) (fun h1 => ?_)
  · refine ev1 @h1 ?_
    have hi' : i < w.Posts.length := by simpa using h1
    have h5 := bc.csl w.Posts[i]
    have hr := bw bc.csl hi'
    have hvi := mn.1 (ok.posts _ (List.getElem_mem hi'))
    refine rn3 @hr @bc.cs.eq_1 @ae.cs.eq_1 ?_
    have step : ∀ o, ld w.Posts (i + 1) = o → True := fun _ _ => trivial
    refine ax.bz (fun h2 => ?_) (fun h2 => ?_) <;> refine rn3 @h2 @bc.cs.eq_1 @ae.cs.eq_1 ?_
    · have hup : w.Posts[i].Up = false := by simpa using h2
      refine aw.split (fun h3 => ?_) (fun h3 => ?_) <;> refine rn3 @h3 @bc.cs.eq_1 @ae.cs.eq_1 ?_
      · have e : ld w.Posts (i + 1) = some i := by
         rw [vo hi', if_pos]
         refine ⟨hup, ?_⟩
         simp at h3
         cases ho : ld w.Posts i with
         | none => rfl
         | some b =>
          have hb := aew ho
          rw [ho] at h3
          simp [u5, hb.2] at h3
          simp [ldP, hb.2]; omega
        refine ⟨i + 1, hi', ?_, by omega⟩
        refine bo.cut (1) (by simp) (by simp) ?_ ?_
        · rw [e]
          simp [LeC, LeV, ren, bh, apc, u5, hi']
        · simp [cb, ck, ren, ae.cs]
      · have e : ld w.Posts (i + 1) = ld w.Posts i := by
         rw [vo hi', if_neg]
         rintro ⟨_, hq⟩
         simp at h3
         cases ho : ld w.Posts i with
         | none => rw [ho] at h3; simp [u5] at h3; omega
         | some b =>
          have hb := aew ho
          rw [ho] at h3 hq
          simp [u5, hb.2] at h3
          simp [ldP, hb.2] at hq; omega
        refine ⟨i + 1, hi', ?_, by omega⟩
        refine bo.cut (1) (by simp) (by simp) ?_ ?_
        · rw [e]
          simp [LeC, LeV, ren, bh]
        · simp [cb, ck, ren, ae.cs]
    · have e : ld w.Posts (i + 1) = ld w.Posts i := by
       rw [vo hi', if_neg]
       rintro ⟨hq, _⟩
       simp [hq] at h2
      refine ⟨i + 1, hi', ?_, by omega⟩
      refine bo.cut (1) (by simp) (by simp) ?_ ?_
      · rw [e]
        simp [LeC, LeV, ren, bh]
      · simp [cb, ck, ren, ae.cs]
  · refine ev1 @h1 ?_
    have hi' : i = w.Posts.length := by simp at h1; omega
    subst hi'
    cases ho : ld w.Posts w.Posts.length with
    | none =>
     simp -implicitDefEqProofs -dsimp only [go_sem, u5, apc]
     exact aj.au (aj9 ho) (by rfl)
    | some b =>
     have hb := (aew ho).2
     have hvi := mn.1 (ok.posts _ (List.getElem_mem hb))
     have e1 : u5 w (some b) = w.Now - w.Posts[b].Since := by simp [u5, hb]
     have e2 : apc w.Posts (some b) = w.Posts[b].Station := by simp [apc, hb]
     have e3 : decide (w.Now - w.Posts[b].Since < 0) = false := decide_eq_false (by omega)
     refine ev3 @e1 @e2 @e3 ?_
     exact aj.au (afk h hb ho) (by rfl)
theorem ac8 (w : ae) (hp : w.Posts.length ≤ 16777216) (hs : w.Shocks.length ≤ 16777216) : Ctr Tryz.prog 127 [w.v] [] (.tup (n6 w)) [] := by
 refine Ctr.intro Tryz.mixed Tryz.func127 rfl Tryz.a0i ?_
 refine ev2 @Tryz.ntmps127 @Tryz.results127 ?_
 refine ev1 @ae.v.eq_1 ?_
 cases h : wB w with
 | false => repeat' (first | exact aj.refl _ _ _ | (refine aj.au ?_ (by rfl); first | rfl | (simp [h, n6, *]; done)) | ((have ct := ey w (by omega) (by omega); (first | refine ak.at ct ⟨leA, trivial⟩ ?_ | refine ai.at ct ⟨leA, trivial⟩ ?_); clear ct); simp -implicitDefEqProofs -dsimp only [go_sem, h, n6, *]) | (refine ax.bz (fun _ => ?_) (fun _ => ?_) <;> simp -implicitDefEqProofs -dsimp only [go_sem, h, n6, *]) | (refine ax.cu (fun _ => ?_) (fun _ => ?_) <;> simp -implicitDefEqProofs -dsimp only [go_sem, h, n6, *]) | (refine aw.split (fun _ => ?_) (fun _ => ?_) <;> simp -implicitDefEqProofs -dsimp only [go_sem, h, n6, *]) | (exfalso; simp_all; done))
 | true =>
  have ok := ew h
  have hnow := ok.now
  repeat (first | ((have ct := ey w (by omega) (by omega); (first | refine ak.at ct ⟨leA, trivial⟩ ?_ | refine ai.at ct ⟨leA, trivial⟩ ?_); clear ct); refine ev1 @h ?_) | (with_reducible refine And.intro (by first | omega | (show cc _ = true; kernel_rfl)) ?_; try refine ew1 @h ?_))
  refine dn.intro (fun i : Nat => i ≤ w.Posts.length) (fun i => ⟨(.undef :: .ptr 0 0 :: (un 3 (.int .i64 (ldI (ld w.Posts i)) :: .int .i64 i :: (un 54 [])))), [some w.cs], 0⟩) (fun i => w.Posts.length - i) 0 (Nat.zero_le _) ?_ (fun i hi => ?_)
  · refine bo.cut (1) (by simp) (by simp) ?_ ?_
    · simp [LeC, LeV, ren, bh, ld, ldI]
    · simp [cb, ck, ren, ae.cs]
  refine ev1 @ae.cs.eq_1 ?_
  refine aw.split (fun h1 => ?_) (fun h1 => ?_)
  · refine ev1 @h1 ?_
    have hi' : i < w.Posts.length := by simpa using h1
    have h5 := bc.csl w.Posts[i]
    have hr := bw bc.csl hi'
    have keep : w.Posts[i].Up = true → ld w.Posts (i + 1) = ld w.Posts i := by
     intro hq
     rw [vo hi', if_neg]
     rintro ⟨h, _⟩
     simp [hq] at h
    cases ho : ld w.Posts i with
    | none =>
     have e0 : ldI none = -1 := rfl
     rw [e0]
     refine rn3 @hr @bc.cs.eq_1 @ae.cs.eq_1 ?_
     refine ax.bz (fun h2 => ?_) (fun h2 => ?_) <;> refine rn4 @h2 @hr @bc.cs.eq_1 @ae.cs.eq_1 ?_
     · have hup : w.Posts[i].Up = false := by simpa using h2
       have e : ld w.Posts (i + 1) = some i := by
        rw [vo hi', if_pos]
        exact ⟨hup, by rw [ho]; rfl⟩
       refine ⟨i + 1, hi', ?_, by omega⟩
       refine bo.cut (1) (by simp) (by simp) ?_ ?_
       · rw [e]
         simp [LeC, LeV, ren, bh, ldI]
       · simp [cb, ck, ren, ae.cs]
     · have e : ld w.Posts (i + 1) = none := by rw [keep (by simpa using h2), ho]
       refine ⟨i + 1, hi', ?_, by omega⟩
       refine bo.cut (1) (by simp) (by simp) ?_ ?_
       · rw [e]
         simp [LeC, LeV, ren, bh, ldI]
       · simp [cb, ck, ren, ae.cs]
    | some b =>
     have hb := aew ho
     have hrb := bw bc.csl hb.2
     have h6 := bc.csl w.Posts[b]
     have e0 : ldI (some b) = (b : Int) := rfl
     have e3 : decide ((b : Int) < 0) = false := decide_eq_false (by omega)
     rw [e0]
     refine rn3 @hr @bc.cs.eq_1 @ae.cs.eq_1 ?_
     refine ax.bz (fun h2 => ?_) (fun h2 => ?_) <;> refine rn6 @h2 @e3 @hr @hrb @bc.cs.eq_1 @ae.cs.eq_1 ?_
     · have hup : w.Posts[i].Up = false := by simpa using h2
       refine aw.split (fun h3 => ?_) (fun h3 => ?_) <;> refine rn5 @h3 @hr @hrb @bc.cs.eq_1 @ae.cs.eq_1 ?_
       · have e : ld w.Posts (i + 1) = some i := by
          rw [vo hi', if_pos]
          exact ⟨hup, by rw [ho]; simpa [ldP, hb.2] using h3⟩
         refine ⟨i + 1, hi', ?_, by omega⟩
         refine bo.cut (1) (by simp) (by simp) ?_ ?_
         · rw [e]
           simp [LeC, LeV, ren, bh, ldI]
         · simp [cb, ck, ren, ae.cs]
       · have e : ld w.Posts (i + 1) = some b := by
          rw [vo hi', if_neg, ho]
          rintro ⟨_, hq⟩
          rw [ho] at hq
          simp [ldP, hb.2] at hq
          simp at h3
          omega
         refine ⟨i + 1, hi', ?_, by omega⟩
         refine bo.cut (1) (by simp) (by simp) ?_ ?_
         · rw [e]
           simp [LeC, LeV, ren, bh, ldI]
         · simp [cb, ck, ren, ae.cs]
     · have e : ld w.Posts (i + 1) = some b := by rw [keep (by simpa using h2), ho]
       refine ⟨i + 1, hi', ?_, by omega⟩
       refine bo.cut (1) (by simp) (by simp) ?_ ?_
       · rw [e]
         simp [LeC, LeV, ren, bh, ldI]
       · simp [cb, ck, ren, ae.cs]
  · refine ev1 @h1 ?_
    have hi' : i = w.Posts.length := by simp at h1; omega
    subst hi'
    cases ho : ld w.Posts w.Posts.length with
    | none =>
     have e0 : ldI none = -1 := rfl
     rw [e0]
     refine ev0 ?_
     exact aj.au (aj9 ho) (by rfl)
    | some b =>
     have hb := (aew ho).2
     have hvi := mn.1 (ok.posts _ (List.getElem_mem hb))
     have hrb := bw bc.csl hb
     have h6 := bc.csl w.Posts[b]
     have e3 : decide ((b : Int) < 0) = false := decide_eq_false (by omega)
     have e0 : ldI (some b) = (b : Int) := rfl
     rw [e0]
     refine rn4 @e3 @hrb @bc.cs.eq_1 @ae.cs.eq_1 ?_
     exact aj.au (afk h hb ho) (by rfl)
end Go.Proofs
end
section
set_option maxRecDepth 100000
set_option maxHeartbeats 2000000
namespace Go.Proofs
open Go.Lv
def kwl : List ByteArray := [⟨#[119, 97, 105, 116]⟩, ⟨#[115, 104, 111, 99, 107]⟩, ⟨#[100, 111, 119, 110]⟩, ⟨#[117, 112]⟩, ⟨#[112, 117, 98, 108, 105, 115, 104]⟩, ⟨#[97, 114, 99, 104, 105, 118, 101]⟩, ⟨#[108, 111, 99, 97, 116, 101]⟩, ⟨#[114, 101, 118, 105, 101, 119]⟩, ⟨#[116, 101, 120, 116]⟩, ⟨#[110, 111, 119]⟩, ⟨#[112, 111, 115, 116, 115]⟩, ⟨#[116, 111, 100, 111]⟩, ⟨#[115, 116, 97, 116, 101, 115]⟩, ⟨#[108, 111, 110, 103, 101, 115, 116]⟩]
def kwd (h : ByteArray) : Nat := match kwl.findIdx? (fun x => decide (x = h)) with
 | some i => i + 1
 | none => 0
theorem apt : kwl.Nodup := of_decide_eq_true (by kernel_rfl)
theorem nr {h : ByteArray} {i : Nat} (hi : i < kwl.length) : h = kwl[i] ↔ kwd h = i + 1 := by
 constructor
 · intro e
   have h1 : kwl.findIdx? (fun x => decide (x = h)) = some i := by
    rw [List.findIdx?_eq_some_iff_getElem]
    refine ⟨hi, by simp [e], fun j hj => ?_⟩
    have := List.pairwise_iff_getElem.1 apt j i (by omega) hi hj
    simp [e, this]
   rw [kwd, h1]
 · intro e
   unfold kwd at e
   split at e
   · rename_i j hj
     rw [List.findIdx?_eq_some_iff_getElem] at hj
     obtain ⟨g1, g2, _⟩ := hj
     have : j = i := by omega
     subst this
     simpa using (of_decide_eq_true g2).symm
   · omega
theorem a02 (h : ByteArray) : kwd h ≤ 14 := by
 unfold kwd
 split
 · rename_i j hj
   rw [List.findIdx?_eq_some_iff_getElem] at hj
   obtain ⟨g1, _⟩ := hj
   have : kwl.length = 14 := rfl
   omega
 · omega
theorem kw1 {h : ByteArray} : h = (⟨#[119, 97, 105, 116]⟩ : ByteArray) ↔ kwd h = 1 := nr (i := 0) (by decide)
theorem kwb1 (h : ByteArray) : (h.toList == (⟨#[119, 97, 105, 116]⟩ : ByteArray).toList) = decide (kwd h = 1) := by rw [im]; exact decide_eq_decide.2 kw1
theorem kw2 {h : ByteArray} : h = (⟨#[115, 104, 111, 99, 107]⟩ : ByteArray) ↔ kwd h = 2 := nr (i := 1) (by decide)
theorem kwb2 (h : ByteArray) : (h.toList == (⟨#[115, 104, 111, 99, 107]⟩ : ByteArray).toList) = decide (kwd h = 2) := by rw [im]; exact decide_eq_decide.2 kw2
theorem kw3 {h : ByteArray} : h = (⟨#[100, 111, 119, 110]⟩ : ByteArray) ↔ kwd h = 3 := nr (i := 2) (by decide)
theorem kwb3 (h : ByteArray) : (h.toList == (⟨#[100, 111, 119, 110]⟩ : ByteArray).toList) = decide (kwd h = 3) := by rw [im]; exact decide_eq_decide.2 kw3
theorem kw4 {h : ByteArray} : h = (⟨#[117, 112]⟩ : ByteArray) ↔ kwd h = 4 := nr (i := 3) (by decide)
theorem kwb4 (h : ByteArray) : (h.toList == (⟨#[117, 112]⟩ : ByteArray).toList) = decide (kwd h = 4) := by rw [im]; exact decide_eq_decide.2 kw4
theorem kw5 {h : ByteArray} : h = (⟨#[112, 117, 98, 108, 105, 115, 104]⟩ : ByteArray) ↔ kwd h = 5 := nr (i := 4) (by decide)
theorem kwb5 (h : ByteArray) : (h.toList == (⟨#[112, 117, 98, 108, 105, 115, 104]⟩ : ByteArray).toList) = decide (kwd h = 5) := by rw [im]; exact decide_eq_decide.2 kw5
theorem kw6 {h : ByteArray} : h = (⟨#[97, 114, 99, 104, 105, 118, 101]⟩ : ByteArray) ↔ kwd h = 6 := nr (i := 5) (by decide)
theorem kwb6 (h : ByteArray) : (h.toList == (⟨#[97, 114, 99, 104, 105, 118, 101]⟩ : ByteArray).toList) = decide (kwd h = 6) := by rw [im]; exact decide_eq_decide.2 kw6
theorem kw7 {h : ByteArray} : h = (⟨#[108, 111, 99, 97, 116, 101]⟩ : ByteArray) ↔ kwd h = 7 := nr (i := 6) (by decide)
theorem kwb7 (h : ByteArray) : (h.toList == (⟨#[108, 111, 99, 97, 116, 101]⟩ : ByteArray).toList) = decide (kwd h = 7) := by rw [im]; exact decide_eq_decide.2 kw7
theorem kw8 {h : ByteArray} : h = (⟨#[114, 101, 118, 105, 101, 119]⟩ : ByteArray) ↔ kwd h = 8 := nr (i := 7) (by decide)
theorem kwb8 (h : ByteArray) : (h.toList == (⟨#[114, 101, 118, 105, 101, 119]⟩ : ByteArray).toList) = decide (kwd h = 8) := by rw [im]; exact decide_eq_decide.2 kw8
theorem kw9 {h : ByteArray} : h = (⟨#[116, 101, 120, 116]⟩ : ByteArray) ↔ kwd h = 9 := nr (i := 8) (by decide)
theorem kwb9 (h : ByteArray) : (h.toList == (⟨#[116, 101, 120, 116]⟩ : ByteArray).toList) = decide (kwd h = 9) := by rw [im]; exact decide_eq_decide.2 kw9
theorem kw10 {h : ByteArray} : h = (⟨#[110, 111, 119]⟩ : ByteArray) ↔ kwd h = 10 := nr (i := 9) (by decide)
theorem axw (h : ByteArray) : (h.toList == (⟨#[110, 111, 119]⟩ : ByteArray).toList) = decide (kwd h = 10) := by rw [im]; exact decide_eq_decide.2 kw10
theorem kw11 {h : ByteArray} : h = (⟨#[112, 111, 115, 116, 115]⟩ : ByteArray) ↔ kwd h = 11 := nr (i := 10) (by decide)
theorem axc (h : ByteArray) : (h.toList == (⟨#[112, 111, 115, 116, 115]⟩ : ByteArray).toList) = decide (kwd h = 11) := by rw [im]; exact decide_eq_decide.2 kw11
theorem kw12 {h : ByteArray} : h = (⟨#[116, 111, 100, 111]⟩ : ByteArray) ↔ kwd h = 12 := nr (i := 11) (by decide)
theorem axp (h : ByteArray) : (h.toList == (⟨#[116, 111, 100, 111]⟩ : ByteArray).toList) = decide (kwd h = 12) := by rw [im]; exact decide_eq_decide.2 kw12
theorem kw13 {h : ByteArray} : h = (⟨#[115, 116, 97, 116, 101, 115]⟩ : ByteArray) ↔ kwd h = 13 := nr (i := 12) (by decide)
theorem awx (h : ByteArray) : (h.toList == (⟨#[115, 116, 97, 116, 101, 115]⟩ : ByteArray).toList) = decide (kwd h = 13) := by rw [im]; exact decide_eq_decide.2 kw13
theorem kw14 {h : ByteArray} : h = (⟨#[108, 111, 110, 103, 101, 115, 116]⟩ : ByteArray) ↔ kwd h = 14 := nr (i := 13) (by decide)
theorem awo (h : ByteArray) : (h.toList == (⟨#[108, 111, 110, 103, 101, 115, 116]⟩ : ByteArray).toList) = decide (kwd h = 14) := by rw [im]; exact decide_eq_decide.2 kw14
def jt (q : Nat) (ns : List Int) : Option (Int × Int × Int) := match ns with
 | [] => if q = 2 then some (4, 0, 0) else none
 | [n] => if q = 1 then some (1, 0, n) else if q = 3 then some (2, n, 0) else if q = 4 then some (3, n, 0) else if q = 5 then some (7, n, 0) else if q = 6 then some (8, n, 0) else none
 | [n, v] => if q = 7 then some (5, n, v) else if q = 8 then some (6, n, v) else none
 | _ => none
def ups (w : ae) : List Int := tc w.Posts w.Posts.length
def aas (w : ae) (n : Int) : Option ByteArray := (w.Shocks.find? (dz n)).map mo
def lgO (w : ae) : Option (Int × Int) := match ld w.Posts w.Posts.length with
 | none => none
 | some b => match w.Posts[b]? with
  | some p => some (p.Station, w.Now - p.Since)
  | none => none
def j1 (w : ae) (k n : Int) : Option ByteArray :=
 if k = 1 then some (num w.Now) else if k = 2 ∨ k = 3 then some (lx (ups w)) else if k = 4 then some (num (w.Next - 1)) else if k = 8 then some (num w.Archived) else aas w n
def w3 (w : ae) (q : Nat) : Option ByteArray :=
 if q = 10 then some (num w.Now) else if q = 11 then some (lx (ups w)) else if q = 12 then some (lx ((o5 w).map al.Number)) else if q = 13 then some (lx (cy w.Shocks)) else if q = 14 then (lgO w).map fun p => lx [p.1, p.2] else none
noncomputable def vd (L : List ByteArray) : Option (List Int) := if L.all (fun s => (dc s).isSome) = true then some (L.map fun s => (dc s).getD 0) else none
def lp (w : ae) (k n v : Int) : ae × ByteArray := match fi w k n v with
 | none => (w, wQ)
 | some b => (b, (j1 b k n).getD wQ)
noncomputable def mz (w : ae) (q : Nat) (ns : List Int) : ae × ByteArray := match jt q ns with
 | some (k, n, v) => lp w k n v
 | none => match ns with
  | [] => (w, (w3 w q).getD wQ)
  | [n] => (w, if q = 9 then (aas w n).getD wQ else wQ)
  | _ => (w, wQ)
noncomputable def fy (w : ae) (line : ByteArray) : ae × ByteArray := match vd (jv 32 line).tail with
 | none => (w, wQ)
 | some ns => mz w (kwd ((jv 32 line).headD ⟨#[]⟩)) ns
theorem ab8 {w : ae} (h : wB w = true) (n : Int) : jj w n = .tup [.str ((aas w n).getD ByteArray.empty), .bool (aas w n).isSome] := by
 rw [jj, if_pos h, aas]
 cases w.Shocks.find? (dz n) <;> rfl
theorem aj1 {w : ae} (h : wB w = true) : n6 w = [.int .i64 ((lgO w).map Prod.fst |>.getD 0), .int .i64 ((lgO w).map Prod.snd |>.getD 0), .bool (lgO w).isSome] := by
 rw [n6, if_pos h, lgO]
 cases ld w.Posts w.Posts.length with
 | none => rfl
 | some b =>
  dsimp only
  cases w.Posts[b]? <;> rfl
theorem asq {w : ae} (h : wB w = true) : upR w = some (ups w) := if_pos h
theorem ad3 {w : ae} (h : wB w = true) : kq w = some ((o5 w).map al.Number) := if_pos h
theorem adq {w : ae} (h : wB w = true) : qi w = some (cy w.Shocks) := if_pos h
theorem ata {s : ByteArray} : -999999 ≤ (dc s).getD 0 ∧ (dc s).getD 0 ≤ 999999 := by
 cases h : dc s with
 | none => exact ⟨by decide, by decide⟩
 | some n => exact ⟨(yz h).1, (yz h).2.1⟩
theorem ab2 {L : List ByteArray} {ns : List Int} (h : vd L = some ns) : ∀ n ∈ ns, -999999 ≤ n ∧ n ≤ 999999 := by
 unfold vd at h
 split at h
 · simp only [Option.some.injEq] at h
   subst h
   intro n hn
   obtain ⟨s, _, rfl⟩ := List.mem_map.1 hn
   exact ata
 · cases h
theorem aq7 {c : UInt8} {s x : ByteArray} (h : jv c s = [x]) : x = s := by
 obtain ⟨l, h1, h2⟩ := ux c s
 rw [h1] at h
 injection h with h3 h4
 have h5 := h2.1 h4
 rw [← h3, bef, if_neg (by rw [fnd] at h5; simpa using h5)]
theorem aby (c : UInt8) (s : ByteArray) : ∃ x l, jv c s = x :: l := by
 obtain ⟨l, h1, _⟩ := ux c s
 exact ⟨_, _, h1⟩
theorem aa8 (c : UInt8) (s : ByteArray) : (jv c s).length ≤ s.size + 1 := by
 have := (aex c s s.size (Nat.le_refl _)).2
 rw [jv, List.length_append]
 simp only [List.length_cons, List.length_nil]; omega
theorem abp {L : List ByteArray} {i : Nat} (hi : i < L.length) (h : (dc L[i]).isSome = false) : vd L = none := by
 rw [vd, if_neg]
 intro h2
 have := List.all_eq_true.1 h2 _ (List.getElem_mem hi)
 rw [h] at this; cases this
theorem zb {L : List ByteArray} (h : (L.take L.length).all (fun s => (dc s).isSome) = true) : vd L = some (L.map fun s => (dc s).getD 0) := by
 rw [List.take_length] at h
 rw [vd, if_pos h]
end Go.Proofs
end
section
set_option maxRecDepth 100000
set_option maxHeartbeats 4000000
namespace Go.Proofs
open Go.Lv
theorem xb (L : List Int) (hL : ∀ n ∈ L, bu n) (hl : L.length ≤ 100000) : Ctr Tryz.prog 110 [IntS.sl L] [] (.str (lx L)) [] := by
 by_cases he : L = []
 · have c0 : ((L.length : Int) == 0) = true := by rw [he]; rfl
   refine Ctr.intro Tryz.mixed Tryz.func110 rfl Tryz.atc ?_
   refine ev2 @Tryz.ntmps110 @Tryz.results110 ?_
   refine rn1 @c0 ?_
   exact aj.au (by rw [lx, if_pos he]; rfl) (by rfl)
 have hpos : 0 < L.length := List.length_pos_iff.2 he
 have c0 : ((L.length : Int) == 0) = false := by simp; omega
 refine Ctr.intro Tryz.mixed Tryz.func110 rfl Tryz.atc ?_
 refine ev2 @Tryz.ntmps110 @Tryz.results110 ?_
 refine rn1 @c0 ?_
 refine dn.intro (fun i : Nat => i ≤ L.length) (fun i => ⟨(un 3 (.osl 0 0 i 1 :: (un 6 (IntS.sl L :: .int .i64 L.length :: .int .i64 i :: (un 11 []))))), [some (rows StringS.cs ((L.take i).map num))], 0⟩) (fun i => L.length - i) 0 (Nat.zero_le _) ?_ (fun i hi => ?_)
 · refine bo.cut (1) (by simp) (by simp) ?_ ?_
   · simp [LeC, LeV, ren, bh]
   · rfl
 refine ev0 ?_
 refine aw.split (fun h1 => ?_) (fun h1 => ?_)
 · have hi' : i < L.length := by have := of_decide_eq_true h1; omega
   have hr := bw IntS.csl hi'
   have hst : (L.take (i + 1)).map num = (L.take i).map num ++ [num L[i]] := by rw [List.take_succ_eq_append_getElem hi', List.map_append]; rfl
   have hlen : ((L.take i).map num).length = i := by simp; omega
   refine rn3 @h1 @hr @IntS.cs.eq_1 ?_
   (first | refine ak.at (sk L[i] (hL _ (List.getElem_mem hi'))) ⟨leA, trivial⟩ ?_ | refine ai.at (sk L[i] (hL _ (List.getElem_mem hi'))) ⟨leA, trivial⟩ ?_)
   refine rn4 @ay @bf @Nat.mul_one @hlen ?_
   refine ⟨i + 1, hi', ?_, by omega⟩
   refine bo.cut (1) (by simp) (by simp) ?_ ?_
   · simp [LeC, LeV, ren, bh]
   · rw [hst, ← dy]
     simp [cb, ck, ren, bh, ab, dj, StringS.cs]
 · have hi' : i = L.length := by have := of_decide_eq_false h1; omega
   subst hi'
   have hsz := yw L hL
   have hjl := ags L
   refine rn2 @h1 @List.take_length.{0} ?_
   (have ct := au5 (L.map num) (by rw [← hjl, gi]; omega) (by simp; omega); (first | refine ak.at ct ⟨leA, leA, trivial⟩ ?_ | refine ai.at ct ⟨leA, leA, trivial⟩ ?_); clear ct)
   refine rn0 ?_
   refine aj.au ?_ (by rfl)
   rw [lx, if_neg he, ← hjl]
def acf (o : Option (Int × Int × Int)) : V := .agg [.int .i64 ((o.map fun p => p.1).getD 0), .int .i64 ((o.map fun p => p.2.1).getD 0), .int .i64 ((o.map fun p => p.2.2).getD 0)]
def M1 : List (Value × Value) := [(.string ⟨#[100, 111, 119, 110]⟩, .int .i64 2), (.string ⟨#[117, 112]⟩, .int .i64 3), (.string ⟨#[112, 117, 98, 108, 105, 115, 104]⟩, .int .i64 7), (.string ⟨#[97, 114, 99, 104, 105, 118, 101]⟩, .int .i64 8)]
def M2 : List (Value × Value) := [(.string ⟨#[108, 111, 99, 97, 116, 101]⟩, .int .i64 5), (.string ⟨#[114, 101, 118, 105, 101, 119]⟩, .int .i64 6)]
theorem ayl (a b : ByteArray) : (a == b) = decide (a = b) := by
 by_cases e : a = b
 · subst e; simp only [decide_true]; exact (Go.MapKept.bytes_beq a a).2 rfl
 · rw [decide_eq_false e]
   cases h : (a == b)
   · rfl
   · exact absurd ((Go.MapKept.bytes_beq a b).1 h) e
theorem ab1 {a b : ByteArray} (h : ¬ a = b) : (a == b) = false := by rw [ayl]; exact decide_eq_false h
theorem a6l (h : ByteArray) : kn .string (.string h) M1 0 = some (if kwd h = 3 then some (0, .int .i64 2) else if kwd h = 4 then some (1, .int .i64 3) else if kwd h = 5 then some (2, .int .i64 7) else if kwd h = 6 then some (3, .int .i64 8) else none) := by
 by_cases c3 : kwd h = 3
 · rw [if_pos c3]; have := kw3.2 c3; subst this; rfl
 by_cases c4 : kwd h = 4
 · rw [if_neg c3, if_pos c4]; have := kw4.2 c4; subst this; rfl
 by_cases c5 : kwd h = 5
 · rw [if_neg c3, if_neg c4, if_pos c5]; have := kw5.2 c5; subst this; rfl
 by_cases c6 : kwd h = 6
 · rw [if_neg c3, if_neg c4, if_neg c5, if_pos c6]; have := kw6.2 c6; subst this; rfl
 rw [if_neg c3, if_neg c4, if_neg c5, if_neg c6]
 simp only [M1, kn, Instr.sameNow, ab1 (fun e => c3 (kw3.1 e)), ab1 (fun e => c4 (kw4.1 e)), ab1 (fun e => c5 (kw5.1 e)), ab1 (fun e => c6 (kw6.1 e))]
theorem a5t (h : ByteArray) : kn .string (.string h) M2 0 = some (if kwd h = 7 then some (0, .int .i64 5) else if kwd h = 8 then some (1, .int .i64 6) else none) := by
 by_cases c3 : kwd h = 7
 · rw [if_pos c3]; have := kw7.2 c3; subst this; rfl
 by_cases c4 : kwd h = 8
 · rw [if_neg c3, if_pos c4]; have := kw8.2 c4; subst this; rfl
 rw [if_neg c3, if_neg c4]
 simp only [M2, kn, Instr.sameNow, ab1 (fun e => c3 (kw7.1 e)), ab1 (fun e => c4 (kw8.1 e))]
theorem agw (h : ByteArray) (ns : List Int) (hl : ns.length ≤ 100000) : Ctr Tryz.prog 71 [.str h, IntS.sl ns] [] (.tup [acf (jt (kwd h) ns), .bool (jt (kwd h) ns).isSome]) [] := by
 have f1 : kn .string (.string ⟨#[100, 111, 119, 110]⟩) [] 0 = some none := rfl
 have f2 : kn .string (.string ⟨#[117, 112]⟩) [(.string ⟨#[100, 111, 119, 110]⟩, .int .i64 2)] 0 = some none := by kernel_rfl
 have f3 : kn .string (.string ⟨#[112, 117, 98, 108, 105, 115, 104]⟩) [(.string ⟨#[100, 111, 119, 110]⟩, .int .i64 2), (.string ⟨#[117, 112]⟩, .int .i64 3)] 0 = some none := by kernel_rfl
 have f4 : kn .string (.string ⟨#[97, 114, 99, 104, 105, 118, 101]⟩) [(.string ⟨#[100, 111, 119, 110]⟩, .int .i64 2), (.string ⟨#[117, 112]⟩, .int .i64 3), (.string ⟨#[112, 117, 98, 108, 105, 115, 104]⟩, .int .i64 7)] 0 = some none := by kernel_rfl
 have f5 : kn .string (.string ⟨#[108, 111, 99, 97, 116, 101]⟩) [] 0 = some none := rfl
 have f6 : kn .string (.string ⟨#[114, 101, 118, 105, 101, 119]⟩) [(.string ⟨#[108, 111, 99, 97, 116, 101]⟩, .int .i64 5)] 0 = some none := by kernel_rfl
 have k1 := a6l h
 have k2 := a5t h
 have hb1 := kwb1 h
 have hb2 := kwb2 h
 have hq14 := a02 h
 generalize kwd h = q at *
 have hM1 : [(Value.string ⟨#[100, 111, 119, 110]⟩, Value.int .i64 2), (.string ⟨#[117, 112]⟩, .int .i64 3), (.string ⟨#[112, 117, 98, 108, 105, 115, 104]⟩, .int .i64 7), (.string ⟨#[97, 114, 99, 104, 105, 118, 101]⟩, .int .i64 8)] = M1 := rfl
 have hM2 : [(Value.string ⟨#[108, 111, 99, 97, 116, 101]⟩, Value.int .i64 5), (.string ⟨#[114, 101, 118, 105, 101, 119]⟩, .int .i64 6)] = M2 := rfl
 have hq : q = 0 ∨ q = 1 ∨ q = 2 ∨ q = 3 ∨ q = 4 ∨ q = 5 ∨ q = 6 ∨ q = 7 ∨ q = 8 ∨ 9 ≤ q := by omega
 have z00 : (((0 : Nat) : Int) == 0) = true := rfl
 have z01 : (((0 : Nat) : Int) == 1) = false := rfl
 have z02 : (((0 : Nat) : Int) == 2) = false := rfl
 have z10 : (((1 : Nat) : Int) == 0) = false := rfl
 have z11 : (((1 : Nat) : Int) == 1) = true := rfl
 have z12 : (((1 : Nat) : Int) == 2) = false := rfl
 have z20 : (((2 : Nat) : Int) == 0) = false := rfl
 have z21 : (((2 : Nat) : Int) == 1) = false := rfl
 have z22 : (((2 : Nat) : Int) == 2) = true := rfl
 rcases ns with _ | ⟨n1, _ | ⟨n2, _ | ⟨n3, L⟩⟩⟩
 · have c0 : ((([] : List Int).length : Int) == 0) = true := rfl
   have c1 : ((([] : List Int).length : Int) == 1) = false := rfl
   have c2 : ((([] : List Int).length : Int) == 2) = false := rfl
   rcases hq with rfl | rfl | rfl | rfl | rfl | rfl | rfl | rfl | rfl | hq
   all_goals (try simp only [Nat.reduceEqDiff, if_false, if_true] at k1 k2)
   case inr.inr.inr.inr.inr.inr.inr.inr.inr =>
    rw [if_neg (by omega), if_neg (by omega), if_neg (by omega), if_neg (by omega)] at k1
    rw [if_neg (by omega), if_neg (by omega)] at k2
    have d1 : decide (q = 1) = false := decide_eq_false (by omega)
    have d2 : decide (q = 2) = false := decide_eq_false (by omega)
    have e : jt q ([] : List Int) = none := by simp only [jt]; (repeat rw [if_neg (by omega)])
    rw [e]
    refine Ctr.intro Tryz.mixed Tryz.func71 rfl Tryz.ach ?_
    refine ev2 @Tryz.ntmps71 @Tryz.results71 ?_
    (repeat ((repeat1' (first | simp -implicitDefEqProofs -dsimp only [go_sem, f1, f2, f3, f4, f5, f6, vw, List.nil_append, List.cons_append, hM1, hM2, hb1, hb2, d1, d2, c0, c1, c2, z00, z01, z02, z10, z11, z12, z20, z21, z22, k1, k2] | simp -dsimp (disch := omega) only [wrap_i64])); repeat (with_reducible refine df ?_)))
    exact aj.au rfl (by rfl)
   all_goals
    refine Ctr.intro Tryz.mixed Tryz.func71 rfl Tryz.ach ?_
    refine ev2 @Tryz.ntmps71 @Tryz.results71 ?_
    (repeat ((repeat1' (first | simp -implicitDefEqProofs -dsimp only [go_sem, f1, f2, f3, f4, f5, f6, vw, List.nil_append, List.cons_append, hM1, hM2, hb1, hb2, c0, c1, c2, z00, z01, z02, z10, z11, z12, z20, z21, z22, k1, k2, c0] | simp -dsimp (disch := omega) only [wrap_i64])); repeat (with_reducible refine df ?_)))
    first | exact aj.au rfl (by rfl) | skip
 · have c0 : ((([n1] : List Int).length : Int) == 0) = false := rfl
   have c1 : ((([n1] : List Int).length : Int) == 1) = true := rfl
   have c2 : ((([n1] : List Int).length : Int) == 2) = false := rfl
   have hr0 : rows IntS.cs [n1] = [.int .i64 n1] := rfl
   rcases hq with rfl | rfl | rfl | rfl | rfl | rfl | rfl | rfl | rfl | hq
   all_goals (try simp only [Nat.reduceEqDiff, if_false, if_true] at k1 k2)
   case inr.inr.inr.inr.inr.inr.inr.inr.inr =>
    rw [if_neg (by omega), if_neg (by omega), if_neg (by omega), if_neg (by omega)] at k1
    rw [if_neg (by omega), if_neg (by omega)] at k2
    have d1 : decide (q = 1) = false := decide_eq_false (by omega)
    have d2 : decide (q = 2) = false := decide_eq_false (by omega)
    have e : jt q [n1] = none := by simp only [jt]; (repeat rw [if_neg (by omega)])
    rw [e]
    refine Ctr.intro Tryz.mixed Tryz.func71 rfl Tryz.ach ?_
    refine ev2 @Tryz.ntmps71 @Tryz.results71 ?_
    (repeat ((repeat1' (first | simp -implicitDefEqProofs -dsimp only [go_sem, f1, f2, f3, f4, f5, f6, vw, List.nil_append, List.cons_append, hM1, hM2, hb1, hb2, d1, d2, c0, c1, c2, z00, z01, z02, z10, z11, z12, z20, z21, z22, k1, k2] | simp -dsimp (disch := omega) only [wrap_i64])); repeat (with_reducible refine df ?_)))
    exact aj.au rfl (by rfl)
   all_goals
    refine Ctr.intro Tryz.mixed Tryz.func71 rfl Tryz.ach ?_
    refine ev2 @Tryz.ntmps71 @Tryz.results71 ?_
    (repeat ((repeat1' (first | simp -implicitDefEqProofs -dsimp only [go_sem, f1, f2, f3, f4, f5, f6, vw, List.nil_append, List.cons_append, hM1, hM2, hb1, hb2, c0, c1, c2, z00, z01, z02, z10, z11, z12, z20, z21, z22, k1, k2, hr0] | simp -dsimp (disch := omega) only [wrap_i64])); repeat (with_reducible refine df ?_)))
    first | exact aj.au rfl (by rfl) | skip
 · have c0 : ((([n1, n2] : List Int).length : Int) == 0) = false := rfl
   have c1 : ((([n1, n2] : List Int).length : Int) == 1) = false := rfl
   have c2 : ((([n1, n2] : List Int).length : Int) == 2) = true := rfl
   have hr0 : rows IntS.cs [n1, n2] = [.int .i64 n1, .int .i64 n2] := rfl
   rcases hq with rfl | rfl | rfl | rfl | rfl | rfl | rfl | rfl | rfl | hq
   all_goals (try simp only [Nat.reduceEqDiff, if_false, if_true] at k1 k2)
   case inr.inr.inr.inr.inr.inr.inr.inr.inr =>
    rw [if_neg (by omega), if_neg (by omega), if_neg (by omega), if_neg (by omega)] at k1
    rw [if_neg (by omega), if_neg (by omega)] at k2
    have d1 : decide (q = 1) = false := decide_eq_false (by omega)
    have d2 : decide (q = 2) = false := decide_eq_false (by omega)
    have e : jt q [n1, n2] = none := by simp only [jt]; (repeat rw [if_neg (by omega)])
    rw [e]
    refine Ctr.intro Tryz.mixed Tryz.func71 rfl Tryz.ach ?_
    refine ev2 @Tryz.ntmps71 @Tryz.results71 ?_
    (repeat ((repeat1' (first | simp -implicitDefEqProofs -dsimp only [go_sem, f1, f2, f3, f4, f5, f6, vw, List.nil_append, List.cons_append, hM1, hM2, hb1, hb2, d1, d2, c0, c1, c2, z00, z01, z02, z10, z11, z12, z20, z21, z22, k1, k2] | simp -dsimp (disch := omega) only [wrap_i64])); repeat (with_reducible refine df ?_)))
    exact aj.au rfl (by rfl)
   all_goals
    refine Ctr.intro Tryz.mixed Tryz.func71 rfl Tryz.ach ?_
    refine ev2 @Tryz.ntmps71 @Tryz.results71 ?_
    (repeat ((repeat1' (first | simp -implicitDefEqProofs -dsimp only [go_sem, f1, f2, f3, f4, f5, f6, vw, List.nil_append, List.cons_append, hM1, hM2, hb1, hb2, c0, c1, c2, z00, z01, z02, z10, z11, z12, z20, z21, z22, k1, k2, hr0] | simp -dsimp (disch := omega) only [wrap_i64])); repeat (with_reducible refine df ?_)))
    first | exact aj.au rfl (by rfl) | skip
 · have c1 : (((n1 :: n2 :: n3 :: L).length : Int) == 1) = false := by simp; omega
   have c2 : (((n1 :: n2 :: n3 :: L).length : Int) == 2) = false := by simp; omega
   have c0 : (((n1 :: n2 :: n3 :: L).length : Int) == 0) = false := by simp; omega
   have e : jt q (n1 :: n2 :: n3 :: L) = none := rfl
   rw [e]
   clear e
   generalize n1 :: n2 :: n3 :: L = ns at *
   rcases hq with rfl | rfl | rfl | rfl | rfl | rfl | rfl | rfl | rfl | hq
   all_goals (try simp only [Nat.reduceEqDiff, if_false, if_true] at k1 k2)
   case inr.inr.inr.inr.inr.inr.inr.inr.inr =>
    rw [if_neg (by omega), if_neg (by omega), if_neg (by omega), if_neg (by omega)] at k1
    rw [if_neg (by omega), if_neg (by omega)] at k2
    have d1 : decide (q = 1) = false := decide_eq_false (by omega)
    have d2 : decide (q = 2) = false := decide_eq_false (by omega)
    refine Ctr.intro Tryz.mixed Tryz.func71 rfl Tryz.ach ?_
    refine ev2 @Tryz.ntmps71 @Tryz.results71 ?_
    (repeat ((repeat1' (first | simp -implicitDefEqProofs -dsimp only [go_sem, f1, f2, f3, f4, f5, f6, vw, List.nil_append, List.cons_append, hM1, hM2, hb1, hb2, d1, d2, c0, c1, c2, z00, z01, z02, z10, z11, z12, z20, z21, z22, k1, k2] | simp -dsimp (disch := omega) only [wrap_i64])); repeat (with_reducible refine df ?_)))
    exact aj.au rfl (by rfl)
   all_goals
    refine Ctr.intro Tryz.mixed Tryz.func71 rfl Tryz.ach ?_
    refine ev2 @Tryz.ntmps71 @Tryz.results71 ?_
    (repeat ((repeat1' (first | simp -implicitDefEqProofs -dsimp only [go_sem, f1, f2, f3, f4, f5, f6, vw, List.nil_append, List.cons_append, hM1, hM2, hb1, hb2, c0, c1, c2, z00, z01, z02, z10, z11, z12, z20, z21, z22, k1, k2, c0] | simp -dsimp (disch := omega) only [wrap_i64])); repeat (with_reducible refine df ?_)))
    first | exact aj.au rfl (by rfl) | skip
end Go.Proofs
end
section
set_option maxRecDepth 100000
set_option maxHeartbeats 4000000
namespace Go.Proofs
open Go.Lv
def ah.oc (c : ah) (i j : Nat) : List V := [.int .i64 c.ae.Now, .osl i 0 c.ae.Posts.length 3, .osl j 0 c.ae.Shocks.length 5, .int .i64 c.ae.Next, .int .i64 c.ae.Archived, .str c.Log.Durable, .str c.Log.Pending, .int .i64 c.Log.Count]
def cW (c : ah) (b : ae) : ah := ⟨b, c.Log⟩
theorem ao9 (c : ah) (k n v : Int) (hw : wB c.ae = true) (hs : fi c.ae k n v = none) : Ctr Tryz.prog 72 [.ptr 0 0, .agg [.int .i64 k, .int .i64 n, .int .i64 v]] [some (c.oc 1 2), some (rows bc.cs c.ae.Posts), some (rows al.cs c.ae.Shocks)] (.tup [.str ⟨#[]⟩, .bool false]) [some (c.oc 1 2), some (rows bc.cs c.ae.Posts), some (rows al.cs c.ae.Shocks)] := by
 have W := ew hw
 have pl := W.plen
 have sl := W.slen
 have iS := yd c.ae k n v (by omega) (by omega)
 rw [hs] at iS
 simp only [ado, aet] at iS
 refine Ctr.intro Tryz.mixed Tryz.func72 rfl Tryz.aba ?_
 refine ev2 @Tryz.ntmps72 @Tryz.results72 ?_
 refine rn1 @ah.oc.eq_1 ?_
 (first | refine ak.at (iS) ⟨leA, leA, trivial⟩ ?_ | refine ai.at (iS) ⟨leA, leA, trivial⟩ ?_)
 refine rn1 @alo.eq_1 ?_
 refine aj.pick [0, 1, 2] (by decide) (by decide) (.inl rfl) ?_
 simp [az, bg, ren, bb, posOf, ab, ah.oc]
theorem am0 (c : ah) (b : ae) (k n v : Int) (hs : fi c.ae k n v = some b) : Ctr Tryz.prog 72 [.ptr 0 0, .agg [.int .i64 k, .int .i64 n, .int .i64 v]] [some (c.oc 1 2), some (rows bc.cs c.ae.Posts), some (rows al.cs c.ae.Shocks)] (.tup [.str ((j1 b k n).getD ⟨#[]⟩), .bool (j1 b k n).isSome]) [some ((cW c b).oc 3 4), some (rows bc.cs c.ae.Posts), some (rows al.cs c.ae.Shocks), some (rows bc.cs b.Posts), some (rows al.cs b.Shocks)] := by
 obtain ⟨hw, hst, _, _, hb⟩ := yt hs
 have W := ew hw
 have pl := W.plen
 have sl := W.slen
 have B := ew hb
 have bl := B.plen
 have bs := B.slen
 have bn := B.now
 have bx := B.next
 have ba := B.arch
 have iS := yd c.ae k n v (by omega) (by omega)
 rw [hs] at iS
 simp only [ado, aet] at iS
 have hup := vi b (by omega)
 have hlt := xb (ups b) (fun x hx => by
  obtain ⟨p, hp, rfl⟩ := List.mem_map.1 hx
  have := (mn.1 (B.posts p (List.mem_of_mem_take (List.mem_filter.1 hp).1))).1
  exact ⟨by omega, by omega⟩) (by have := zo b.Posts b.Posts.length; rw [ups]; omega)
 rcases qk hst with ⟨rfl, h1⟩ | hk | rfl | rfl | ⟨hk, h1⟩
 · have e : j1 b 1 n = some (num b.Now) := rfl
   rw [e]
   refine Ctr.intro Tryz.mixed Tryz.func72 rfl Tryz.aba ?_
   refine ev2 @Tryz.ntmps72 @Tryz.results72 ?_
   refine rn1 @ah.oc.eq_1 ?_
   (first | refine ak.at (iS) ⟨leA, leA, trivial⟩ ?_ | refine ai.at (iS) ⟨leA, leA, trivial⟩ ?_)
   refine rn2 @ae.o.eq_1 @ah.oc.eq_1 ?_
   (have ct := sk b.Now ⟨by omega, by omega⟩; (first | refine ak.at ct ⟨leA, trivial⟩ ?_ | refine ai.at ct ⟨leA, trivial⟩ ?_); clear ct)
   refine rn1 @ah.oc.eq_1 ?_
   refine aj.pick [0, 1, 2, 4, 5] (by decide) (by decide) (.inl rfl) ?_
   simp [az, bg, ren, bb, posOf, ab, ah.oc, cW]
 · have e : j1 b k n = some (lx (ups b)) := by rcases hk with rfl | rfl <;> rfl
   rw [e]
   rcases hk with rfl | rfl
   · skip
     refine Ctr.intro Tryz.mixed Tryz.func72 rfl Tryz.aba ?_
     refine ev2 @Tryz.ntmps72 @Tryz.results72 ?_
     refine rn1 @ah.oc.eq_1 ?_
     (first | refine ak.at (iS) ⟨leA, leA, trivial⟩ ?_ | refine ai.at (iS) ⟨leA, leA, trivial⟩ ?_)
     refine rn2 @ae.o.eq_1 @ah.oc.eq_1 ?_
     (first | refine ak.at (hup) ⟨leA, trivial⟩ ?_ | refine ai.at (hup) ⟨leA, trivial⟩ ?_)
     refine rn1 @ah.oc.eq_1 ?_
     (first | refine ak.at (hlt) ⟨leA, trivial⟩ ?_ | refine ai.at (hlt) ⟨leA, trivial⟩ ?_)
     refine rn1 @ah.oc.eq_1 ?_
     refine aj.pick [0, 1, 2, 4, 5] (by decide) (by decide) (.inl rfl) ?_
     simp [az, bg, ren, bb, posOf, ab, ah.oc, cW]
   · skip
     refine Ctr.intro Tryz.mixed Tryz.func72 rfl Tryz.aba ?_
     refine ev2 @Tryz.ntmps72 @Tryz.results72 ?_
     refine rn1 @ah.oc.eq_1 ?_
     (first | refine ak.at (iS) ⟨leA, leA, trivial⟩ ?_ | refine ai.at (iS) ⟨leA, leA, trivial⟩ ?_)
     refine rn2 @ae.o.eq_1 @ah.oc.eq_1 ?_
     (first | refine ak.at (hup) ⟨leA, trivial⟩ ?_ | refine ai.at (hup) ⟨leA, trivial⟩ ?_)
     refine rn1 @ah.oc.eq_1 ?_
     (first | refine ak.at (hlt) ⟨leA, trivial⟩ ?_ | refine ai.at (hlt) ⟨leA, trivial⟩ ?_)
     refine rn1 @ah.oc.eq_1 ?_
     refine aj.pick [0, 1, 2, 4, 5] (by decide) (by decide) (.inl rfl) ?_
     simp [az, bg, ren, bb, posOf, ab, ah.oc, cW]
 · have e : j1 b 4 n = some (num (b.Next - 1)) := rfl
   rw [e]
   refine Ctr.intro Tryz.mixed Tryz.func72 rfl Tryz.aba ?_
   refine ev2 @Tryz.ntmps72 @Tryz.results72 ?_
   refine rn1 @ah.oc.eq_1 ?_
   (first | refine ak.at (iS) ⟨leA, leA, trivial⟩ ?_ | refine ai.at (iS) ⟨leA, leA, trivial⟩ ?_)
   refine rn2 @ae.o.eq_1 @ah.oc.eq_1 ?_
   (have ct := sk (b.Next - 1) ⟨by omega, by omega⟩; (first | refine ak.at ct ⟨leA, trivial⟩ ?_ | refine ai.at ct ⟨leA, trivial⟩ ?_); clear ct)
   refine rn1 @ah.oc.eq_1 ?_
   refine aj.pick [0, 1, 2, 4, 5] (by decide) (by decide) (.inl rfl) ?_
   simp [az, bg, ren, bb, posOf, ab, ah.oc, cW]
 · have e : j1 b 8 n = some (num b.Archived) := rfl
   rw [e]
   refine Ctr.intro Tryz.mixed Tryz.func72 rfl Tryz.aba ?_
   refine ev2 @Tryz.ntmps72 @Tryz.results72 ?_
   refine rn1 @ah.oc.eq_1 ?_
   (first | refine ak.at (iS) ⟨leA, leA, trivial⟩ ?_ | refine ai.at (iS) ⟨leA, leA, trivial⟩ ?_)
   refine rn2 @ae.o.eq_1 @ah.oc.eq_1 ?_
   (have ct := sk b.Archived ⟨by omega, by omega⟩; (first | refine ak.at ct ⟨leA, trivial⟩ ?_ | refine ai.at ct ⟨leA, trivial⟩ ?_); clear ct)
   refine rn1 @ah.oc.eq_1 ?_
   refine aj.pick [0, 1, 2, 4, 5] (by decide) (by decide) (.inl rfl) ?_
   simp [az, bg, ren, bb, posOf, ab, ah.oc, cW]
 · have hT := yi b n (by omega) (by omega)
   rw [ab8 hb] at hT
   have e : j1 b k n = aas b n := by rcases hk with rfl | rfl | rfl <;> rfl
   rw [e]
   rcases hk with rfl | rfl | rfl
   · skip
     refine Ctr.intro Tryz.mixed Tryz.func72 rfl Tryz.aba ?_
     refine ev2 @Tryz.ntmps72 @Tryz.results72 ?_
     refine rn1 @ah.oc.eq_1 ?_
     (first | refine ak.at (iS) ⟨leA, leA, trivial⟩ ?_ | refine ai.at (iS) ⟨leA, leA, trivial⟩ ?_)
     refine rn2 @ae.o.eq_1 @ah.oc.eq_1 ?_
     (first | refine ak.at (hT) ⟨leA, leA, trivial⟩ ?_ | refine ai.at (hT) ⟨leA, leA, trivial⟩ ?_)
     refine rn1 @ah.oc.eq_1 ?_
     refine aj.pick [0, 1, 2, 4, 5] (by decide) (by decide) (.inl rfl) ?_
     simp [az, bg, ren, bb, posOf, ab, ah.oc, cW]
   · skip
     refine Ctr.intro Tryz.mixed Tryz.func72 rfl Tryz.aba ?_
     refine ev2 @Tryz.ntmps72 @Tryz.results72 ?_
     refine rn1 @ah.oc.eq_1 ?_
     (first | refine ak.at (iS) ⟨leA, leA, trivial⟩ ?_ | refine ai.at (iS) ⟨leA, leA, trivial⟩ ?_)
     refine rn2 @ae.o.eq_1 @ah.oc.eq_1 ?_
     (first | refine ak.at (hT) ⟨leA, leA, trivial⟩ ?_ | refine ai.at (hT) ⟨leA, leA, trivial⟩ ?_)
     refine rn1 @ah.oc.eq_1 ?_
     refine aj.pick [0, 1, 2, 4, 5] (by decide) (by decide) (.inl rfl) ?_
     simp [az, bg, ren, bb, posOf, ab, ah.oc, cW]
   · skip
     refine Ctr.intro Tryz.mixed Tryz.func72 rfl Tryz.aba ?_
     refine ev2 @Tryz.ntmps72 @Tryz.results72 ?_
     refine rn1 @ah.oc.eq_1 ?_
     (first | refine ak.at (iS) ⟨leA, leA, trivial⟩ ?_ | refine ai.at (iS) ⟨leA, leA, trivial⟩ ?_)
     refine rn2 @ae.o.eq_1 @ah.oc.eq_1 ?_
     (first | refine ak.at (hT) ⟨leA, leA, trivial⟩ ?_ | refine ai.at (hT) ⟨leA, leA, trivial⟩ ?_)
     refine rn1 @ah.oc.eq_1 ?_
     refine aj.pick [0, 1, 2, 4, 5] (by decide) (by decide) (.inl rfl) ?_
     simp [az, bg, ren, bb, posOf, ab, ah.oc, cW]
end Go.Proofs
end
section
set_option maxRecDepth 100000
set_option maxHeartbeats 4000000
namespace Go.Proofs
open Go.Lv
theorem ati {α : Type} {lt : α → α → Bool} {y : α} {L : List α} (h : y ∈ cw lt L) : y ∈ L := by
 have key : ∀ (L S : List α), y ∈ L.foldl (ins lt) S → y ∈ S ∨ y ∈ L := by
  intro L
  induction L with
  | nil => intro S h; exact .inl h
  | cons a L ih =>
   intro S h
   rw [List.foldl_cons] at h
   rcases ih _ h with h | h
   · unfold ins putAt at h
     rcases List.mem_append.1 h with h | h
     · exact .inl (List.mem_of_mem_take h)
     · rcases List.mem_cons.1 h with h | h
       · exact .inr (h ▸ List.mem_cons_self)
       · exact .inl (List.mem_of_mem_drop h)
   · exact .inr (List.mem_cons_of_mem _ h)
 rcases key L [] h with h | h
 · cases h
 · exact h
theorem awg {w : ae} (h : wB w = true) : (∀ n ∈ ups w, bu n ∧ 1 ≤ n ∧ n ≤ 99) ∧ (ups w).length ≤ 8 := by
 have W := ew h
 refine ⟨fun x hx => ?_, by have := zo w.Posts w.Posts.length; have := W.plen; rw [ups]; omega⟩
 obtain ⟨p, hp, rfl⟩ := List.mem_map.1 hx
 have := (mn.1 (W.posts p (List.mem_of_mem_take (List.mem_filter.1 hp).1))).1
 exact ⟨⟨by omega, by omega⟩, this⟩
theorem awm {w : ae} (h : wB w = true) : (∀ n ∈ (o5 w).map al.Number, bu n ∧ 1 ≤ n ∧ n ≤ 999) ∧ ((o5 w).map al.Number).length ≤ 6 := by
 have W := ew h
 refine ⟨fun x hx => ?_, ?_⟩
 · obtain ⟨y, hy, rfl⟩ := List.mem_map.1 hx
   have := (gk.1 (W.shocks y (List.mem_filter.1 (ati hy)).1)).1
   have := W.next
   exact ⟨⟨by omega, by omega⟩, by omega, by omega⟩
 · have h1 := List.length_filter_le lb w.Shocks
   have := W.slen
   rw [List.length_map, o5, js]; omega
theorem axh {w : ae} (h : wB w = true) : (∀ n ∈ cy w.Shocks, bu n ∧ 0 ≤ n ∧ n ≤ 6) ∧ (cy w.Shocks).length ≤ 8 := by
 have W := ew h
 have h1 := sq (L := w.Shocks) w.Shocks.length (Nat.le_refl _)
 have h2 := jf (L := w.Shocks) w.Shocks.length (Nat.le_refl _)
 rw [List.take_length] at h1 h2
 have := W.slen
 exact ⟨fun n hn => by have := h1 n hn; exact ⟨⟨by omega, by omega⟩, by omega, by omega⟩, by omega⟩
theorem lg_r {w : ae} (h : wB w = true) : (1 ≤ ((lgO w).map Prod.fst).getD 1 ∧ ((lgO w).map Prod.fst).getD 1 ≤ 99) ∧ (0 ≤ ((lgO w).map Prod.snd).getD 0 ∧ ((lgO w).map Prod.snd).getD 0 ≤ 1000000) ∧ bu (((lgO w).map Prod.fst).getD 0) := by
 have W := ew h
 have hn := W.now
 rw [lgO]
 cases hl : ld w.Posts w.Posts.length with
 | none => refine ⟨⟨?_, ?_⟩, ⟨?_, ?_⟩, ⟨?_, ?_⟩⟩ <;> simp
 | some b =>
  dsimp only
  cases hp : w.Posts[b]? with
  | none => refine ⟨⟨?_, ?_⟩, ⟨?_, ?_⟩, ⟨?_, ?_⟩⟩ <;> simp
  | some p =>
   have hm : p ∈ w.Posts := List.mem_of_getElem? hp
   have := mn.1 (W.posts p hm)
   simp only [Option.map_some, Option.getD_some]
   exact ⟨by omega, by omega, by omega, by omega⟩
def avb (w : ae) (q : Nat) : ByteArray := if q = 14 then lx [((lgO w).map Prod.fst).getD 0, ((lgO w).map Prod.snd).getD 0] else (w3 w q).getD ⟨#[]⟩
theorem aud {w : ae} {q : Nat} {x : ByteArray} (h : w3 w q = some x) : avb w q = x := by
 unfold avb
 split
 · rename_i e
   subst e
   rw [show w3 w 14 = (lgO w).map fun p => lx [p.1, p.2] from rfl] at h
   cases hl : lgO w with
   | none => rw [hl] at h; cases h
   | some p => rw [hl] at h; simpa using h
 · rw [h]; rfl
theorem ah3 (L : List Int) (b : Bool) (hL : ∀ n ∈ L, bu n) (hl : L.length ≤ 100000) : Ctr Tryz.prog 113 [IntS.sl L, .bool b] [] (.tup [.str (lx L), .bool b]) [] := by
 refine Ctr.intro Tryz.mixed Tryz.func113 rfl Tryz.ay8 ?_
 refine ev2 @Tryz.ntmps113 @Tryz.results113 ?_
 refine rn0 ?_
 (have ct := xb L hL hl; (first | refine ak.at ct ⟨leA, trivial⟩ ?_ | refine ai.at ct ⟨leA, trivial⟩ ?_); clear ct)
 refine rn0 ?_
 exact aj.au rfl (by rfl)
theorem azd (c : ah) (h : ByteArray) (hw : wB c.ae = true) : Ctr Tryz.prog 74 [.ptr 0 0, .str h] [some (c.oc 1 2), some (rows bc.cs c.ae.Posts), some (rows al.cs c.ae.Shocks)] (.tup [.str (avb c.ae (kwd h)), .bool (w3 c.ae (kwd h)).isSome]) [some (c.oc 1 2), some (rows bc.cs c.ae.Posts), some (rows al.cs c.ae.Shocks)] := by
 have W := ew hw
 have pl := W.plen
 have sl := W.slen
 have bn := W.now
 have iU := aj4 c.ae (by omega) (by omega)
 have iT := ahs c.ae (by omega) (by omega)
 have iS := acy c.ae (by omega) (by omega)
 have iL := ac9 c.ae (by omega) (by omega)
 rw [asq hw] at iU
 rw [ad3 hw] at iT
 rw [adq hw] at iS
 rw [aj1 hw] at iL
 simp only [wg, o8] at iU iT iS
 have u := awg hw
 have r := awm hw
 have s := axh hw
 have l := lg_r hw
 have lU := ah3 (ups c.ae) true (fun n hn => (u.1 n hn).1) (by omega)
 have lT := ah3 ((o5 c.ae).map al.Number) true (fun n hn => (r.1 n hn).1) (by omega)
 have lS := ah3 (cy c.ae.Shocks) true (fun n hn => (s.1 n hn).1) (by omega)
 have lL := xb [((lgO c.ae).map Prod.fst).getD 0, ((lgO c.ae).map Prod.snd).getD 0] (fun n hn => by
  simp only [List.mem_cons, List.not_mem_nil, or_false] at hn
  rcases hn with rfl | rfl
  · exact l.2.2
  · exact ⟨by omega, by omega⟩) (by simp)
 have b10 := axw h
 have b11 := axc h
 have b12 := axp h
 have b13 := awx h
 have b14 := awo h
 generalize kwd h = q at *
 have hq : q = 10 ∨ q = 11 ∨ q = 12 ∨ q = 13 ∨ q = 14 ∨ (q ≠ 10 ∧ q ≠ 11 ∧ q ≠ 12 ∧ q ≠ 13 ∧ q ≠ 14) := by omega
 rcases hq with rfl | rfl | rfl | rfl | rfl | ⟨q1, q2, q3, q4, q5⟩
 · skip
   refine Ctr.intro Tryz.mixed Tryz.func74 rfl Tryz.agv ?_
   refine ev2 @Tryz.ntmps74 @Tryz.results74 ?_
   refine rn6 @ah.oc.eq_1 @b10 @b11 @b12 @b13 @b14 ?_
   (have ct := sk c.ae.Now ⟨by omega, by omega⟩; (first | refine ak.at ct ⟨leA, trivial⟩ ?_ | refine ai.at ct ⟨leA, trivial⟩ ?_); clear ct)
   refine rn0 ?_
   refine aj.pick [0, 1, 2] (by decide) (by decide) (.inl rfl) ?_
   simp [az, bg, ren, bb, posOf, ab, ah.oc]
 · skip
   refine Ctr.intro Tryz.mixed Tryz.func74 rfl Tryz.agv ?_
   refine ev2 @Tryz.ntmps74 @Tryz.results74 ?_
   refine rn6 @ah.oc.eq_1 @b10 @b11 @b12 @b13 @b14 ?_
   (first | refine ak.at (iU) ⟨leA, trivial⟩ ?_ | refine ai.at (iU) ⟨leA, trivial⟩ ?_)
   refine rn0 ?_
   (first | refine ak.at (lU) ⟨leA, leA, trivial⟩ ?_ | refine ai.at (lU) ⟨leA, leA, trivial⟩ ?_)
   refine rn0 ?_
   refine aj.pick [0, 1, 2] (by decide) (by decide) (.inl rfl) ?_
   simp [az, bg, ren, bb, posOf, ab, ah.oc]
 · skip
   refine Ctr.intro Tryz.mixed Tryz.func74 rfl Tryz.agv ?_
   refine ev2 @Tryz.ntmps74 @Tryz.results74 ?_
   refine rn6 @ah.oc.eq_1 @b10 @b11 @b12 @b13 @b14 ?_
   (first | refine ak.at (iT) ⟨leA, trivial⟩ ?_ | refine ai.at (iT) ⟨leA, trivial⟩ ?_)
   refine rn0 ?_
   (first | refine ak.at (lT) ⟨leA, leA, trivial⟩ ?_ | refine ai.at (lT) ⟨leA, leA, trivial⟩ ?_)
   refine rn0 ?_
   refine aj.pick [0, 1, 2] (by decide) (by decide) (.inl rfl) ?_
   simp [az, bg, ren, bb, posOf, ab, ah.oc]
 · skip
   refine Ctr.intro Tryz.mixed Tryz.func74 rfl Tryz.agv ?_
   refine ev2 @Tryz.ntmps74 @Tryz.results74 ?_
   refine rn6 @ah.oc.eq_1 @b10 @b11 @b12 @b13 @b14 ?_
   (first | refine ak.at (iS) ⟨leA, trivial⟩ ?_ | refine ai.at (iS) ⟨leA, trivial⟩ ?_)
   refine rn0 ?_
   (first | refine ak.at (lS) ⟨leA, leA, trivial⟩ ?_ | refine ai.at (lS) ⟨leA, leA, trivial⟩ ?_)
   refine rn0 ?_
   refine aj.pick [0, 1, 2] (by decide) (by decide) (.inl rfl) ?_
   simp [az, bg, ren, bb, posOf, ab, ah.oc]
 · have e : (w3 c.ae 14).isSome = (lgO c.ae).isSome := by
    rw [show w3 c.ae 14 = (lgO c.ae).map fun p => lx [p.1, p.2] from rfl]; cases lgO c.ae <;> rfl
   rw [e]
   refine Ctr.intro Tryz.mixed Tryz.func74 rfl Tryz.agv ?_
   refine ev2 @Tryz.ntmps74 @Tryz.results74 ?_
   refine rn6 @ah.oc.eq_1 @b10 @b11 @b12 @b13 @b14 ?_
   (first | refine ak.at (iL) ⟨leA, trivial⟩ ?_ | refine ai.at (iL) ⟨leA, trivial⟩ ?_)
   refine rn0 ?_
   (first | refine ak.at (lL) ⟨leA, trivial⟩ ?_ | refine ai.at (lL) ⟨leA, trivial⟩ ?_)
   refine rn0 ?_
   refine aj.pick [0, 1, 2] (by decide) (by decide) (.inl rfl) ?_
   simp [az, bg, ren, bb, posOf, ab, ah.oc]
 · have d0 : decide (q = 10) = false := decide_eq_false q1
   have d1 : decide (q = 11) = false := decide_eq_false q2
   have d2 : decide (q = 12) = false := decide_eq_false q3
   have d3 : decide (q = 13) = false := decide_eq_false q4
   have d4 : decide (q = 14) = false := decide_eq_false q5
   have e : w3 c.ae q = none := by rw [w3, if_neg q1, if_neg q2, if_neg q3, if_neg q4, if_neg q5]
   rw [avb, if_neg q5, e]
   refine Ctr.intro Tryz.mixed Tryz.func74 rfl Tryz.agv ?_
   refine ev2 @Tryz.ntmps74 @Tryz.results74 ?_
   refine rn11 @ah.oc.eq_1 @b10 @b11 @b12 @b13 @b14 @d0 @d1 @d2 @d3 @d4 ?_
   refine aj.pick [0, 1, 2] (by decide) (by decide) (.inl rfl) ?_
   simp [az, bg, ren, bb, posOf, ab, ah.oc]
end Go.Proofs
end
section
set_option maxRecDepth 100000
set_option maxHeartbeats 4000000
namespace Go.Proofs
open Go.Lv
noncomputable def aa9 (w : ae) (line : ByteArray) : Option ae := match vd (jv 32 line).tail with
 | none => none
 | some ns => match jt (kwd ((jv 32 line).headD ⟨#[]⟩)) ns with
  | some (k, n, v) => fi w k n v
  | none => none
theorem ak5 (w : ae) (line : ByteArray) : (fy w line).1 = (aa9 w line).getD w := by
 unfold fy aa9
 cases vd (jv 32 line).tail with
 | none => rfl
 | some ns =>
  dsimp only
  unfold mz
  cases jt (kwd ((jv 32 line).headD ⟨#[]⟩)) ns with
  | none => cases ns with
   | nil => rfl
   | cons a l => cases l <;> rfl
  | some p =>
   obtain ⟨k, n, v⟩ := p
   dsimp only
   unfold lp
   cases fi w k n v <;> rfl
theorem ajr {w : ae} {q : Nat} (h : jt q [] = none) : mz w q [] = (w, (w3 w q).getD wQ) := by unfold mz; rw [h]
theorem ajv {w : ae} {q : Nat} {n : Int} (h : jt q [n] = none) : mz w q [n] = (w, if q = 9 then (aas w n).getD wQ else wQ) := by unfold mz; rw [h]
theorem aeh {w : ae} {q : Nat} {a b : Int} {L : List Int} (h : jt q (a :: b :: L) = none) : mz w q (a :: b :: L) = (w, wQ) := by unfold mz; rw [h]
theorem am2 (c : ah) (line : ByteArray) (hl : line.size ≤ 1000) (hw : wB c.ae = true) (hs : aa9 c.ae line = none) : Ctr Tryz.prog 35 [.ptr 0 0, .str line] [some (c.oc 1 2), some (rows bc.cs c.ae.Posts), some (rows al.cs c.ae.Shocks)] (.str (fy c.ae line).2) [some (c.oc 1 2), some (rows bc.cs c.ae.Posts), some (rows al.cs c.ae.Shocks)] := by
 have W := ew hw
 have pl := W.plen
 have sl := W.slen
 obtain ⟨x, T, hS⟩ := aby 32 line
 have hT : (jv 32 line).tail = T := by rw [hS]; rfl
 have hx : (jv 32 line).headD ⟨#[]⟩ = x := by rw [hS]; rfl
 have hsp := agx line 32 (by omega)
 have hlen := aa8 32 line
 have hsz : ∀ y ∈ x :: T, y.size ≤ line.size := fun y hy => xy 32 line (by rw [hS]; exact hy)
 rw [hS] at hsp hlen
 simp only [List.length_cons] at hlen
 have hr0 : (rows StringS.cs (x :: T)).take 1 = [.str x] := rfl
 have hr1 : (rows StringS.cs (x :: T)).drop 1 = rows StringS.cs T := rfl
 refine Ctr.intro Tryz.mixed Tryz.func35 rfl Tryz.aw2 ?_
 refine ev2 @Tryz.ntmps35 @Tryz.results35 ?_
 (first | refine ak.at (hsp) ⟨leA, leA, trivial⟩ ?_ | refine ai.at (hsp) ⟨leA, leA, trivial⟩ ?_)
 refine rn1 @hr1 ?_
 refine dn.intro (fun i : Nat => i ≤ T.length ∧ (T.take i).all (fun s => (dc s).isSome) = true) (fun i => ⟨(.ptr 0 0 :: (un 4 (StringS.sl (x :: T) :: .osl 3 0 i 1 :: (un 12 (StringS.sl T :: .int .i64 T.length :: .int .i64 i :: (un 67 [])))))), [some (c.oc 1 2), some (rows bc.cs c.ae.Posts), some (rows al.cs c.ae.Shocks), some (rows IntS.cs ((T.take i).map fun s => (dc s).getD 0))], 3⟩) (fun i => T.length - i) 0 ⟨Nat.zero_le _, rfl⟩ ?_ (fun i hi => ?_)
 · refine bo.cut (4) (by simp) (by simp) ?_ ?_
   · simp [LeC, LeV, ren, bh]
   · simp [cb, ck, ren, bh, ab, ah.oc, aab]
 refine ev0 ?_
 refine aw.split (fun h1 => ?_) (fun h1 => ?_)
 · have hi' : i < T.length := by have := of_decide_eq_true h1; omega
   have hr := bw StringS.csl hi'
   have hst : (T.take (i + 1)).map (fun s => (dc s).getD 0) = (T.take i).map (fun s => (dc s).getD 0) ++ [(dc T[i]).getD 0] := by rw [List.take_succ_eq_append_getElem hi', List.map_append]; rfl
   have hlen2 : ((T.take i).map fun s => (dc s).getD 0).length = i := by simp; omega
   have ip := aai T[i] (by have := hsz T[i] (List.mem_cons_of_mem _ (List.getElem_mem hi')); omega)
   rw [j7] at ip
   refine rn3 @h1 @hr @StringS.cs.eq_1 ?_
   cases hread : (dc T[i]).isSome with
   | false =>
    have hno := abp hi' hread
    have hrun : fy c.ae line = (c.ae, wQ) := by unfold fy; rw [hT, hno]
    rw [hread] at ip
    (first | refine ak.at (ip) ⟨leA, trivial⟩ ?_ | refine ai.at (ip) ⟨leA, trivial⟩ ?_)
    refine rn0 ?_
    first
     | (rw [hrun]; refine aj.pick [0, 1, 2] (by decide) (by decide) (.inl rfl) ?_; simp [az, bg, ren, bb, posOf, ab, ah.oc]; done)
     | (exfalso; unfold aa9 at hs; rw [hT, hno] at hs; cases hs; done)
   | true =>
    rw [hread] at ip
    (first | refine ak.at (ip) ⟨leA, trivial⟩ ?_ | refine ai.at (ip) ⟨leA, trivial⟩ ?_)
    refine rn4 @ay @bf @Nat.mul_one @hlen2 ?_
    refine ⟨i + 1, ⟨hi', by rw [List.take_succ_eq_append_getElem hi', List.all_append, hi.2]; simp [hread]⟩, ?_, by omega⟩
    refine bo.cut (4) (by simp) (by simp) ?_ ?_
    · simp [LeC, LeV, ren, bh]
    · rw [hst, ← dy]
      simp [cb, ck, ren, bh, ab, dj, k9, IntS.cs, ah.oc]
 have hi' : i = T.length := by have := of_decide_eq_false h1; omega
 subst hi'
 have hnum := zb hi.2
 have hbd := ab2 hnum
 rw [List.take_length]
 have hnl : (T.map fun s => (dc s).getD 0).length = T.length := List.length_map _
 simp only [← hnl]
 have hrun : fy c.ae line = mz c.ae (kwd x) (T.map fun s => (dc s).getD 0) := by unfold fy; rw [hT, hnum, hx]
 have hstp : aa9 c.ae line = match jt (kwd x) (T.map fun s => (dc s).getD 0) with
  | some (k, n, v) => fi c.ae k n v
  | none => none := by unfold aa9; rw [hT, hnum, hx]
 rw [hstp] at hs
 clear hstp hnum
 have hns : (T.map fun s => (dc s).getD 0).length ≤ 1000 := by omega
 generalize (T.map fun s => (dc s).getD 0) = ns at *
 have so := agw x ns (by omega)
 refine rn2 @h1 @hr0 ?_
 (first | refine ak.at (so) ⟨leA, leA, trivial⟩ ?_ | refine ai.at (so) ⟨leA, leA, trivial⟩ ?_)
 have b9 := kwb9 x
 have ha := azd c x hw
 generalize kwd x = q at *
 cases hst : jt q ns with
 | some p =>
  obtain ⟨k, n, v⟩ := p
  rw [hst] at hs so
  have hs' : fi c.ae k n v = none := hs
  have hR : mz c.ae q ns = (c.ae, wQ) := by unfold mz; rw [hst]; show lp c.ae k n v = _; rw [lp, hs']
  rw [hrun, hR]
  simp only [acf, Option.map_some, Option.getD_some, Option.isSome_some] at so
  have hC := ao9 c k n v hw hs'
  refine rn3 @acf.eq_1 @Option.map_some.{0, 0} @Option.getD_some.{0} ?_
  refine ai.dp [0, 1, 2] false hC (by decide) ⟨leO, leO, trivial⟩ (by simp [az, bg, ren, bb, posOf, ab, ah.oc]) ⟨⟨rfl, rfl⟩, ⟨rfl, rfl⟩, ⟨rfl, rfl⟩, trivial⟩ (.inl rfl) ?_
  refine rn1 @ah.oc.eq_1 ?_
  refine aj.pick [0, 1, 2] (by decide) (by decide) (.inl rfl) ?_
  simp [az, bg, ren, bb, posOf, iz, ab, ah.oc]
 | none =>
  rw [hst] at so
  rw [hrun]
  clear hrun hs
  have z00 : (((0 : Nat) : Int) == 0) = true := rfl
  have z01 : (((0 : Nat) : Int) == 1) = false := rfl
  have z02 : (((0 : Nat) : Int) == 2) = false := rfl
  have z10 : (((1 : Nat) : Int) == 0) = false := rfl
  have z11 : (((1 : Nat) : Int) == 1) = true := rfl
  have z12 : (((1 : Nat) : Int) == 2) = false := rfl
  have z20 : (((2 : Nat) : Int) == 0) = false := rfl
  have z21 : (((2 : Nat) : Int) == 1) = false := rfl
  have z22 : (((2 : Nat) : Int) == 2) = true := rfl
  rcases ns with _ | ⟨n1, _ | ⟨n2, L⟩⟩
  · rw [ajr hst]
    have c9 : decide (q = 9) = true ∨ decide (q = 9) = false := by cases decide (q = 9) <;> simp
    rcases c9 with c9 | c9
    all_goals
     refine rn15 @acf.eq_1 @Option.map_none.{0, 0} @Option.getD_none.{0} @b9 @c9 @hr0 @z00 @z01 @z02 @z10 @z11 @z12 @z20 @z21 @z22 ?_
     refine ai.dp [0, 1, 2] false ha (by decide) ⟨leO, leO, trivial⟩ (by simp [az, bg, ren, bb, posOf, ab, ah.oc]) ⟨⟨rfl, rfl⟩, ⟨rfl, rfl⟩, ⟨rfl, rfl⟩, trivial⟩ (.inl rfl) ?_
     refine rn0 ?_
     cases hA : w3 c.ae q with
     | none =>
      refine rn0 ?_
      refine aj.pick [0, 1, 2] (by decide) (by decide) (.inl rfl) ?_
      simp [az, bg, ren, bb, posOf, iz, ab, ah.oc]
     | some y =>
      rw [aud hA]
      refine rn0 ?_
      refine aj.pick [0, 1, 2] (by decide) (by decide) (.inl rfl) ?_
      simp [az, bg, ren, bb, posOf, iz, ab, ah.oc]
  · rw [ajv hst]
    have hn1 := hbd n1 (by simp)
    have hr3 : rows IntS.cs [n1] = [.int .i64 n1] := rfl
    have hT9 := yi c.ae n1 (by omega) (by omega)
    rw [ab8 hw] at hT9
    by_cases c9 : q = 9
    · have d9 : decide (q = 9) = true := decide_eq_true c9
      rw [if_pos c9]
      refine rn17 @acf.eq_1 @Option.map_none.{0, 0} @Option.getD_none.{0} @b9 @d9 @hr3 @hr0 @ah.oc.eq_1 @z00 @z01 @z02 @z10 @z11 @z12 @z20 @z21 @z22 ?_
      (first | refine ak.at (hT9) ⟨leA, leA, trivial⟩ ?_ | refine ai.at (hT9) ⟨leA, leA, trivial⟩ ?_)
      refine rn0 ?_
      cases hA : aas c.ae n1 with
      | none =>
       refine rn0 ?_
       refine aj.pick [0, 1, 2] (by decide) (by decide) (.inl rfl) ?_
       simp [az, bg, ren, bb, posOf, iz, ab, ah.oc]
      | some y =>
       refine rn0 ?_
       refine aj.pick [0, 1, 2] (by decide) (by decide) (.inl rfl) ?_
       simp [az, bg, ren, bb, posOf, iz, ab, ah.oc]
    · have d9 : decide (q = 9) = false := decide_eq_false c9
      rw [if_neg c9]
      refine rn16 @acf.eq_1 @Option.map_none.{0, 0} @Option.getD_none.{0} @b9 @d9 @hr3 @hr0 @z00 @z01 @z02 @z10 @z11 @z12 @z20 @z21 @z22 ?_
      refine aj.pick [0, 1, 2] (by decide) (by decide) (.inl rfl) ?_
      simp [az, bg, ren, bb, posOf, iz, ab, ah.oc]
  · rw [aeh hst]
    clear hst
    have c1 : (((n1 :: n2 :: L).length : Int) == 1) = false := by simp; omega
    have c0 : (((n1 :: n2 :: L).length : Int) == 0) = false := by simp; omega
    generalize n1 :: n2 :: L = ns at *
    have c9 : decide (q = 9) = true ∨ decide (q = 9) = false := by cases decide (q = 9) <;> simp
    rcases c9 with c9 | c9
    all_goals
     refine rn8 @acf.eq_1 @Option.map_none.{0, 0} @Option.getD_none.{0} @b9 @c9 @hr0 @c1 @c0 ?_
     refine aj.pick [0, 1, 2] (by decide) (by decide) (.inl rfl) ?_
     simp [az, bg, ren, bb, posOf, iz, ab, ah.oc]
theorem aj0 (c : ah) (b : ae) (line : ByteArray) (hl : line.size ≤ 1000) (hw : wB c.ae = true) (hs : aa9 c.ae line = some b) : Ctr Tryz.prog 35 [.ptr 0 0, .str line] [some (c.oc 1 2), some (rows bc.cs c.ae.Posts), some (rows al.cs c.ae.Shocks)] (.str (fy c.ae line).2) [some ((cW c b).oc 3 4), some (rows bc.cs c.ae.Posts), some (rows al.cs c.ae.Shocks), some (rows bc.cs b.Posts), some (rows al.cs b.Shocks)] := by
 have W := ew hw
 have pl := W.plen
 have sl := W.slen
 obtain ⟨x, T, hS⟩ := aby 32 line
 have hT : (jv 32 line).tail = T := by rw [hS]; rfl
 have hx : (jv 32 line).headD ⟨#[]⟩ = x := by rw [hS]; rfl
 have hsp := agx line 32 (by omega)
 have hlen := aa8 32 line
 have hsz : ∀ y ∈ x :: T, y.size ≤ line.size := fun y hy => xy 32 line (by rw [hS]; exact hy)
 rw [hS] at hsp hlen
 simp only [List.length_cons] at hlen
 have hr0 : (rows StringS.cs (x :: T)).take 1 = [.str x] := rfl
 have hr1 : (rows StringS.cs (x :: T)).drop 1 = rows StringS.cs T := rfl
 refine Ctr.intro Tryz.mixed Tryz.func35 rfl Tryz.aw2 ?_
 refine ev2 @Tryz.ntmps35 @Tryz.results35 ?_
 (first | refine ak.at (hsp) ⟨leA, leA, trivial⟩ ?_ | refine ai.at (hsp) ⟨leA, leA, trivial⟩ ?_)
 refine rn1 @hr1 ?_
 refine dn.intro (fun i : Nat => i ≤ T.length ∧ (T.take i).all (fun s => (dc s).isSome) = true) (fun i => ⟨(.ptr 0 0 :: (un 4 (StringS.sl (x :: T) :: .osl 3 0 i 1 :: (un 12 (StringS.sl T :: .int .i64 T.length :: .int .i64 i :: (un 67 [])))))), [some (c.oc 1 2), some (rows bc.cs c.ae.Posts), some (rows al.cs c.ae.Shocks), some (rows IntS.cs ((T.take i).map fun s => (dc s).getD 0))], 3⟩) (fun i => T.length - i) 0 ⟨Nat.zero_le _, rfl⟩ ?_ (fun i hi => ?_)
 · refine bo.cut (4) (by simp) (by simp) ?_ ?_
   · simp [LeC, LeV, ren, bh]
   · simp [cb, ck, ren, bh, ab, ah.oc, aab]
 refine ev0 ?_
 refine aw.split (fun h1 => ?_) (fun h1 => ?_)
 · have hi' : i < T.length := by have := of_decide_eq_true h1; omega
   have hr := bw StringS.csl hi'
   have hst : (T.take (i + 1)).map (fun s => (dc s).getD 0) = (T.take i).map (fun s => (dc s).getD 0) ++ [(dc T[i]).getD 0] := by rw [List.take_succ_eq_append_getElem hi', List.map_append]; rfl
   have hlen2 : ((T.take i).map fun s => (dc s).getD 0).length = i := by simp; omega
   have ip := aai T[i] (by have := hsz T[i] (List.mem_cons_of_mem _ (List.getElem_mem hi')); omega)
   rw [j7] at ip
   refine rn3 @h1 @hr @StringS.cs.eq_1 ?_
   cases hread : (dc T[i]).isSome with
   | false =>
    have hno := abp hi' hread
    have hrun : fy c.ae line = (c.ae, wQ) := by unfold fy; rw [hT, hno]
    rw [hread] at ip
    (first | refine ak.at (ip) ⟨leA, trivial⟩ ?_ | refine ai.at (ip) ⟨leA, trivial⟩ ?_)
    refine rn0 ?_
    first
     | (rw [hrun]; refine aj.pick [0, 1, 2] (by decide) (by decide) (.inl rfl) ?_; simp [az, bg, ren, bb, posOf, ab, ah.oc]; done)
     | (exfalso; unfold aa9 at hs; rw [hT, hno] at hs; cases hs; done)
   | true =>
    rw [hread] at ip
    (first | refine ak.at (ip) ⟨leA, trivial⟩ ?_ | refine ai.at (ip) ⟨leA, trivial⟩ ?_)
    refine rn4 @ay @bf @Nat.mul_one @hlen2 ?_
    refine ⟨i + 1, ⟨hi', by rw [List.take_succ_eq_append_getElem hi', List.all_append, hi.2]; simp [hread]⟩, ?_, by omega⟩
    refine bo.cut (4) (by simp) (by simp) ?_ ?_
    · simp [LeC, LeV, ren, bh]
    · rw [hst, ← dy]
      simp [cb, ck, ren, bh, ab, dj, k9, IntS.cs, ah.oc]
 have hi' : i = T.length := by have := of_decide_eq_false h1; omega
 subst hi'
 have hnum := zb hi.2
 have hbd := ab2 hnum
 rw [List.take_length]
 have hnl : (T.map fun s => (dc s).getD 0).length = T.length := List.length_map _
 simp only [← hnl]
 have hrun : fy c.ae line = mz c.ae (kwd x) (T.map fun s => (dc s).getD 0) := by unfold fy; rw [hT, hnum, hx]
 have hstp : aa9 c.ae line = match jt (kwd x) (T.map fun s => (dc s).getD 0) with
  | some (k, n, v) => fi c.ae k n v
  | none => none := by unfold aa9; rw [hT, hnum, hx]
 rw [hstp] at hs
 clear hstp hnum
 have hns : (T.map fun s => (dc s).getD 0).length ≤ 1000 := by omega
 generalize (T.map fun s => (dc s).getD 0) = ns at *
 have so := agw x ns (by omega)
 refine rn2 @h1 @hr0 ?_
 (first | refine ak.at (so) ⟨leA, leA, trivial⟩ ?_ | refine ai.at (so) ⟨leA, leA, trivial⟩ ?_)
 generalize kwd x = q at *
 cases hst : jt q ns with
 | some p =>
  obtain ⟨k, n, v⟩ := p
  rw [hst] at hs so
  have hs' : fi c.ae k n v = some b := hs
  have hR : mz c.ae q ns = (b, (j1 b k n).getD wQ) := by unfold mz; rw [hst]; show lp c.ae k n v = _; rw [lp, hs']
  rw [hrun, hR]
  have hC := am0 c b k n v hs'
  refine rn3 @acf.eq_1 @Option.map_some.{0, 0} @Option.getD_some.{0} ?_
  refine ai.dp [0, 1, 2] false hC (by decide) ⟨leO, leO, trivial⟩ (by simp [az, bg, ren, bb, posOf, ab, ah.oc]) ⟨⟨rfl, rfl⟩, ⟨rfl, rfl⟩, ⟨rfl, rfl⟩, trivial⟩ (.inl rfl) ?_
  refine rn1 @ah.oc.eq_1 ?_
  cases hA : j1 b k n with
  | none =>
   refine rn0 ?_
   refine aj.pick [0, 1, 2, 5, 6] (by decide) (by decide) (.inl rfl) ?_
   simp [az, bg, ren, bb, posOf, iz, ab, ah.oc, cW]
  | some y =>
   refine rn0 ?_
   refine aj.pick [0, 1, 2, 5, 6] (by decide) (by decide) (.inl rfl) ?_
   simp [az, bg, ren, bb, posOf, iz, ab, ah.oc, cW]
 | none =>
  rw [hst] at hs
  cases hs
end Go.Proofs
end
section
set_option maxRecDepth 100000
set_option maxHeartbeats 4000000
namespace Go.Proofs
open Go.Lv
def wNo : ByteArray := ⟨#[110, 111]⟩
def av5 : ByteArray := ⟨#[98, 97, 100]⟩
def aof : ByteArray := ⟨#[102, 117, 108, 108]⟩
def ahg : ByteArray := ⟨#[108, 111, 110, 103]⟩
def py (r : ByteArray) : ByteArray := if 200 < (r.size : Int) then ahg else r
def ahz (l : Log) (e : aq) : Log := if jd l = true ∧ ic e = true then (if l.Count = 60 then l else ⟨l.Durable, l.Pending ++ cf l.Count e, l.Count + 1⟩) else l
theorem anl (l : Log) (e : aq) : ∃ z : Int, x9 l e = [(ahz l e).v, .int .i64 z] := by
 unfold x9 ahz
 split
 · split
   · exact ⟨_, rfl⟩
   · exact ⟨_, rfl⟩
 · exact ⟨_, rfl⟩
noncomputable def dd (c : ah) (line : ByteArray) : ah × ByteArray :=
 if ni c = false then (c, wNo) else if ic ⟨line, ByteArray.empty⟩ = false then (c, av5) else if c.Log.Count = 60 then (c, aof)
 else (⟨(fy c.ae line).1, ahz c.Log ⟨line, py (fy c.ae line).2⟩⟩, py (fy c.ae line).2)
theorem agd {line : ByteArray} {r : ByteArray} (h : ic ⟨line, r⟩ = true) : line.size ≤ 160 := by
 simp only [ic, Bool.and_eq_true, decide_eq_true_eq] at h
 omega
theorem jy {c : ah} (h : ni c = true) : wB c.ae = true ∧ jd c.Log = true := by
 simpa [ni] using h
theorem aqp (c : ah) (line : ByteArray) (hc : c.fits) (hl : line.size ≤ 4194304) : Ctr Tryz.prog 8 [c.v, .str line] [] (.tup [(dd c line).1.o 0 1, .str (dd c line).2]) [some (rows bc.cs (dd c line).1.ae.Posts), some (rows al.cs (dd c line).1.ae.Shocks)] := by
 obtain ⟨f0, f1, f2, f3⟩ := hc
 have hc : c.fits := ⟨f0, f1, f2, f3⟩
 have he2 : (ByteArray.empty : ByteArray).size = 0 := rfl
 have hV := nn ⟨line, ByteArray.empty⟩ (by dsimp only; omega) (by dsimp only; omega)
 cases hb : ni c with
 | false =>
  rw [show dd c line = (c, wNo) by rw [dd, if_pos hb]]
  refine Ctr.intro Tryz.mixed Tryz.func8 rfl Tryz.aqs ?_
  refine ev2 @Tryz.ntmps8 @Tryz.results8 ?_
  refine rn1 @ah.v.eq_1 ?_
  (have ct := du c.ae (by omega) (by omega); (first | refine ak.at ct ⟨leA, trivial⟩ ?_ | refine ai.at ct ⟨leA, trivial⟩ ?_); clear ct)
  refine rn1 @ae.o.eq_1 ?_
  (have ct := ja c hc; (first | refine ak.at ct ⟨leA, trivial⟩ ?_ | refine ai.at ct ⟨leA, trivial⟩ ?_); clear ct)
  rw [hb]
  refine rn0 ?_
  refine aj.pick [2, 3] (by decide) (fun j hj => by omega) (.inl ?_) ?_
  · first | rfl | (simp [ren, bb, posOf, ah.o]; done)
  · simp only [az, List.map_cons, List.map_nil, bg, List.getElem?_cons_zero, List.getElem?_cons_succ, ab]
 | true =>
  cases hr : ic ⟨line, ByteArray.empty⟩ with
  | false =>
   rw [show dd c line = (c, av5) by rw [dd, if_neg (by simp [hb]), if_pos hr]]
   rw [hr] at hV
   refine Ctr.intro Tryz.mixed Tryz.func8 rfl Tryz.aqs ?_
   refine ev2 @Tryz.ntmps8 @Tryz.results8 ?_
   refine rn1 @ah.v.eq_1 ?_
   (have ct := du c.ae (by omega) (by omega); (first | refine ak.at ct ⟨leA, trivial⟩ ?_ | refine ai.at ct ⟨leA, trivial⟩ ?_); clear ct)
   refine rn1 @ae.o.eq_1 ?_
   (have ct := ja c hc; (first | refine ak.at ct ⟨leA, trivial⟩ ?_ | refine ai.at ct ⟨leA, trivial⟩ ?_); clear ct)
   rw [hb]
   refine rn0 ?_
   (first | refine ak.at (hV) ⟨leA, trivial⟩ ?_ | refine ai.at (hV) ⟨leA, trivial⟩ ?_)
   refine rn1 @aq.v.eq_1 ?_
   refine aj.pick [2, 3] (by decide) (fun j hj => by omega) (.inl ?_) ?_
   · first | rfl | (simp [ren, bb, posOf, ah.o]; done)
   · simp only [az, List.map_cons, List.map_nil, bg, List.getElem?_cons_zero, List.getElem?_cons_succ, ab]
  | true =>
   have hl2 := agd hr
   obtain ⟨hw, hlg⟩ := jy hb
   rw [hr] at hV
   by_cases hf : c.Log.Count = 60
   · have hf' : (c.Log.Count == 60) = true := by simpa using hf
     rw [show dd c line = (c, aof) by rw [dd, if_neg (by simp [hb]), if_neg (by simp [hr]), if_pos hf]]
     refine Ctr.intro Tryz.mixed Tryz.func8 rfl Tryz.aqs ?_
     refine ev2 @Tryz.ntmps8 @Tryz.results8 ?_
     refine rn1 @ah.v.eq_1 ?_
     (have ct := du c.ae (by omega) (by omega); (first | refine ak.at ct ⟨leA, trivial⟩ ?_ | refine ai.at ct ⟨leA, trivial⟩ ?_); clear ct)
     refine rn1 @ae.o.eq_1 ?_
     (have ct := ja c hc; (first | refine ak.at ct ⟨leA, trivial⟩ ?_ | refine ai.at ct ⟨leA, trivial⟩ ?_); clear ct)
     rw [hb]
     refine rn0 ?_
     (first | refine ak.at (hV) ⟨leA, trivial⟩ ?_ | refine ai.at (hV) ⟨leA, trivial⟩ ?_)
     refine rn2 @aq.v.eq_1 @hf' ?_
     refine aj.pick [2, 3] (by decide) (fun j hj => by omega) (.inl ?_) ?_
     · first | rfl | (simp [ren, bb, posOf, ah.o]; done)
     · simp only [az, List.map_cons, List.map_nil, bg, List.getElem?_cons_zero, List.getElem?_cons_succ, ab]
   · have hf' : (c.Log.Count == 60) = false := by simpa using hf
     rw [show dd c line = (⟨(fy c.ae line).1, ahz c.Log ⟨line, py (fy c.ae line).2⟩⟩, py (fy c.ae line).2) by rw [dd, if_neg (by simp [hb]), if_neg (by simp [hr]), if_neg hf]]
     rw [ak5]
     have hcap : py (fy c.ae line).2 = if 200 < ((fy c.ae line).2.size : Int) then ahg else (fy c.ae line).2 := rfl
     have hcs : (py (fy c.ae line).2).size ≤ 200 := by
      rw [hcap]; split
      · decide
      · omega
     obtain ⟨z, hz⟩ := anl c.Log ⟨line, py (fy c.ae line).2⟩
     have iA := abw c.Log ⟨line, py (fy c.ae line).2⟩ f2 f3 (by dsimp only; omega) (by dsimp only; omega)
     rw [hz] at iA
     cases hs : aa9 c.ae line with
     | none =>
      have hP := am2 c line (by omega) hw hs
      rw [Option.getD_none]
      refine Ctr.intro Tryz.mixed Tryz.func8 rfl Tryz.aqs ?_
      refine ev2 @Tryz.ntmps8 @Tryz.results8 ?_
      refine rn1 @ah.v.eq_1 ?_
      (have ct := du c.ae (by omega) (by omega); (first | refine ak.at ct ⟨leA, trivial⟩ ?_ | refine ai.at ct ⟨leA, trivial⟩ ?_); clear ct)
      refine rn1 @ae.o.eq_1 ?_
      (have ct := ja c hc; (first | refine ak.at ct ⟨leA, trivial⟩ ?_ | refine ai.at ct ⟨leA, trivial⟩ ?_); clear ct)
      rw [hb]
      refine rn0 ?_
      (first | refine ak.at (hV) ⟨leA, trivial⟩ ?_ | refine ai.at (hV) ⟨leA, trivial⟩ ?_)
      refine rn2 @aq.v.eq_1 @hf' ?_
      refine ai.dp [4, 2, 3] false hP (by decide) ⟨leO, leO, trivial⟩ (by simp [az, bg, ren, bb, posOf, ab, ah.oc]) ⟨⟨rfl, rfl⟩, ⟨rfl, rfl⟩, ⟨rfl, rfl⟩, trivial⟩ (.inl rfl) ?_
      refine rn1 @ah.oc.eq_1 ?_
      refine aw.split (fun hg => ?_) (fun hg => ?_)
      · have e : py (fy c.ae line).2 = ahg := by rw [hcap, if_pos (of_decide_eq_true hg)]
        rw [e] at iA hz ⊢
        refine rn1 @hg ?_
        (first | refine ak.at (iA) ⟨leA, leA, trivial⟩ ?_ | refine ai.at (iA) ⟨leA, leA, trivial⟩ ?_)
        refine rn1 @Log.v.eq_1 ?_
        refine aj.pick [2, 3] (by decide) (fun j hj => by omega) (.inl ?_) ?_
        · first | rfl | (simp [ren, bb, posOf, ah.o]; done)
        · simp only [az, List.map_cons, List.map_nil, bg, List.getElem?_cons_zero, List.getElem?_cons_succ, ab]
      · have e : py (fy c.ae line).2 = (fy c.ae line).2 := by rw [hcap, if_neg (of_decide_eq_false hg)]
        rw [e] at iA hz ⊢
        refine rn1 @hg ?_
        (first | refine ak.at (iA) ⟨leA, leA, trivial⟩ ?_ | refine ai.at (iA) ⟨leA, leA, trivial⟩ ?_)
        refine rn1 @Log.v.eq_1 ?_
        refine aj.pick [2, 3] (by decide) (fun j hj => by omega) (.inl ?_) ?_
        · first | rfl | (simp [ren, bb, posOf, ah.o]; done)
        · simp only [az, List.map_cons, List.map_nil, bg, List.getElem?_cons_zero, List.getElem?_cons_succ, ab]
     | some b =>
      have hP := aj0 c b line (by omega) hw hs
      rw [Option.getD_some]
      refine Ctr.intro Tryz.mixed Tryz.func8 rfl Tryz.aqs ?_
      refine ev2 @Tryz.ntmps8 @Tryz.results8 ?_
      refine rn1 @ah.v.eq_1 ?_
      (have ct := du c.ae (by omega) (by omega); (first | refine ak.at ct ⟨leA, trivial⟩ ?_ | refine ai.at ct ⟨leA, trivial⟩ ?_); clear ct)
      refine rn1 @ae.o.eq_1 ?_
      (have ct := ja c hc; (first | refine ak.at ct ⟨leA, trivial⟩ ?_ | refine ai.at ct ⟨leA, trivial⟩ ?_); clear ct)
      rw [hb]
      refine rn0 ?_
      (first | refine ak.at (hV) ⟨leA, trivial⟩ ?_ | refine ai.at (hV) ⟨leA, trivial⟩ ?_)
      refine rn2 @aq.v.eq_1 @hf' ?_
      refine ai.dp [4, 2, 3] false hP (by decide) ⟨leO, leO, trivial⟩ (by simp [az, bg, ren, bb, posOf, ab, ah.oc]) ⟨⟨rfl, rfl⟩, ⟨rfl, rfl⟩, ⟨rfl, rfl⟩, trivial⟩ (.inl rfl) ?_
      refine rn3 @ah.oc.eq_1 @cW.eq_1 @List.getElem?_nil.{0} ?_
      refine aw.split (fun hg => ?_) (fun hg => ?_)
      · have e : py (fy c.ae line).2 = ahg := by rw [hcap, if_pos (of_decide_eq_true hg)]
        rw [e] at iA hz ⊢
        refine rn2 @hg @List.getElem?_nil.{0} ?_
        (first | refine ak.at (iA) ⟨leA, leA, trivial⟩ ?_ | refine ai.at (iA) ⟨leA, leA, trivial⟩ ?_)
        refine rn2 @Log.v.eq_1 @List.getElem?_nil.{0} ?_
        refine aj.pick [5, 6] (by decide) (fun j hj => by omega) (.inl ?_) ?_
        · first | rfl | (simp [ren, bb, posOf, ah.o]; done)
        · simp only [az, List.map_cons, List.map_nil, bg, List.getElem?_cons_zero, List.getElem?_cons_succ, ab]
      · have e : py (fy c.ae line).2 = (fy c.ae line).2 := by rw [hcap, if_neg (of_decide_eq_false hg)]
        rw [e] at iA hz ⊢
        refine rn2 @hg @List.getElem?_nil.{0} ?_
        (first | refine ak.at (iA) ⟨leA, leA, trivial⟩ ?_ | refine ai.at (iA) ⟨leA, leA, trivial⟩ ?_)
        refine rn2 @Log.v.eq_1 @List.getElem?_nil.{0} ?_
        refine aj.pick [5, 6] (by decide) (fun j hj => by omega) (.inl ?_) ?_
        · first | rfl | (simp [ren, bb, posOf, ah.o]; done)
        · simp only [az, List.map_cons, List.map_nil, bg, List.getElem?_cons_zero, List.getElem?_cons_succ, ab]
end Go.Proofs
end
section
set_option maxRecDepth 100000
set_option maxHeartbeats 4000000
namespace Go.Proofs
open Go.Lv
def W00 : ae := ⟨0, [], [], 0, 0⟩
theorem a3v (o : Option ae) : aj 0 (ado o) (aet o) (.tup [(o.getD W00).v, .bool o.isSome]) [] := by
 cases o with
 | none =>
  intro w0 m0 h0 av0 W m val e1 e2 hlt hle H hx hi
  refine ⟨m, H, ?_, hi⟩
  change RV W m [] _ true val (.tup [.agg [.int .i64 0, .nilsl, .nilsl, .int .i64 0, .int .i64 0], .bool false]) at hx
  cases hx with
  | tup a vs ha hra =>
   refine .tup _ _ ha (fun i hi => ?_)
   match i, hi with
   | 0, _ => exact (hra 0 (by simp)).le (LeV.agg ⟨LeE.refl _, LeE.nil, LeE.nil, LeE.refl _, LeE.refl _, trivial⟩)
   | 1, _ => exact hra 1 (by simp)
 | some b =>
  refine aj.pick [] (by decide) (fun j hj => by omega) (.inl ?_) rfl
  have e1 := db (cs := bc.cs) b.Posts
  have e2 := db (cs := al.cs) b.Shocks
  simp [ado, aet, ae.o, ae.v, ren, bb, posOf, ma, ab] at e1 e2 ⊢
  exact ⟨e1.symm, e2.symm⟩
theorem apw (w : ae) (k n v : Int) (hp : w.Posts.length ≤ 16777216) (hs : w.Shocks.length ≤ 16777216) (hv : v ≤ 9223372036854775807) : Ctr Tryz.prog 101 [w.v, .agg [.int .i64 k, .int .i64 n, .int .i64 v]] [] (.tup [((fi w k n v).getD W00).v, .bool (fi w k n v).isSome]) [] :=
 (tb w k n v hp hs hv).se (a3v _)
theorem ajb (s : ByteArray) (hs : s.size ≤ 281474976710656) : Ctr Tryz.prog 80 [.str s] [] (j7 s) [] := by
 have h := ap1 s hs
 rw [j7] at h ⊢
 refine Ctr.intro Tryz.mixed Tryz.func80 rfl Tryz.a69 ?_
 refine ev2 @Tryz.ntmps80 @Tryz.results80 ?_
 (first | refine ak.at (h) ⟨leA, trivial⟩ ?_ | refine ai.at (h) ⟨leA, trivial⟩ ?_)
 refine rn0 ?_
 exact aj.au rfl (by rfl)
theorem rv (L : List Int) (b : Bool) (hL : ∀ n ∈ L, bu n ∧ -9223372036854775807 ≤ n) (hl : L.length ≤ 100000) : Ctr Tryz.prog 125 [IntS.sl L, .bool b] [] (.str (if b then lx L else wQ)) [] := by
 cases b with
 | false =>
  refine Ctr.intro Tryz.mixed Tryz.func125 rfl Tryz.amp ?_
  refine ev2 @Tryz.ntmps125 @Tryz.results125 ?_
  refine rn0 ?_
  exact aj.au rfl (by rfl)
 | true =>
  by_cases he : L = []
  · have c0 : ((L.length : Int) == 0) = true := by rw [he]; rfl
    refine Ctr.intro Tryz.mixed Tryz.func125 rfl Tryz.amp ?_
    refine ev2 @Tryz.ntmps125 @Tryz.results125 ?_
    refine rn1 @c0 ?_
    exact aj.au (by rw [lx, if_pos he]; rfl) (by rfl)
  have hpos : 0 < L.length := List.length_pos_iff.2 he
  have c0 : ((L.length : Int) == 0) = false := by simp; omega
  have hr0 : (rows IntS.cs L).take 1 = [.int .i64 L[0]] := by
   have := bw IntS.csl hpos
   rw [Nat.zero_mul, List.drop_zero] at this
   exact this
  have hsz := fun i => yw (L.take i) (fun n hn => (hL n (List.mem_of_mem_take hn)).1)
  refine Ctr.intro Tryz.mixed Tryz.func125 rfl Tryz.amp ?_
  refine ev2 @Tryz.ntmps125 @Tryz.results125 ?_
  refine rn2 @c0 @hr0 ?_
  (first | refine ak.at (fp L[0] (hL _ (List.getElem_mem hpos)).2 (hL _ (List.getElem_mem hpos)).1.2) ⟨leA, trivial⟩ ?_ | refine ai.at (fp L[0] (hL _ (List.getElem_mem hpos)).2 (hL _ (List.getElem_mem hpos)).1.2) ⟨leA, trivial⟩ ?_)
  refine rn0 ?_
  refine dn.intro (fun i : Nat => 1 ≤ i ∧ i ≤ L.length) (fun i => ⟨(IntS.sl L :: (un 4 (.str (n7 (L.take i)) :: .int .i64 i :: (un 24 [])))), [], 0⟩) (fun i => L.length - i) 1 ⟨Nat.le_refl _, hpos⟩ ?_ (fun i hi => ?_)
  · refine bo.cut (0) (by simp) (by simp) ?_ ?_
    · have e1 : n7 (L.take 1) = num L[0] := by rw [List.take_succ_eq_append_getElem hpos]; rfl
      rw [e1]
      simp [LeC, LeV, ren, bh]
    · rfl
  refine ev0 ?_
  refine aw.split (fun h1 => ?_) (fun h1 => ?_)
  · have hi' : i < L.length := by have := of_decide_eq_true h1; omega
    have hr := bw IntS.csl hi'
    have hs1 := hsz i
    rw [List.length_take] at hs1
    have hst : n7 (L.take (i + 1)) = n7 (L.take i) ++ ⟨#[32]⟩ ++ num L[i] := by
     rw [List.take_succ_eq_append_getElem hi']
     exact ad1 _ _ (fun e => by have := congrArg List.length e; rw [List.length_take, List.length_nil] at this; omega)
    have hnz := aar (hL _ (List.getElem_mem hi')).1
    refine rn3 @h1 @hr @IntS.cs.eq_1 ?_
    have hz32 : (#[32] : Array UInt8).size = 1 := rfl
    refine ⟨by omega, ⟨by omega, by omega⟩, ?_⟩
    (first | refine ak.at (fp L[i] (hL _ (List.getElem_mem hi')).2 (hL _ (List.getElem_mem hi')).1.2) ⟨leA, trivial⟩ ?_ | refine ai.at (fp L[i] (hL _ (List.getElem_mem hi')).2 (hL _ (List.getElem_mem hi')).1.2) ⟨leA, trivial⟩ ?_)
    (repeat ((repeat1' (first | simp -implicitDefEqProofs -dsimp only [go_sem, ByteArray.size_append, cg] | simp -dsimp (disch := omega) only [wrap_i64])); repeat (with_reducible refine df ?_)))
    refine ⟨i + 1, ⟨by omega, hi'⟩, ?_, by omega⟩
    refine bo.cut (0) (by simp) (by simp) ?_ ?_
    · rw [hst]
      simp [LeC, LeV, ren, bh]
    · rfl
  · have hi' : i = L.length := by have := of_decide_eq_false h1; omega
    subst hi'
    refine rn2 @h1 @List.take_length.{0} ?_
    exact aj.au (by rw [lx, if_neg he]) (by rfl)
theorem acr (w : ae) (n : Int) (hw : wB w = true) : Ctr Tryz.prog 123 [w.v, .int .i64 n] [] (.str ((aas w n).getD wQ)) [] := by
 have W := ew hw
 have pl := W.plen
 have sl := W.slen
 have hT := af0 w n (by omega) (by omega)
 rw [ab8 hw] at hT
 refine Ctr.intro Tryz.mixed Tryz.func123 rfl Tryz.a04 ?_
 refine ev2 @Tryz.ntmps123 @Tryz.results123 ?_
 refine rn1 @ae.v.eq_1 ?_
 (first | refine ak.at (hT) ⟨leA, leA, trivial⟩ ?_ | refine ai.at (hT) ⟨leA, leA, trivial⟩ ?_)
 refine rn0 ?_
 cases hA : aas w n with
 | none =>
  refine rn0 ?_
  exact aj.au rfl (by rfl)
 | some y =>
  refine rn0 ?_
  exact aj.au rfl (by rfl)
theorem ajs (w : ae) (hw : wB w = true) : Ctr Tryz.prog 122 [w.v] [] (.str (lx (ups w))) [] := by
 have W := ew hw
 have pl := W.plen
 have sl := W.slen
 have hU := ald w (by omega) (by omega)
 rw [asq hw] at hU
 simp only [yy, r5] at hU
 have u := awg hw
 have hL := rv (ups w) true (fun n hn => ⟨(u.1 n hn).1, by have := (u.1 n hn).2; omega⟩) (by omega)
 refine Ctr.intro Tryz.mixed Tryz.func122 rfl Tryz.ayt ?_
 refine ev2 @Tryz.ntmps122 @Tryz.results122 ?_
 refine rn1 @ae.v.eq_1 ?_
 (first | refine ak.at (hU) ⟨leA, trivial⟩ ?_ | refine ai.at (hU) ⟨leA, trivial⟩ ?_)
 refine rn0 ?_
 (first | refine ak.at (hL) ⟨leA, leA, trivial⟩ ?_ | refine ai.at (hL) ⟨leA, leA, trivial⟩ ?_)
 refine rn0 ?_
 exact aj.au rfl (by rfl)
theorem aml {w : ae} {k n v : Int} (h : fi w k n v = none) : lp w k n v = (w, wQ) := by rw [lp, h]
theorem aly {w b : ae} {k n v : Int} (h : fi w k n v = some b) : lp w k n v = (b, (j1 b k n).getD wQ) := by rw [lp, h]
theorem ko (c : ah) (k n v : Int) (hw : wB c.ae = true) (hv : v ≤ 999999) : Ctr Tryz.prog 81 [c.v, .agg [.int .i64 k, .int .i64 n, .int .i64 v]] [] (.tup [(cW c (lp c.ae k n v).1).v, .str (lp c.ae k n v).2]) [] := by
 have W := ew hw
 have pl := W.plen
 have sl := W.slen
 have hS := apw c.ae k n v (by omega) (by omega) (by omega)
 cases hs : fi c.ae k n v with
 | none =>
  rw [hs, Option.getD_none] at hS
  rw [aml hs]
  refine Ctr.intro Tryz.mixed Tryz.func81 rfl Tryz.aap ?_
  refine ev2 @Tryz.ntmps81 @Tryz.results81 ?_
  refine rn2 @ah.v.eq_1 @ah.cs.eq_1 ?_
  (first | refine ak.at (hS) ⟨leA, leA, trivial⟩ ?_ | refine ai.at (hS) ⟨leA, leA, trivial⟩ ?_)
  refine rn1 @ae.v.eq_1 ?_
  exact aj.au rfl (by rfl)
 | some b =>
  rw [hs, Option.getD_some] at hS
  rw [aly hs]
  obtain ⟨_, hst, _, _, hb⟩ := yt hs
  have B := ew hb
  have bl := B.plen
  have bs := B.slen
  have bn := B.now
  have bx := B.next
  have ba := B.arch
  have hU := ajs b hb
  rcases qk hst with ⟨rfl, h1⟩ | hk | rfl | rfl | ⟨hk, h1⟩
  · have e : j1 b 1 n = some (num b.Now) := rfl
    rw [e]
    refine Ctr.intro Tryz.mixed Tryz.func81 rfl Tryz.aap ?_
    refine ev2 @Tryz.ntmps81 @Tryz.results81 ?_
    refine rn2 @ah.v.eq_1 @ah.cs.eq_1 ?_
    (first | refine ak.at (hS) ⟨leA, leA, trivial⟩ ?_ | refine ai.at (hS) ⟨leA, leA, trivial⟩ ?_)
    refine rn1 @ae.v.eq_1 ?_
    (have ct := fp b.Now (by omega) (by omega); (first | refine ak.at ct ⟨leA, trivial⟩ ?_ | refine ai.at ct ⟨leA, trivial⟩ ?_); clear ct)
    refine rn0 ?_
    exact aj.au rfl (by rfl)
  · have e : j1 b k n = some (lx (ups b)) := by rcases hk with rfl | rfl <;> rfl
    rw [e]
    rcases hk with rfl | rfl
    · skip
      refine Ctr.intro Tryz.mixed Tryz.func81 rfl Tryz.aap ?_
      refine ev2 @Tryz.ntmps81 @Tryz.results81 ?_
      refine rn2 @ah.v.eq_1 @ah.cs.eq_1 ?_
      (first | refine ak.at (hS) ⟨leA, leA, trivial⟩ ?_ | refine ai.at (hS) ⟨leA, leA, trivial⟩ ?_)
      refine rn1 @ae.v.eq_1 ?_
      (first | refine ak.at (hU) ⟨leA, trivial⟩ ?_ | refine ai.at (hU) ⟨leA, trivial⟩ ?_)
      refine rn0 ?_
      exact aj.au rfl (by rfl)
    · skip
      refine Ctr.intro Tryz.mixed Tryz.func81 rfl Tryz.aap ?_
      refine ev2 @Tryz.ntmps81 @Tryz.results81 ?_
      refine rn2 @ah.v.eq_1 @ah.cs.eq_1 ?_
      (first | refine ak.at (hS) ⟨leA, leA, trivial⟩ ?_ | refine ai.at (hS) ⟨leA, leA, trivial⟩ ?_)
      refine rn1 @ae.v.eq_1 ?_
      (first | refine ak.at (hU) ⟨leA, trivial⟩ ?_ | refine ai.at (hU) ⟨leA, trivial⟩ ?_)
      refine rn0 ?_
      exact aj.au rfl (by rfl)
  · have e : j1 b 4 n = some (num (b.Next - 1)) := rfl
    rw [e]
    refine Ctr.intro Tryz.mixed Tryz.func81 rfl Tryz.aap ?_
    refine ev2 @Tryz.ntmps81 @Tryz.results81 ?_
    refine rn2 @ah.v.eq_1 @ah.cs.eq_1 ?_
    (first | refine ak.at (hS) ⟨leA, leA, trivial⟩ ?_ | refine ai.at (hS) ⟨leA, leA, trivial⟩ ?_)
    refine rn1 @ae.v.eq_1 ?_
    (have ct := fp (b.Next - 1) (by omega) (by omega); (first | refine ak.at ct ⟨leA, trivial⟩ ?_ | refine ai.at ct ⟨leA, trivial⟩ ?_); clear ct)
    refine rn0 ?_
    exact aj.au rfl (by rfl)
  · have e : j1 b 8 n = some (num b.Archived) := rfl
    rw [e]
    refine Ctr.intro Tryz.mixed Tryz.func81 rfl Tryz.aap ?_
    refine ev2 @Tryz.ntmps81 @Tryz.results81 ?_
    refine rn2 @ah.v.eq_1 @ah.cs.eq_1 ?_
    (first | refine ak.at (hS) ⟨leA, leA, trivial⟩ ?_ | refine ai.at (hS) ⟨leA, leA, trivial⟩ ?_)
    refine rn1 @ae.v.eq_1 ?_
    (have ct := fp b.Archived (by omega) (by omega); (first | refine ak.at ct ⟨leA, trivial⟩ ?_ | refine ai.at ct ⟨leA, trivial⟩ ?_); clear ct)
    refine rn0 ?_
    exact aj.au rfl (by rfl)
  · have hT := acr b n hb
    have e : j1 b k n = aas b n := by rcases hk with rfl | rfl | rfl <;> rfl
    rw [e]
    rcases hk with rfl | rfl | rfl
    · skip
      refine Ctr.intro Tryz.mixed Tryz.func81 rfl Tryz.aap ?_
      refine ev2 @Tryz.ntmps81 @Tryz.results81 ?_
      refine rn2 @ah.v.eq_1 @ah.cs.eq_1 ?_
      (first | refine ak.at (hS) ⟨leA, leA, trivial⟩ ?_ | refine ai.at (hS) ⟨leA, leA, trivial⟩ ?_)
      refine rn1 @ae.v.eq_1 ?_
      (first | refine ak.at (hT) ⟨leA, leA, trivial⟩ ?_ | refine ai.at (hT) ⟨leA, leA, trivial⟩ ?_)
      refine rn0 ?_
      exact aj.au rfl (by rfl)
    · skip
      refine Ctr.intro Tryz.mixed Tryz.func81 rfl Tryz.aap ?_
      refine ev2 @Tryz.ntmps81 @Tryz.results81 ?_
      refine rn2 @ah.v.eq_1 @ah.cs.eq_1 ?_
      (first | refine ak.at (hS) ⟨leA, leA, trivial⟩ ?_ | refine ai.at (hS) ⟨leA, leA, trivial⟩ ?_)
      refine rn1 @ae.v.eq_1 ?_
      (first | refine ak.at (hT) ⟨leA, leA, trivial⟩ ?_ | refine ai.at (hT) ⟨leA, leA, trivial⟩ ?_)
      refine rn0 ?_
      exact aj.au rfl (by rfl)
    · skip
      refine Ctr.intro Tryz.mixed Tryz.func81 rfl Tryz.aap ?_
      refine ev2 @Tryz.ntmps81 @Tryz.results81 ?_
      refine rn2 @ah.v.eq_1 @ah.cs.eq_1 ?_
      (first | refine ak.at (hS) ⟨leA, leA, trivial⟩ ?_ | refine ai.at (hS) ⟨leA, leA, trivial⟩ ?_)
      refine rn1 @ae.v.eq_1 ?_
      (first | refine ak.at (hT) ⟨leA, leA, trivial⟩ ?_ | refine ai.at (hT) ⟨leA, leA, trivial⟩ ?_)
      refine rn0 ?_
      exact aj.au rfl (by rfl)
theorem al7 (w : ae) (h : ByteArray) (hw : wB w = true) : Ctr Tryz.prog 82 [w.v, .str h] [] (.str ((w3 w (kwd h)).getD wQ)) [] := by
 have W := ew hw
 have pl := W.plen
 have sl := W.slen
 have bn := W.now
 have iU := ajs w hw
 have iT := aie w (by omega) (by omega)
 have iS := ac6 w (by omega) (by omega)
 have iL := ac8 w (by omega) (by omega)
 rw [ad3 hw] at iT
 rw [adq hw] at iS
 rw [aj1 hw] at iL
 simp only [yy, r5] at iT iS
 have r := awm hw
 have s := axh hw
 have l := lg_r hw
 have lT := rv ((o5 w).map al.Number) true (fun n hn => ⟨(r.1 n hn).1, by have := (r.1 n hn).2; omega⟩) (by omega)
 have lS := rv (cy w.Shocks) true (fun n hn => ⟨(s.1 n hn).1, by have := (s.1 n hn).2; omega⟩) (by omega)
 have b10 := axw h
 have b11 := axc h
 have b12 := axp h
 have b13 := awx h
 have b14 := awo h
 generalize kwd h = q at *
 have hq : q = 10 ∨ q = 11 ∨ q = 12 ∨ q = 13 ∨ q = 14 ∨ (q ≠ 10 ∧ q ≠ 11 ∧ q ≠ 12 ∧ q ≠ 13 ∧ q ≠ 14) := by omega
 rcases hq with rfl | rfl | rfl | rfl | rfl | ⟨q1, q2, q3, q4, q5⟩
 · skip
   refine Ctr.intro Tryz.mixed Tryz.func82 rfl Tryz.aeo ?_
   refine ev2 @Tryz.ntmps82 @Tryz.results82 ?_
   refine rn6 @ae.v.eq_1 @b10 @b11 @b12 @b13 @b14 ?_
   (have ct := fp w.Now (by omega) (by omega); (first | refine ak.at ct ⟨leA, trivial⟩ ?_ | refine ai.at ct ⟨leA, trivial⟩ ?_); clear ct)
   refine rn0 ?_
   exact aj.au rfl (by rfl)
 · skip
   refine Ctr.intro Tryz.mixed Tryz.func82 rfl Tryz.aeo ?_
   refine ev2 @Tryz.ntmps82 @Tryz.results82 ?_
   refine rn6 @ae.v.eq_1 @b10 @b11 @b12 @b13 @b14 ?_
   (first | refine ak.at (iU) ⟨leA, trivial⟩ ?_ | refine ai.at (iU) ⟨leA, trivial⟩ ?_)
   refine rn0 ?_
   exact aj.au rfl (by rfl)
 · skip
   refine Ctr.intro Tryz.mixed Tryz.func82 rfl Tryz.aeo ?_
   refine ev2 @Tryz.ntmps82 @Tryz.results82 ?_
   refine rn6 @ae.v.eq_1 @b10 @b11 @b12 @b13 @b14 ?_
   (first | refine ak.at (iT) ⟨leA, trivial⟩ ?_ | refine ai.at (iT) ⟨leA, trivial⟩ ?_)
   refine rn0 ?_
   (first | refine ak.at (lT) ⟨leA, leA, trivial⟩ ?_ | refine ai.at (lT) ⟨leA, leA, trivial⟩ ?_)
   refine rn0 ?_
   exact aj.au rfl (by rfl)
 · skip
   refine Ctr.intro Tryz.mixed Tryz.func82 rfl Tryz.aeo ?_
   refine ev2 @Tryz.ntmps82 @Tryz.results82 ?_
   refine rn6 @ae.v.eq_1 @b10 @b11 @b12 @b13 @b14 ?_
   (first | refine ak.at (iS) ⟨leA, trivial⟩ ?_ | refine ai.at (iS) ⟨leA, trivial⟩ ?_)
   refine rn0 ?_
   (first | refine ak.at (lS) ⟨leA, leA, trivial⟩ ?_ | refine ai.at (lS) ⟨leA, leA, trivial⟩ ?_)
   refine rn0 ?_
   exact aj.au rfl (by rfl)
 · have e : w3 w 14 = (lgO w).map fun p => lx [p.1, p.2] := rfl
   rw [e]
   have hr : ∀ a b : Int, rows IntS.cs [a, b] = [.int .i64 a, .int .i64 b] := fun a b => rfl
   cases hl : lgO w with
   | none =>
    rw [hl] at iL
    simp only [Option.map_none, Option.getD_none, Option.isSome_none] at iL
    have lL := rv [0, 0] false (fun n hn => by simp at hn; subst hn; exact ⟨⟨by decide, by decide⟩, by decide⟩) (by simp)
    refine Ctr.intro Tryz.mixed Tryz.func82 rfl Tryz.aeo ?_
    refine ev2 @Tryz.ntmps82 @Tryz.results82 ?_
    refine rn6 @ae.v.eq_1 @b10 @b11 @b12 @b13 @b14 ?_
    (first | refine ak.at (iL) ⟨leA, trivial⟩ ?_ | refine ai.at (iL) ⟨leA, trivial⟩ ?_)
    refine rn0 ?_
    (first | refine ak.at (lL) ⟨leA, leA, trivial⟩ ?_ | refine ai.at (lL) ⟨leA, leA, trivial⟩ ?_)
    refine rn0 ?_
    exact aj.au rfl (by rfl)
   | some p =>
    rw [hl] at iL l
    simp only [Option.map_some, Option.getD_some, Option.isSome_some] at iL l
    have lL := rv [p.1, p.2] true (fun n hn => by
     simp only [List.mem_cons, List.not_mem_nil, or_false] at hn
     rcases hn with rfl | rfl
     · exact ⟨⟨by omega, by omega⟩, by omega⟩
     · exact ⟨⟨by omega, by omega⟩, by omega⟩) (by simp)
    refine Ctr.intro Tryz.mixed Tryz.func82 rfl Tryz.aeo ?_
    refine ev2 @Tryz.ntmps82 @Tryz.results82 ?_
    refine rn6 @ae.v.eq_1 @b10 @b11 @b12 @b13 @b14 ?_
    (first | refine ak.at (iL) ⟨leA, trivial⟩ ?_ | refine ai.at (iL) ⟨leA, trivial⟩ ?_)
    refine rn0 ?_
    (first | refine ak.at (lL) ⟨leA, leA, trivial⟩ ?_ | refine ai.at (lL) ⟨leA, leA, trivial⟩ ?_)
    refine rn0 ?_
    exact aj.au rfl (by rfl)
 · have d0 : decide (q = 10) = false := decide_eq_false q1
   have d1 : decide (q = 11) = false := decide_eq_false q2
   have d2 : decide (q = 12) = false := decide_eq_false q3
   have d3 : decide (q = 13) = false := decide_eq_false q4
   have d4 : decide (q = 14) = false := decide_eq_false q5
   have e : w3 w q = none := by rw [w3, if_neg q1, if_neg q2, if_neg q3, if_neg q4, if_neg q5]
   rw [e]
   refine Ctr.intro Tryz.mixed Tryz.func82 rfl Tryz.aeo ?_
   refine ev2 @Tryz.ntmps82 @Tryz.results82 ?_
   refine rn11 @ae.v.eq_1 @b10 @b11 @b12 @b13 @b14 @d0 @d1 @d2 @d3 @d4 ?_
   exact aj.au rfl (by rfl)
theorem aqb (c : ah) (h : ByteArray) (n : Int) (hw : wB c.ae = true) (hn : -999999 ≤ n ∧ n ≤ 999999) : Ctr Tryz.prog 83 [c.v, .str h, .int .i64 n] [] (.tup [(cW c (mz c.ae (kwd h) [n]).1).v, .str (mz c.ae (kwd h) [n]).2]) [] := by
 have m1 := ko c 1 0 n hw hn.2
 have m2 := ko c 2 n 0 hw (by omega)
 have m3 := ko c 3 n 0 hw (by omega)
 have m5 := ko c 7 n 0 hw (by omega)
 have m6 := ko c 8 n 0 hw (by omega)
 have mT := acr c.ae n hw
 have b1 := kwb1 h
 have b3 := kwb3 h
 have b4 := kwb4 h
 have b5 := kwb5 h
 have b6 := kwb6 h
 have b9 := kwb9 h
 generalize kwd h = q at *
 have hq : q = 1 ∨ q = 3 ∨ q = 4 ∨ q = 5 ∨ q = 6 ∨ q = 9 ∨ (q ≠ 1 ∧ q ≠ 3 ∧ q ≠ 4 ∧ q ≠ 5 ∧ q ≠ 6 ∧ q ≠ 9) := by omega
 rcases hq with rfl | rfl | rfl | rfl | rfl | rfl | ⟨q1, q2, q3, q4, q5, q6⟩
 · rw [show mz c.ae 1 [n] = lp c.ae 1 0 n from rfl]
   refine Ctr.intro Tryz.mixed Tryz.func83 rfl Tryz.afc ?_
   refine ev2 @Tryz.ntmps83 @Tryz.results83 ?_
   refine rn7 @ah.v.eq_1 @b1 @b3 @b4 @b5 @b6 @b9 ?_
   (first | refine ak.at (m1) ⟨leA, leA, trivial⟩ ?_ | refine ai.at (m1) ⟨leA, leA, trivial⟩ ?_)
   refine rn1 @ah.v.eq_1 ?_
   exact aj.au rfl (by rfl)
 · rw [show mz c.ae 3 [n] = lp c.ae 2 n 0 from rfl]
   refine Ctr.intro Tryz.mixed Tryz.func83 rfl Tryz.afc ?_
   refine ev2 @Tryz.ntmps83 @Tryz.results83 ?_
   refine rn7 @ah.v.eq_1 @b1 @b3 @b4 @b5 @b6 @b9 ?_
   (first | refine ak.at (m2) ⟨leA, leA, trivial⟩ ?_ | refine ai.at (m2) ⟨leA, leA, trivial⟩ ?_)
   refine rn1 @ah.v.eq_1 ?_
   exact aj.au rfl (by rfl)
 · rw [show mz c.ae 4 [n] = lp c.ae 3 n 0 from rfl]
   refine Ctr.intro Tryz.mixed Tryz.func83 rfl Tryz.afc ?_
   refine ev2 @Tryz.ntmps83 @Tryz.results83 ?_
   refine rn7 @ah.v.eq_1 @b1 @b3 @b4 @b5 @b6 @b9 ?_
   (first | refine ak.at (m3) ⟨leA, leA, trivial⟩ ?_ | refine ai.at (m3) ⟨leA, leA, trivial⟩ ?_)
   refine rn1 @ah.v.eq_1 ?_
   exact aj.au rfl (by rfl)
 · rw [show mz c.ae 5 [n] = lp c.ae 7 n 0 from rfl]
   refine Ctr.intro Tryz.mixed Tryz.func83 rfl Tryz.afc ?_
   refine ev2 @Tryz.ntmps83 @Tryz.results83 ?_
   refine rn7 @ah.v.eq_1 @b1 @b3 @b4 @b5 @b6 @b9 ?_
   (first | refine ak.at (m5) ⟨leA, leA, trivial⟩ ?_ | refine ai.at (m5) ⟨leA, leA, trivial⟩ ?_)
   refine rn1 @ah.v.eq_1 ?_
   exact aj.au rfl (by rfl)
 · rw [show mz c.ae 6 [n] = lp c.ae 8 n 0 from rfl]
   refine Ctr.intro Tryz.mixed Tryz.func83 rfl Tryz.afc ?_
   refine ev2 @Tryz.ntmps83 @Tryz.results83 ?_
   refine rn7 @ah.v.eq_1 @b1 @b3 @b4 @b5 @b6 @b9 ?_
   (first | refine ak.at (m6) ⟨leA, leA, trivial⟩ ?_ | refine ai.at (m6) ⟨leA, leA, trivial⟩ ?_)
   refine rn1 @ah.v.eq_1 ?_
   exact aj.au rfl (by rfl)
 · rw [show mz c.ae 9 [n] = (c.ae, (aas c.ae n).getD wQ) from rfl]
   refine Ctr.intro Tryz.mixed Tryz.func83 rfl Tryz.afc ?_
   refine ev2 @Tryz.ntmps83 @Tryz.results83 ?_
   refine rn7 @ah.v.eq_1 @b1 @b3 @b4 @b5 @b6 @b9 ?_
   (first | refine ak.at (mT) ⟨leA, leA, trivial⟩ ?_ | refine ai.at (mT) ⟨leA, leA, trivial⟩ ?_)
   refine rn1 @ah.v.eq_1 ?_
   exact aj.au rfl (by rfl)
 · have d1 : decide (q = 1) = false := decide_eq_false q1
   have d2 : decide (q = 3) = false := decide_eq_false q2
   have d3 : decide (q = 4) = false := decide_eq_false q3
   have d4 : decide (q = 5) = false := decide_eq_false q4
   have d5 : decide (q = 6) = false := decide_eq_false q5
   have d6 : decide (q = 9) = false := decide_eq_false q6
   have e : jt q [n] = none := by simp only [jt]; rw [if_neg q1, if_neg q2, if_neg q3, if_neg q4, if_neg q5]
   rw [ajv e, if_neg q6]
   refine Ctr.intro Tryz.mixed Tryz.func83 rfl Tryz.afc ?_
   refine ev2 @Tryz.ntmps83 @Tryz.results83 ?_
   refine atq @ah.v.eq_1 @b1 @b3 @b4 @b5 @b6 @b9 @d1 @d2 @d3 @d4 @d5 @d6 ?_
   exact aj.au rfl (by rfl)
theorem ao3 (c : ah) (h : ByteArray) (n v : Int) (hw : wB c.ae = true) (hn : -999999 ≤ v ∧ v ≤ 999999) : Ctr Tryz.prog 84 [c.v, .str h, .int .i64 n, .int .i64 v] [] (.tup [(cW c (mz c.ae (kwd h) [n, v]).1).v, .str (mz c.ae (kwd h) [n, v]).2]) [] := by
 have m5 := ko c 5 n v hw hn.2
 have m6 := ko c 6 n v hw hn.2
 have b7 := kwb7 h
 have b8 := kwb8 h
 generalize kwd h = q at *
 have hq : q = 7 ∨ q = 8 ∨ (q ≠ 7 ∧ q ≠ 8) := by omega
 rcases hq with rfl | rfl | ⟨q1, q2⟩
 · rw [show mz c.ae 7 [n, v] = lp c.ae 5 n v from rfl]
   refine Ctr.intro Tryz.mixed Tryz.func84 rfl Tryz.arq ?_
   refine ev2 @Tryz.ntmps84 @Tryz.results84 ?_
   refine rn3 @ah.v.eq_1 @b7 @b8 ?_
   (first | refine ak.at (m5) ⟨leA, leA, trivial⟩ ?_ | refine ai.at (m5) ⟨leA, leA, trivial⟩ ?_)
   refine rn1 @ah.v.eq_1 ?_
   exact aj.au rfl (by rfl)
 · rw [show mz c.ae 8 [n, v] = lp c.ae 6 n v from rfl]
   refine Ctr.intro Tryz.mixed Tryz.func84 rfl Tryz.arq ?_
   refine ev2 @Tryz.ntmps84 @Tryz.results84 ?_
   refine rn3 @ah.v.eq_1 @b7 @b8 ?_
   (first | refine ak.at (m6) ⟨leA, leA, trivial⟩ ?_ | refine ai.at (m6) ⟨leA, leA, trivial⟩ ?_)
   refine rn1 @ah.v.eq_1 ?_
   exact aj.au rfl (by rfl)
 · have d1 : decide (q = 7) = false := decide_eq_false q1
   have d2 : decide (q = 8) = false := decide_eq_false q2
   have e : jt q [n, v] = none := by simp only [jt]; rw [if_neg q1, if_neg q2]
   rw [aeh e]
   refine Ctr.intro Tryz.mixed Tryz.func84 rfl Tryz.arq ?_
   refine ev2 @Tryz.ntmps84 @Tryz.results84 ?_
   refine rn5 @ah.v.eq_1 @b7 @b8 @d1 @d2 ?_
   exact aj.au rfl (by rfl)
end Go.Proofs
end
section
set_option maxRecDepth 100000
set_option maxHeartbeats 4000000
namespace Go.Proofs
open Go.Lv
theorem avh {w b : ae} {line : ByteArray} (h : aa9 w line = some b) : wB b = true := by
 unfold aa9 at h
 split at h
 · cases h
 · split at h
   · exact (yt h).2.2.2.2
   · cases h
theorem ain {w : ae} {line : ByteArray} (h : wB w = true) : wB (fy w line).1 = true := by
 rw [ak5]
 cases hs : aa9 w line with
 | none => exact h
 | some b => exact avh hs
def aal : List V := [.int .i64 0, .nilsl, .nilsl, .int .i64 0, .int .i64 0, .str ByteArray.empty, .str ByteArray.empty, .int .i64 0]
theorem apj (c : ah) (line : ByteArray) (hl : line.size ≤ 1000) (hw : wB c.ae = true) : Ctr Tryz.prog 40 [c.v, .str line] [] (.tup [(cW c (fy c.ae line).1).v, .str (fy c.ae line).2]) [] := by
 have W := ew hw
 have pl := W.plen
 have sl := W.slen
 obtain ⟨x, T, hS⟩ := aby 32 line
 have hT : (jv 32 line).tail = T := by rw [hS]; rfl
 have hx : (jv 32 line).headD ⟨#[]⟩ = x := by rw [hS]; rfl
 have hsp := acp line 32 (by omega)
 rw [show (((32 : UInt8).toNat : Nat) : Int) = 32 from rfl] at hsp
 have hlen := aa8 32 line
 have hsz : ∀ y ∈ x :: T, y.size ≤ line.size := fun y hy => xy 32 line (by rw [hS]; exact hy)
 rw [hS] at hsp hlen
 simp only [List.length_cons] at hlen
 have hr0 : (rows StringS.cs (x :: T)).take 1 = [.str x] := rfl
 refine Ctr.intro Tryz.mixed Tryz.func40 rfl Tryz.a6e ?_
 refine ev2 @Tryz.ntmps40 @Tryz.results40 ?_
 refine rn1 @ah.v.eq_1 ?_
 (first | refine ak.at (hsp) ⟨leA, leA, trivial⟩ ?_ | refine ai.at (hsp) ⟨leA, leA, trivial⟩ ?_)
 refine rn0 ?_
 refine dn.intro (fun i : Nat => i ≤ T.length ∧ (T.take i).all (fun s => (dc s).isSome) = true) (fun i => ⟨(.undef :: .str line :: .ptr 0 0 :: .undef :: .ptr 1 0 :: .undef :: StringS.sl (x :: T) :: .osl 2 0 i 1 :: .int .i64 ((i : Int) + 1) :: (un 70 [])), [some c.cs, some aal, some (rows IntS.cs ((T.take i).map fun s => (dc s).getD 0))], 0⟩) (fun i => T.length - i) 0 ⟨Nat.zero_le _, rfl⟩ ?_ (fun i hi => ?_)
 · refine bo.cut (3) (by simp) (by simp) ?_ ?_
   · simp [LeC, LeV, ren, bh]
   · simp [cb, ck, ren, bh, ab, ah.cs, aal, aab]
 refine ev0 ?_
 have hll : (((x :: T).length : Nat) : Int) = (T.length : Int) + 1 := by rw [List.length_cons]; omega
 refine aw.split (fun h1 => ?_) (fun h1 => ?_)
 · have hi' : i < T.length := by have := of_decide_eq_true h1; omega
   have hr := bw StringS.csl (L := x :: T) (i := i + 1) (by rw [List.length_cons]; omega)
   rw [List.getElem_cons_succ] at hr
   have hst : (T.take (i + 1)).map (fun s => (dc s).getD 0) = (T.take i).map (fun s => (dc s).getD 0) ++ [(dc T[i]).getD 0] := by rw [List.take_succ_eq_append_getElem hi', List.map_append]; rfl
   have hlen2 : ((T.take i).map fun s => (dc s).getD 0).length = i := by simp; omega
   have ip := ajb T[i] (by have := hsz T[i] (List.mem_cons_of_mem _ (List.getElem_mem hi')); omega)
   rw [j7] at ip
   have hti : ((i : Int) + 1).toNat = i + 1 := by omega
   refine rn4 @h1 @hti @hr @StringS.cs.eq_1 ?_
   cases hread : (dc T[i]).isSome with
   | false =>
    have hno := abp hi' hread
    have hrun : fy c.ae line = (c.ae, wQ) := by unfold fy; rw [hT, hno]
    rw [hread] at ip
    (first | refine ak.at (ip) ⟨leA, trivial⟩ ?_ | refine ai.at (ip) ⟨leA, trivial⟩ ?_)
    refine rn2 @ah.cs.eq_1 @aal.eq_1 ?_
    rw [hrun]
    exact aj.au rfl (by rfl)
   | true =>
    rw [hread] at ip
    (first | refine ak.at (ip) ⟨leA, trivial⟩ ?_ | refine ai.at (ip) ⟨leA, trivial⟩ ?_)
    refine rn4 @ay @bf @Nat.mul_one @hlen2 ?_
    refine ⟨i + 1, ⟨hi', by rw [List.take_succ_eq_append_getElem hi', List.all_append, hi.2]; simp [hread]⟩, ?_, by omega⟩
    refine bo.cut (3) (by simp) (by simp) ?_ ?_
    · simp [LeC, LeV, ren, bh]
    · rw [hst, ← dy]
      simp [cb, ck, ren, bh, ab, dj, k9, IntS.cs, ah.cs, aal]
 have hi' : i = T.length := by have := of_decide_eq_false h1; omega
 subst hi'
 have hnum := zb hi.2
 have hbd := ab2 hnum
 rw [List.take_length]
 have hnl : (T.map fun s => (dc s).getD 0).length = T.length := List.length_map _
 have hrun : fy c.ae line = mz c.ae (kwd x) (T.map fun s => (dc s).getD 0) := by unfold fy; rw [hT, hnum, hx]
 rw [hrun]
 have hxl : T = [] → x = line := fun e => aq7 (by rw [hS, e])
 clear hnum
 have hns : (T.map fun s => (dc s).getD 0).length ≤ 1000 := by omega
 have htn : T = [] ↔ (T.map fun s => (dc s).getD 0) = [] := by cases T <;> simp
 have h1' : decide ((T.length : Int) + 1 < ((T.length + 1 : Nat) : Int)) = false := decide_eq_false (by omega)
 refine rn2 @h1 @h1' ?_
 rw [← hnl]
 generalize (T.map fun s => (dc s).getD 0) = ns at *
 have z00 : (((0 : Nat) : Int) == 0) = true := rfl
 have z01 : (((0 : Nat) : Int) == 1) = false := rfl
 have z02 : (((0 : Nat) : Int) == 2) = false := rfl
 have z10 : (((1 : Nat) : Int) == 0) = false := rfl
 have z11 : (((1 : Nat) : Int) == 1) = true := rfl
 have z12 : (((1 : Nat) : Int) == 2) = false := rfl
 have z20 : (((2 : Nat) : Int) == 0) = false := rfl
 have z21 : (((2 : Nat) : Int) == 1) = false := rfl
 have z22 : (((2 : Nat) : Int) == 2) = true := rfl
 rcases ns with _ | ⟨n1, _ | ⟨n2, _ | ⟨n3, L⟩⟩⟩
 · have hx2 : x = line := hxl (htn.2 rfl)
   subst hx2
   have b2 := kwb2 x
   have m4 := ko c 4 0 0 hw (by omega)
   have mw := al7 c.ae x hw
   by_cases q2 : kwd x = 2
   · have d2 : decide (kwd x = 2) = true := decide_eq_true q2
     have e : mz c.ae (kwd x) [] = lp c.ae 4 0 0 := by rw [q2]; rfl
     rw [e]
     refine atq @b2 @d2 @ah.cs.eq_1 @aal.eq_1 @z00 @z01 @z02 @z10 @z11 @z12 @z20 @z21 @z22 ?_
     (first | refine ak.at (m4) ⟨leA, leA, trivial⟩ ?_ | refine ai.at (m4) ⟨leA, leA, trivial⟩ ?_)
     refine rn1 @ah.v.eq_1 ?_
     exact aj.au rfl (by rfl)
   · have d2 : decide (kwd x = 2) = false := decide_eq_false q2
     have e : jt (kwd x) [] = none := by simp only [jt]; rw [if_neg q2]
     rw [ajr e]
     refine atq @b2 @d2 @ah.cs.eq_1 @aal.eq_1 @z00 @z01 @z02 @z10 @z11 @z12 @z20 @z21 @z22 ?_
     (first | refine ak.at (mw) ⟨leA, leA, trivial⟩ ?_ | refine ai.at (mw) ⟨leA, leA, trivial⟩ ?_)
     refine rn1 @ah.v.eq_1 ?_
     exact aj.au rfl (by rfl)
 · have hn1 := hbd n1 (by simp)
   have hr3 : rows IntS.cs [n1] = [.int .i64 n1] := rfl
   have m1 := aqb c x n1 hw hn1
   refine atq @hr3 @hr0 @ah.cs.eq_1 @aal.eq_1 @z00 @z01 @z02 @z10 @z11 @z12 @z20 @z21 @z22 ?_
   (first | refine ak.at (m1) ⟨leA, leA, leA, trivial⟩ ?_ | refine ai.at (m1) ⟨leA, leA, leA, trivial⟩ ?_)
   refine rn1 @ah.v.eq_1 ?_
   exact aj.au rfl (by rfl)
 · have hn2 := hbd n2 (by simp)
   have hr3 : rows IntS.cs [n1, n2] = [.int .i64 n1, .int .i64 n2] := rfl
   have m2 := ao3 c x n1 n2 hw hn2
   refine atq @hr3 @hr0 @ah.cs.eq_1 @aal.eq_1 @z00 @z01 @z02 @z10 @z11 @z12 @z20 @z21 @z22 ?_
   (first | refine ak.at (m2) ⟨leA, leA, leA, leA, trivial⟩ ?_ | refine ai.at (m2) ⟨leA, leA, leA, leA, trivial⟩ ?_)
   refine rn1 @ah.v.eq_1 ?_
   exact aj.au rfl (by rfl)
 · have c1 : (((n1 :: n2 :: n3 :: L).length : Int) == 1) = false := by simp; omega
   have c2 : (((n1 :: n2 :: n3 :: L).length : Int) == 2) = false := by simp; omega
   have c0 : (((n1 :: n2 :: n3 :: L).length : Int) == 0) = false := by simp; omega
   have e : jt (kwd x) (n1 :: n2 :: n3 :: L) = none := rfl
   rw [aeh e]
   generalize n1 :: n2 :: n3 :: L = ns at *
   refine rn5 @c0 @c1 @c2 @ah.cs.eq_1 @aal.eq_1 ?_
   exact aj.au rfl (by rfl)
theorem a7l (c : ah) : aj 0 (c.ae.o 0 1) [some (rows bc.cs c.ae.Posts), some (rows al.cs c.ae.Shocks)] c.ae.v [] := by
 refine aj.pick [] (by decide) (fun j hj => by omega) (.inl ?_) rfl
 have e1 := db (cs := bc.cs) c.ae.Posts
 have e2 := db (cs := al.cs) c.ae.Shocks
 simp [ae.o, ae.v, ren, bb, posOf, ma, ab] at e1 e2 ⊢
 exact ⟨e1.symm, e2.symm⟩
theorem ag9 (c : ah) (hp : c.ae.Posts.length ≤ 16777216) (hs : c.ae.Shocks.length ≤ 16777216) : Ctr Tryz.prog 37 [c.v] [] c.v [] := by
 have h := (jz c.ae hp hs).se (a7l c)
 refine Ctr.intro Tryz.mixed Tryz.func37 rfl Tryz.a4f ?_
 refine ev2 @Tryz.ntmps37 @Tryz.results37 ?_
 refine rn1 @ah.v.eq_1 ?_
 (first | refine ak.at (h) ⟨leA, trivial⟩ ?_ | refine ai.at (h) ⟨leA, trivial⟩ ?_)
 refine rn1 @ae.v.eq_1 ?_
 exact aj.au rfl (by rfl)
theorem afm (c : ah) (line : ByteArray) (hc : c.fits) (hl : line.size ≤ 4194304) : Ctr Tryz.prog 9 [c.v, .str line] [] (.tup [(dd c line).1.v, .str (dd c line).2]) [] := by
 obtain ⟨f0, f1, f2, f3⟩ := hc
 have hc : c.fits := ⟨f0, f1, f2, f3⟩
 have he2 : (ByteArray.empty : ByteArray).size = 0 := rfl
 have hV := vb ⟨line, ByteArray.empty⟩ (by dsimp only; omega) (by dsimp only; omega)
 have hO := ag9 c (by omega) (by omega)
 have hG := afj c hc
 cases hb : ni c with
 | false =>
  rw [show dd c line = (c, wNo) by rw [dd, if_pos hb]]
  rw [hb] at hG
  refine Ctr.intro Tryz.mixed Tryz.func9 rfl Tryz.aum ?_
  refine ev2 @Tryz.ntmps9 @Tryz.results9 ?_
  refine rn1 @ah.v.eq_1 ?_
  (first | refine ak.at (hO) ⟨leA, trivial⟩ ?_ | refine ai.at (hO) ⟨leA, trivial⟩ ?_)
  refine rn1 @ah.v.eq_1 ?_
  (first | refine ak.at (hG) ⟨leA, trivial⟩ ?_ | refine ai.at (hG) ⟨leA, trivial⟩ ?_)
  refine rn0 ?_
  exact aj.au rfl (by rfl)
 | true =>
  rw [hb] at hG
  cases hr : ic ⟨line, ByteArray.empty⟩ with
  | false =>
   rw [show dd c line = (c, av5) by rw [dd, if_neg (by simp [hb]), if_pos hr]]
   rw [hr] at hV
   refine Ctr.intro Tryz.mixed Tryz.func9 rfl Tryz.aum ?_
   refine ev2 @Tryz.ntmps9 @Tryz.results9 ?_
   refine rn1 @ah.v.eq_1 ?_
   (first | refine ak.at (hO) ⟨leA, trivial⟩ ?_ | refine ai.at (hO) ⟨leA, trivial⟩ ?_)
   refine rn1 @ah.v.eq_1 ?_
   (first | refine ak.at (hG) ⟨leA, trivial⟩ ?_ | refine ai.at (hG) ⟨leA, trivial⟩ ?_)
   refine rn0 ?_
   (first | refine ak.at (hV) ⟨leA, trivial⟩ ?_ | refine ai.at (hV) ⟨leA, trivial⟩ ?_)
   refine rn1 @aq.v.eq_1 ?_
   exact aj.au rfl (by rfl)
  | true =>
   have hl2 := agd hr
   obtain ⟨hw, hlg⟩ := jy hb
   rw [hr] at hV
   by_cases hf : c.Log.Count = 60
   · have hf' : (c.Log.Count == 60) = true := by simpa using hf
     rw [show dd c line = (c, aof) by rw [dd, if_neg (by simp [hb]), if_neg (by simp [hr]), if_pos hf]]
     refine Ctr.intro Tryz.mixed Tryz.func9 rfl Tryz.aum ?_
     refine ev2 @Tryz.ntmps9 @Tryz.results9 ?_
     refine rn1 @ah.v.eq_1 ?_
     (first | refine ak.at (hO) ⟨leA, trivial⟩ ?_ | refine ai.at (hO) ⟨leA, trivial⟩ ?_)
     refine rn1 @ah.v.eq_1 ?_
     (first | refine ak.at (hG) ⟨leA, trivial⟩ ?_ | refine ai.at (hG) ⟨leA, trivial⟩ ?_)
     refine rn0 ?_
     (first | refine ak.at (hV) ⟨leA, trivial⟩ ?_ | refine ai.at (hV) ⟨leA, trivial⟩ ?_)
     refine rn2 @aq.v.eq_1 @hf' ?_
     exact aj.au rfl (by rfl)
   · have hf' : (c.Log.Count == 60) = false := by simpa using hf
     rw [show dd c line = (⟨(fy c.ae line).1, ahz c.Log ⟨line, py (fy c.ae line).2⟩⟩, py (fy c.ae line).2) by rw [dd, if_neg (by simp [hb]), if_neg (by simp [hr]), if_neg hf]]
     have hcap : py (fy c.ae line).2 = if 200 < ((fy c.ae line).2.size : Int) then ahg else (fy c.ae line).2 := rfl
     have hcs : (py (fy c.ae line).2).size ≤ 200 := by
      rw [hcap]; split
      · decide
      · omega
     obtain ⟨z, hz⟩ := anl c.Log ⟨line, py (fy c.ae line).2⟩
     have iA := ot c.Log ⟨line, py (fy c.ae line).2⟩ f2 f3 (by dsimp only; omega) (by dsimp only; omega)
     rw [hz] at iA
     have hR := apj c line (by omega) hw
     have hbl : (fy c.ae line).1.Posts.length ≤ 1048576 ∧ (fy c.ae line).1.Shocks.length ≤ 1048576 := by
      have h9 := ew (ain (line := line) hw)
      have := h9.plen
      have := h9.slen
      omega
     have hO2 := ag9 (cW c (fy c.ae line).1) (by have := hbl.1; show (fy c.ae line).1.Posts.length ≤ _; omega) (by have := hbl.2; show (fy c.ae line).1.Shocks.length ≤ _; omega)
     refine Ctr.intro Tryz.mixed Tryz.func9 rfl Tryz.aum ?_
     refine ev2 @Tryz.ntmps9 @Tryz.results9 ?_
     refine rn1 @ah.v.eq_1 ?_
     (first | refine ak.at (hO) ⟨leA, trivial⟩ ?_ | refine ai.at (hO) ⟨leA, trivial⟩ ?_)
     refine rn1 @ah.v.eq_1 ?_
     (first | refine ak.at (hG) ⟨leA, trivial⟩ ?_ | refine ai.at (hG) ⟨leA, trivial⟩ ?_)
     refine rn0 ?_
     (first | refine ak.at (hV) ⟨leA, trivial⟩ ?_ | refine ai.at (hV) ⟨leA, trivial⟩ ?_)
     refine rn2 @aq.v.eq_1 @hf' ?_
     (first | refine ak.at (hR) ⟨leA, leA, trivial⟩ ?_ | refine ai.at (hR) ⟨leA, leA, trivial⟩ ?_)
     refine rn1 @ah.v.eq_1 ?_
     (first | refine ak.at (hO2) ⟨leA, trivial⟩ ?_ | refine ai.at (hO2) ⟨leA, trivial⟩ ?_)
     refine rn1 @ah.v.eq_1 ?_
     refine aw.split (fun hg => ?_) (fun hg => ?_)
     · have e : py (fy c.ae line).2 = ahg := by rw [hcap, if_pos (of_decide_eq_true hg)]
       rw [e] at iA hz ⊢
       refine rn1 @hg ?_
       (first | refine ak.at (iA) ⟨leA, leA, trivial⟩ ?_ | refine ai.at (iA) ⟨leA, leA, trivial⟩ ?_)
       refine rn1 @Log.v.eq_1 ?_
       exact aj.au rfl (by rfl)
     · have e : py (fy c.ae line).2 = (fy c.ae line).2 := by rw [hcap, if_neg (of_decide_eq_false hg)]
       rw [e] at iA hz ⊢
       refine rn1 @hg ?_
       (first | refine ak.at (iA) ⟨leA, leA, trivial⟩ ?_ | refine ai.at (iA) ⟨leA, leA, trivial⟩ ?_)
       refine rn1 @Log.v.eq_1 ?_
       exact aj.au rfl (by rfl)
end Go.Proofs
end
section
set_option maxRecDepth 100000
set_option maxHeartbeats 4000000
namespace Go.Proofs
open Go.Lv
theorem frzC (c : ah) (r : ByteArray) : aj 0 (.tup [c.o 0 1, .str r]) [some (rows bc.cs c.ae.Posts), some (rows al.cs c.ae.Shocks)] (.tup [c.v, .str r]) [] := by
 refine aj.pick [] (by decide) (fun j hj => by omega) (.inl ?_) rfl
 have e1 := db (cs := bc.cs) c.ae.Posts
 have e2 := db (cs := al.cs) c.ae.Shocks
 simp [ah.o, ah.v, ren, bb, posOf, ma, ab] at e1 e2 ⊢
 exact ⟨e1.symm, e2.symm⟩
theorem ag8 (c : ah) (line : ByteArray) (hc : c.fits) (hl : line.size ≤ 4194304) : Ctr Tryz.prog 8 [c.v, .str line] [] (.tup [(dd c line).1.v, .str (dd c line).2]) [] :=
 (aqp c line hc hl).se (frzC _ _)
def ah.sz (c : ah) (n : Nat) : Prop := c.ae.Posts.length ≤ 1048576 ∧ c.ae.Shocks.length ≤ 1048576 ∧ c.Log.Durable.size ≤ 1048576 ∧ c.Log.Pending.size ≤ 1048576 + 500 * n
theorem ah.aij {c : ah} {n : Nat} (h : c.sz n) (hn : n ≤ 5000) : c.fits := by
 obtain ⟨h0, h1, h2, h3⟩ := h
 exact ⟨h0, h1, by omega, by omega⟩
theorem u4 {k : Int} {e : aq} (hk : 0 ≤ k ∧ k ≤ 59) (h : ic e = true) : (cf k e).size ≤ 500 := by
 have h1 := gr hk h
 have h2 := jb (di k e)
 rw [cf, ByteArray.size_append]
 have : (⟨#[10]⟩ : ByteArray).size = 1 := rfl
 omega
theorem apa (l : Log) (e : aq) : (ahz l e).Durable = l.Durable ∧ (ahz l e).Pending.size ≤ l.Pending.size + 500 := by
 unfold ahz
 split
 · rename_i h
   split
   · exact ⟨rfl, by omega⟩
   · rename_i h60
     have hc := kf h.1
     refine ⟨rfl, ?_⟩
     have := u4 (k := l.Count) (by omega) h.2
     rw [ByteArray.size_append]; omega
 · exact ⟨rfl, by omega⟩
theorem alh {c : ah} {line : ByteArray} {n : Nat} (h : c.sz n) : (dd c line).1.sz (n + 1) := by
 obtain ⟨h0, h1, h2, h3⟩ := h
 have hk : c.sz (n + 1) := ⟨h0, h1, h2, by omega⟩
 unfold dd
 split
 · exact hk
 · rename_i hb
   split
   · exact hk
   · split
     · exact hk
     · have W := ew (ain (line := line) (jy (c := c) (by simpa using hb)).1)
       have p := W.plen
       have s := W.slen
       obtain ⟨d, q⟩ := apa c.Log ⟨line, py (fy c.ae line).2⟩
       exact ⟨by dsimp only; omega, by dsimp only; omega, by dsimp only; rw [d]; exact h2, by dsimp only; omega⟩
end Go.Proofs
end
section
set_option maxRecDepth 100000
set_option maxHeartbeats 1000000
namespace Go.Proofs
open Go.Lv
theorem aqx {p : UInt8 → Bool} {s : ByteArray} (h : ec p s = true) {c : UInt8} (hc : p c = false) : noB c s = true :=
 tw h (fun b hb => by
  cases g : b == c with
  | false => rfl
  | true => rw [eq_of_beq g] at hb; rw [hb] at hc; cases hc)
theorem xw {c : UInt8} {a b : ByteArray} (h1 : noB c a = true) (h2 : noB c b = true) : noB c (a ++ b) = true := by
 unfold noB at *; rw [zn, h1, h2]; rfl
theorem an0 {s : ByteArray} (h : ec bp s = true) : noB 10 s = true := aqx h (by decide)
theorem arl {k : Int} {e : aq} (hk : 0 ≤ k ∧ k ≤ 59) (h : ic e = true) : noB 10 (ky (di k e)) = true := by
 obtain ⟨_, _, h3, h4, _⟩ := s4 h
 obtain ⟨u, rfl⟩ := Int.eq_ofNat_of_zero_le hk.1
 have hb := ah0 (di u e)
 obtain ⟨v, hv⟩ := Int.eq_ofNat_of_zero_le hb.1
 rw [ky, hv, di]
 refine xw (xw (xw (xw (xw (xw (adh 10 (by decide) (u + 1) u (by omega)) (by decide)) (an0 (tw h3 fun b hb => ?_))) (by decide)) (an0 h4)) (by decide)) (adh 10 (by decide) (v + 1) v (by omega))
 simp only [Bool.and_eq_true] at hb
 exact hb.1
theorem aok {k : Int} {e : aq} : (cf k e).size = (ky (di k e)).size + 1 := by rw [cf, ByteArray.size_append]; rfl
theorem ar0 {k : Int} {e : aq} (hk : 0 ≤ k ∧ k ≤ 59) (h : ic e = true) : iu k (cf k e) = some (e, (cf k e).size) := by
 have hc := rq (y := ⟨#[]⟩) (arl hk h)
 have e1 : ky (di k e) ++ ((⟨#[10]⟩ : ByteArray) ++ ⟨#[]⟩) = cf k e := by
  rw [cf]
  congr 1
 rw [e1] at hc
 unfold iu
 rw [if_pos hc.2.2.2, hc.2.1, mu.2 ⟨hk, h, rfl⟩, aok]
 rfl
theorem aee (t : ByteArray) : bt (t.extract 0 (ga t)) = bt t ∧ ga (t.extract 0 (ga t)) = ga t := by
 obtain ⟨a1, a2, a3, a4⟩ := lq t
 have hb := (x5 t).1
 have hsz : (t.extract 0 (ga t)).size = ga t := by rw [ByteArray.size_extract]; omega
 have hcat : t.extract 0 (ga t) ++ t.extract (ga t) t.size = t := by
  apply og
  rw [j3, dr, dr, List.drop_zero]
  have : t.size = t.data.toList.length := rfl
  rw [this, List.take_length, List.take_append_drop]
 have hj : rdN t (bt t).length = (bt t, ga t) := by rw [← a2, bt, ga]
 have hp := al2 (D := t.extract 0 (ga t)) (P := t.extract (ga t) t.size) (j := (bt t).length) (by rw [hcat]; exact a1) (by rw [hcat, hj, hsz]; dsimp only; exact Nat.le_refl _)
 rw [hcat, hj] at hp
 have hd : rdN (t.extract 0 (ga t)) 60 = rdN (t.extract 0 (ga t)) (bt t).length := qu (by rw [hp]) (by
  rw [hp]
  dsimp only
  exact u0 (by rw [ByteArray.size_extract, hsz]; omega))
 exact ⟨by rw [bt, hd, hp], by rw [ga, hd, hp]⟩
theorem aad (x : ByteArray) : x ++ ByteArray.empty = x := by apply og; rw [j3]; simp
theorem ajy {t : ByteArray} (ht : t.size ≤ 30000) : jd ⟨t.extract 0 (ga t), ByteArray.empty, ((bt t).length : Int)⟩ = true := by
 obtain ⟨h1, h2⟩ := aee t
 have hb := (x5 t).1
 have hsz : (t.extract 0 (ga t)).size = ga t := by rw [ByteArray.size_extract]; omega
 simp only [jd, aad, h1, h2, hsz, ByteArray.size_empty]
 simp
 omega
theorem aki {l : Log} {e : aq} (h : jd l = true) (he : ic e = true) (hc : l.Count ≠ 60) :
 bt (l.Durable ++ (l.Pending ++ cf l.Count e)) = bt (l.Durable ++ l.Pending) ++ [e] ∧ ga (l.Durable ++ (l.Pending ++ cf l.Count e)) = (l.Durable ++ (l.Pending ++ cf l.Count e)).size := by
 have hcb := kf h
 have hk : 0 ≤ l.Count ∧ l.Count ≤ 59 := by omega
 simp only [jd, Bool.and_eq_true, decide_eq_true_eq] at h
 obtain ⟨h1, h2, h3, h4⟩ := h
 rw [← ByteArray.append_assoc]
 have hsz : (l.Durable ++ l.Pending).size = l.Durable.size + l.Pending.size := ByteArray.size_append
 rw [← hsz] at h2
 generalize l.Durable ++ l.Pending = X at h2 h4 ⊢
 obtain ⟨a1, a2, a3, a4⟩ := lq X
 have hj : rdN X (bt X).length = (bt X, X.size) := by rw [← a2, ← h2, bt, ga]
 have hp := ahw (D := X) (P := cf l.Count e) a1
 rw [hj] at hp
 have hx : (X ++ cf l.Count e).extract X.size (X ++ cf l.Count e).size = cf l.Count e := abn _ _
 have hs := jh (s := X ++ cf l.Count e) (n := (bt X).length) (r := (e, (cf l.Count e).size)) (by
  rw [hp]
  dsimp only
  rw [hx, h4]
  exact ar0 hk he)
 rw [hp] at hs
 have hd : rdN (X ++ cf l.Count e) 60 = rdN (X ++ cf l.Count e) ((bt X).length + 1) := qu (by rw [hs]; simp) (by
  rw [hs]
  dsimp only
  exact u0 (by rw [ByteArray.size_extract, ByteArray.size_append]; omega))
 refine ⟨by rw [bt, hd, hs], ?_⟩
 rw [ga, hd, hs, ByteArray.size_append]
end Go.Proofs
end
section
set_option maxRecDepth 100000
set_option maxHeartbeats 1000000
namespace Go.Proofs
open Go.Lv
theorem um (p : UInt8 → Bool) (x y : ByteArray) : ec p (x ++ y) = (ec p x && ec p y) := by simp only [ec, j3, List.all_append]
theorem aoj {b : UInt8} (h : gm b = true) : bp b = true := by
 simp only [gm, Bool.and_eq_true, decide_eq_true_eq] at h
 simp only [bp, ke, Bool.and_eq_true, decide_eq_true_eq, Bool.not_eq_true', beq_eq_false_iff_ne, ne_eq]
 refine ⟨⟨by omega, by omega⟩, fun e => ?_⟩
 rw [e] at h
 simp at h
theorem ago (u : Nat) : (Lib.decDigits u).all bp = true := by
 have h := (sy (u + 1) u (by omega)).1
 rw [List.all_eq_true] at h ⊢
 exact fun b hb => aoj (h b hb)
theorem su (n : Int) : ec bp (num n) = true := by
 rcases Int.lt_or_le n 0 with hn | hn
 · obtain ⟨u, rfl⟩ : ∃ u : Nat, n = -(u : Int) := ⟨n.natAbs, by omega⟩
   have e : Lib.itoa (-(u : Int)) = 45 :: Lib.decDigits u := by unfold Lib.itoa; rw [if_pos (by omega)]; simp
   show (Lib.itoa (-(u : Int))).toArray.toList.all bp = true
   rw [e]
   simp only [List.all_cons, ago, Bool.and_true]
   decide
 · obtain ⟨u, rfl⟩ : ∃ u : Nat, n = u := ⟨n.toNat, by omega⟩
   show (Lib.itoa (u : Int)).toArray.toList.all bp = true
   rw [rl]
   simpa using ago u
theorem ad5 : ∀ L : List Int, ec bp (n7 L) = true
 | [] => rfl
 | [a] => su a
 | a :: b :: l => by
  have ih := ad5 (b :: l)
  rw [n7, um, um, su, ih]
  decide
theorem rm (L : List Int) : ec bp (lx L) = true := by
 unfold lx
 split
 · decide
 · exact ad5 L
theorem amu (s : Int) : ec bp (ue s) = true := by
 unfold ue
 split
 · decide
 · split
   · decide
   · split <;> decide
theorem akd (x : al) : ec bp (mo x) = true := by
 have h1 : ec bp (qs x) = true := by
  rw [qs, um, um, su, amu]; decide
 unfold mo
 split
 · exact h1
 · rw [um, um, su, h1]; decide
theorem adz (w : ae) (n : Int) : ec bp ((aas w n).getD wQ) = true := by
 unfold aas
 cases w.Shocks.find? (dz n) with
 | none => exact (by decide : ec bp wQ = true)
 | some x => exact akd x
theorem ak3 (w : ae) (k n : Int) : ec bp ((j1 w k n).getD wQ) = true := by
 unfold j1
 split
 · exact su _
 · split
   · exact rm _
   · split
     · exact su _
     · split
       · exact su _
       · exact adz w n
theorem ao5 (w : ae) (q : Nat) : ec bp ((w3 w q).getD wQ) = true := by
 have hq : ec bp wQ = true := by decide
 unfold w3
 split
 · exact su _
 · split
   · exact rm _
   · split
     · exact rm _
     · split
       · exact rm _
       · split
         · cases lgO w with
           | none => exact hq
           | some p => exact rm _
         · exact hq
theorem al8 (w : ae) (q : Nat) (ns : List Int) : ec bp (mz w q ns).2 = true := by
 have hq : ec bp wQ = true := by decide
 unfold mz
 split
 · rename_i k n v _
   unfold lp
   split
   · exact hq
   · exact ak3 _ _ _
 · split
   · exact ao5 _ _
   · dsimp only
     split
     · exact adz _ _
     · exact hq
   · exact hq
theorem amc (w : ae) (line : ByteArray) : ec bp (fy w line).2 = true := by
 unfold fy
 split
 · exact (by decide : ec bp wQ = true)
 · exact al8 _ _ _
theorem apg {r : ByteArray} (h : ec bp r = true) : ec bp (py r) = true ∧ (py r).size ≤ 200 := by
 unfold py
 split
 · exact ⟨by decide, by decide⟩
 · exact ⟨h, by omega⟩
theorem aox {line r r' : ByteArray} (h : ic ⟨line, r⟩ = true) (h1 : ec bp r' = true) (h2 : r'.size ≤ 200) : ic ⟨line, r'⟩ = true := by
 simp only [ic, Bool.and_eq_true, decide_eq_true_eq] at h ⊢
 exact ⟨h.1, h2, h1⟩
theorem aen (c : ah) (line : ByteArray) : ((dd c line).1 = c ∧ ((dd c line).2 = wNo ∨ (dd c line).2 = av5 ∨ (dd c line).2 = aof)) ∨
 (ni c = true ∧ ic ⟨line, (dd c line).2⟩ = true ∧ c.Log.Count ≠ 60 ∧ wB (dd c line).1.ae = true ∧ (dd c line).1.ae = (fy c.ae line).1 ∧ (dd c line).1.Log = ⟨c.Log.Durable, c.Log.Pending ++ cf c.Log.Count ⟨line, (dd c line).2⟩, c.Log.Count + 1⟩) := by
 unfold dd
 split
 · exact .inl ⟨rfl, .inl rfl⟩
 · rename_i h1
   split
   · exact .inl ⟨rfl, .inr (.inl rfl)⟩
   · rename_i h2
     split
     · exact .inl ⟨rfl, .inr (.inr rfl)⟩
     · rename_i h3
       have hc : ni c = true := by simpa using h1
       have hr : ic ⟨line, ByteArray.empty⟩ = true := by simpa using h2
       obtain ⟨p1, p2⟩ := apg (amc c.ae line)
       have hrr := aox hr p1 p2
       refine .inr ⟨hc, hrr, h3, ain (jy hc).1, rfl, ?_⟩
       dsimp only
       rw [ahz, if_pos ⟨(jy hc).2, hrr⟩, if_neg h3]
theorem qx {l : Log} (h : jd l = true) : l.Durable.size + l.Pending.size ≤ 30000 ∧ ga (l.Durable ++ l.Pending) = l.Durable.size + l.Pending.size ∧ ga l.Durable = l.Durable.size ∧ ((bt (l.Durable ++ l.Pending)).length : Int) = l.Count := by
 simpa only [jd, Bool.and_eq_true, decide_eq_true_eq] using h
theorem aoi {l : Log} {e : aq} (h : jd l = true) (he : ic e = true) (hc : l.Count ≠ 60) : jd ⟨l.Durable, l.Pending ++ cf l.Count e, l.Count + 1⟩ = true := by
 obtain ⟨h1, h2, h3, h4⟩ := qx h
 obtain ⟨a1, a2⟩ := aki h he hc
 have hb := (x5 (l.Durable ++ (l.Pending ++ cf l.Count e))).2
 have hs : (l.Durable ++ (l.Pending ++ cf l.Count e)).size = l.Durable.size + (l.Pending ++ cf l.Count e).size := ByteArray.size_append
 have hs2 : (l.Pending ++ cf l.Count e).size = l.Pending.size + (cf l.Count e).size := ByteArray.size_append
 have hcb := kf h
 simp only [jd, a1, a2, h3, List.length_append, List.length_cons, List.length_nil]
 simp
 omega
noncomputable def yb (c : ah) : List aq := bt (c.Log.Durable ++ c.Log.Pending)
theorem as5 {c : ah} {line : ByteArray} (h : ni c = true) (he : ic ⟨line, (dd c line).2⟩ = true) (hc : c.Log.Count ≠ 60) (hw : wB (dd c line).1.ae = true) (hl : (dd c line).1.Log = ⟨c.Log.Durable, c.Log.Pending ++ cf c.Log.Count ⟨line, (dd c line).2⟩, c.Log.Count + 1⟩) :
 ni (dd c line).1 = true ∧ yb (dd c line).1 = yb c ++ [⟨line, (dd c line).2⟩] ∧ ((yb c).length : Int) = c.Log.Count := by
 have hlg := (jy h).2
 refine ⟨?_, ?_, (qx hlg).2.2.2⟩
 · rw [ni, hw, hl, aoi hlg he hc]; rfl
 · rw [yb, hl]
   exact (aki hlg he hc).1
end Go.Proofs
end
section
set_option maxRecDepth 100000
set_option maxHeartbeats 4000000
namespace Go.Proofs
open Go.Lv
def dC (m : Nat) (s : ah) : Prop := (s.ae.ok ∧ s.ae.sm) ∧ (s.ae.Posts.length ≤ 100 ∧ s.ae.Shocks.length ≤ 100) ∧ s.Log.Durable.size ≤ 100000 ∧ s.Log.Pending.size ≤ 100000 + 500 * m ∧ bu s.Log.Count
theorem dC.fits {m : Nat} {s : ah} (h : dC m s) (hm : m ≤ 1000) : s.fits := by
 obtain ⟨_, ⟨h1, h2⟩, h3, h4, _⟩ := h
 exact ⟨by omega, by omega, by omega, by omega⟩
theorem dC.exec {m : Nat} {s : ah} (h : dC m s) (line : ByteArray) : dC (m + 1) (dd s line).1 := by
 obtain ⟨h1, h2, h3, h4, h5⟩ := h
 rcases aen s line with ⟨e, _⟩ | ⟨hc, hr, hn, hw, _, hl⟩
 · rw [e]; exact ⟨h1, h2, h3, by omega, h5⟩
 · obtain ⟨g1, g2, g3⟩ := ajf hw
   have hlc := kf (jy hc).2
   have hz := u4 (k := s.Log.Count) (by omega) hr
   refine ⟨⟨g1, atm hw⟩, ⟨by omega, by omega⟩, ?_⟩
   rw [hl]
   refine ⟨h3, by simp only [ByteArray.size_append]; omega, ⟨by simp only []; omega, by simp only []; omega⟩⟩
theorem dC.log {m : Nat} {s : ah} (h : dC m s) {l : Log} (h1 : l.Durable.size ≤ 100000) (h2 : l.Pending.size ≤ 100000) (h3 : bu l.Count) : dC m ⟨s.ae, l⟩ := ⟨h.1, h.2.1, h1, by simp only []; omega, h3⟩
theorem sR.i64 {x : Int} (h : sR x) : -9223372036854775807 ≤ x ∧ x ≤ 9223372036854775807 := by
 obtain ⟨h1, h2⟩ := h; omega
theorem vq {B : List Int} (hB : CB B) {k : Int} (hk : k ≤ 900000) {c : Cur} (hc : c.le k) (s : ah) {m : Nat} (hs : dC m s) : lr Tryz.prog 31 [.ptr 0 0, s.v] [some (c.cs B)] (asl B 100 (k + 60)) := by
 have hcb : ∀ {c' : Cur} {k' : Int}, c'.le k' → k' ≤ 4000000 → c'.le 4611686018427387903 := fun h h' => ⟨h.1, by have := h.2; omega⟩
 obtain ⟨⟨_, hsm⟩, ⟨hp, hq⟩, _⟩ := hs
 refine lr.intro Tryz.mixed Tryz.func31 rfl Tryz.a6q ?_
 refine ev2 @Tryz.ntmps31 @Tryz.results31 ?_
 refine rs1 @ah.v.eq_1 ?_
 refine ai.rel [0] (aaj hB (by omega) hc s.ae hsm (by omega) (by omega)) (by decide) ⟨leO, leO, trivial⟩ (dm rfl) rfl (fun r hout hΦ => ?_)
 obtain ⟨x, c1, hx, hc1, rfl, rfl⟩ := hΦ
 refine ⟨⟨⟨rfl, rfl⟩, trivial⟩, ?_⟩
 refine rs2 @Cur.ren @cr.v.eq_1 ?_
 obtain ⟨K, n, v⟩ := x
 obtain ⟨_, hn, hv⟩ := hx
 dsimp only at hn hv ⊢
 (have ct := fp n hn.i64.1 hn.i64.2; (first | refine ak.at ct ⟨leA, trivial⟩ ?_ | refine ai.at ct ⟨leA, trivial⟩ ?_); clear ct)
 refine rs1 @Cur.ren ?_
 (have ct := fp v hv.i64.1 hv.i64.2; (first | refine ak.at ct ⟨leA, trivial⟩ ?_ | refine ai.at ct ⟨leA, trivial⟩ ?_); clear ct)
 refine rs1 @Cur.ren ?_
 refine gj hB hc1 (by omega) 6 (by omega) rfl (fun vc2 c2 pvc2 hc2 => ?_)
 refine rs1 @Cur.ren ?_
 have sn := jn (n := n) (by have := hn.i64; omega) (by have := hn.i64; omega)
 have sv := jn (n := v) (by have := hv.i64; omega) (by have := hv.i64; omega)
 have hcases : vc2 = 4 ∨ vc2 = 5 ∨ (vc2 = 0 ∨ vc2 = 1 ∨ vc2 = 2 ∨ vc2 = 3) := by omega
 have hcc : ∀ {x : ByteArray} {y : ByteArray} {h : Hp}, h[0]? = some (some (c2.cs B)) → x.size ≤ 10 → y.size ≤ 21 → yl 1 (.str (x ++ y)) h (asl B 100 (k + 60)) := fun h0 hx hy => qj h0 (by rw [ByteArray.size_append]; omega) (fa hc2 (by omega))
 have hcd : ∀ {x y z w : ByteArray} {h : Hp}, h[0]? = some (some (c2.cs B)) → x.size ≤ 10 → y.size ≤ 21 → z.size ≤ 10 → w.size ≤ 21 → yl 1 (.str (x ++ y ++ z ++ w)) h (asl B 100 (k + 60)) := fun h0 hx hy hz hw => qj h0 (by simp only [ByteArray.size_append]; omega) (fa hc2 (by omega))
 rcases hcases with rfl | rfl | hv4
 · refine rs0 ?_
   have pc3 := agf hB (hcb hc2 (by omega)) [⟨#[110, 111, 119]⟩, ⟨#[112, 111, 115, 116, 115]⟩, ⟨#[116, 111, 100, 111]⟩, ⟨#[115, 116, 97, 116, 101, 115]⟩, ⟨#[108, 111, 110, 103, 101, 115, 116]⟩, ⟨#[116, 101, 120, 116, 32]⟩ ++ num n] (by simp) (by simp); have hc3 := dt (B := B) (n := (([⟨#[110, 111, 119]⟩, ⟨#[112, 111, 115, 116, 115]⟩, ⟨#[116, 111, 100, 111]⟩, ⟨#[115, 116, 97, 116, 101, 115]⟩, ⟨#[108, 111, 110, 103, 101, 115, 116]⟩, ⟨#[116, 101, 120, 116, 32]⟩ ++ num n] : List ByteArray).length : Int)) hc2; have pvc3 := xr hB (K := [⟨#[110, 111, 119]⟩, ⟨#[112, 111, 115, 116, 115]⟩, ⟨#[116, 111, 100, 111]⟩, ⟨#[115, 116, 97, 116, 101, 115]⟩, ⟨#[108, 111, 110, 103, 101, 115, 116]⟩, ⟨#[116, 101, 120, 116, 32]⟩ ++ num n]) (by simp) hc2.1; generalize ofV B [⟨#[110, 111, 119]⟩, ⟨#[112, 111, 115, 116, 115]⟩, ⟨#[116, 111, 100, 111]⟩, ⟨#[115, 116, 97, 116, 101, 115]⟩, ⟨#[108, 111, 110, 103, 101, 115, 116]⟩, ⟨#[116, 101, 120, 116, 32]⟩ ++ num n] c2 = vc3 at pc3 pvc3; generalize fj B (([⟨#[110, 111, 119]⟩, ⟨#[112, 111, 115, 116, 115]⟩, ⟨#[116, 111, 100, 111]⟩, ⟨#[115, 116, 97, 116, 101, 115]⟩, ⟨#[108, 111, 110, 103, 101, 115, 116]⟩, ⟨#[116, 101, 120, 116, 32]⟩ ++ num n] : List ByteArray).length : Int) c2 = c3 at pc3 hc3; (first | refine ai.dp [0, 1] false pc3 (by decide) ⟨leO, leO, trivial⟩ (br rfl rfl) (bq B _ _) (.inl rfl) ?_ | refine ai.dp [0, 2] false pc3 (by decide) ⟨leO, leO, trivial⟩ (br rfl rfl) (bq B _ _) (.inl rfl) ?_ | refine ai.dp [0, 3] false pc3 (by decide) ⟨leO, leO, trivial⟩ (br rfl rfl) (bq B _ _) (.inl rfl) ?_ | refine ai.dp [0, 4] false pc3 (by decide) ⟨leO, leO, trivial⟩ (br rfl rfl) (bq B _ _) (.inl rfl) ?_ | refine ai.dp [0, 5] false pc3 (by decide) ⟨leO, leO, trivial⟩ (br rfl rfl) (bq B _ _) (.inl rfl) ?_ | refine ai.dp [0, 6] false pc3 (by decide) ⟨leO, leO, trivial⟩ (br rfl rfl) (bq B _ _) (.inl rfl) ?_ | refine ai.dp [0, 7] false pc3 (by decide) ⟨leO, leO, trivial⟩ (br rfl rfl) (bq B _ _) (.inl rfl) ?_ | refine ai.dp [0, 8] false pc3 (by decide) ⟨leO, leO, trivial⟩ (br rfl rfl) (bq B _ _) (.inl rfl) ?_)
   refine rs1 @Cur.ren ?_
   have hz : vc3.size ≤ 100 := by
    simp only [List.mem_cons, List.mem_nil_iff, or_false] at pvc3
    rcases pvc3 with rfl | rfl | rfl | rfl | rfl | rfl
    · decide
    · decide
    · decide
    · decide
    · decide
    · rw [ByteArray.size_append]
      have : (⟨#[116, 101, 120, 116, 32]⟩ : ByteArray).size = 5 := rfl
      omega
   exact qj rfl hz (fa hc3 (by omega))
 · refine rs0 ?_
   have pc3 := agf hB (hcb hc2 (by omega)) [⟨#[]⟩, ⟨#[119, 104, 97, 116]⟩, ⟨#[108, 111, 99, 97, 116, 101, 32, 49]⟩, ⟨#[119, 97, 105, 116, 32, 120]⟩, ⟨#[119, 97, 105, 116, 32, 48]⟩, ⟨#[100, 111, 119, 110, 32, 48]⟩, ⟨#[114, 101, 118, 105, 101, 119]⟩, ⟨#[97, 64, 98]⟩, ⟨#[115, 104, 111, 99, 107, 32, 49]⟩, ⟨#[112, 117, 98, 108, 105, 115, 104, 32, 49, 32, 50]⟩, ⟨#[116, 101, 120, 116, 32, 45, 49]⟩] (by simp) (by simp); have hc3 := dt (B := B) (n := (([⟨#[]⟩, ⟨#[119, 104, 97, 116]⟩, ⟨#[108, 111, 99, 97, 116, 101, 32, 49]⟩, ⟨#[119, 97, 105, 116, 32, 120]⟩, ⟨#[119, 97, 105, 116, 32, 48]⟩, ⟨#[100, 111, 119, 110, 32, 48]⟩, ⟨#[114, 101, 118, 105, 101, 119]⟩, ⟨#[97, 64, 98]⟩, ⟨#[115, 104, 111, 99, 107, 32, 49]⟩, ⟨#[112, 117, 98, 108, 105, 115, 104, 32, 49, 32, 50]⟩, ⟨#[116, 101, 120, 116, 32, 45, 49]⟩] : List ByteArray).length : Int)) hc2; have pvc3 := xr hB (K := [⟨#[]⟩, ⟨#[119, 104, 97, 116]⟩, ⟨#[108, 111, 99, 97, 116, 101, 32, 49]⟩, ⟨#[119, 97, 105, 116, 32, 120]⟩, ⟨#[119, 97, 105, 116, 32, 48]⟩, ⟨#[100, 111, 119, 110, 32, 48]⟩, ⟨#[114, 101, 118, 105, 101, 119]⟩, ⟨#[97, 64, 98]⟩, ⟨#[115, 104, 111, 99, 107, 32, 49]⟩, ⟨#[112, 117, 98, 108, 105, 115, 104, 32, 49, 32, 50]⟩, ⟨#[116, 101, 120, 116, 32, 45, 49]⟩]) (by simp) hc2.1; generalize ofV B [⟨#[]⟩, ⟨#[119, 104, 97, 116]⟩, ⟨#[108, 111, 99, 97, 116, 101, 32, 49]⟩, ⟨#[119, 97, 105, 116, 32, 120]⟩, ⟨#[119, 97, 105, 116, 32, 48]⟩, ⟨#[100, 111, 119, 110, 32, 48]⟩, ⟨#[114, 101, 118, 105, 101, 119]⟩, ⟨#[97, 64, 98]⟩, ⟨#[115, 104, 111, 99, 107, 32, 49]⟩, ⟨#[112, 117, 98, 108, 105, 115, 104, 32, 49, 32, 50]⟩, ⟨#[116, 101, 120, 116, 32, 45, 49]⟩] c2 = vc3 at pc3 pvc3; generalize fj B (([⟨#[]⟩, ⟨#[119, 104, 97, 116]⟩, ⟨#[108, 111, 99, 97, 116, 101, 32, 49]⟩, ⟨#[119, 97, 105, 116, 32, 120]⟩, ⟨#[119, 97, 105, 116, 32, 48]⟩, ⟨#[100, 111, 119, 110, 32, 48]⟩, ⟨#[114, 101, 118, 105, 101, 119]⟩, ⟨#[97, 64, 98]⟩, ⟨#[115, 104, 111, 99, 107, 32, 49]⟩, ⟨#[112, 117, 98, 108, 105, 115, 104, 32, 49, 32, 50]⟩, ⟨#[116, 101, 120, 116, 32, 45, 49]⟩] : List ByteArray).length : Int) c2 = c3 at pc3 hc3; (first | refine ai.dp [0, 1] false pc3 (by decide) ⟨leO, leO, trivial⟩ (br rfl rfl) (bq B _ _) (.inl rfl) ?_ | refine ai.dp [0, 2] false pc3 (by decide) ⟨leO, leO, trivial⟩ (br rfl rfl) (bq B _ _) (.inl rfl) ?_ | refine ai.dp [0, 3] false pc3 (by decide) ⟨leO, leO, trivial⟩ (br rfl rfl) (bq B _ _) (.inl rfl) ?_ | refine ai.dp [0, 4] false pc3 (by decide) ⟨leO, leO, trivial⟩ (br rfl rfl) (bq B _ _) (.inl rfl) ?_ | refine ai.dp [0, 5] false pc3 (by decide) ⟨leO, leO, trivial⟩ (br rfl rfl) (bq B _ _) (.inl rfl) ?_ | refine ai.dp [0, 6] false pc3 (by decide) ⟨leO, leO, trivial⟩ (br rfl rfl) (bq B _ _) (.inl rfl) ?_ | refine ai.dp [0, 7] false pc3 (by decide) ⟨leO, leO, trivial⟩ (br rfl rfl) (bq B _ _) (.inl rfl) ?_ | refine ai.dp [0, 8] false pc3 (by decide) ⟨leO, leO, trivial⟩ (br rfl rfl) (bq B _ _) (.inl rfl) ?_)
   refine rs1 @Cur.ren ?_
   exact qj rfl (wu pvc3 (by rfl)) (fa hc3 (by omega))
 · rcases hv4 with rfl | rfl | rfl | rfl <;> refine rs0 ?_
   all_goals repeat' (refine aw.split (fun h6 => ?_) (fun h6 => ?_) <;> refine rs1 @h6 ?_)
   all_goals first
    | exact hcc rfl (by decide) sn
    | exact hcc rfl (by decide) sv
    | exact hcd rfl (by decide) sn (by decide) sv
    | exact qj rfl (by decide) (fa hc2 (by omega))
end Go.Proofs
end
section
set_option maxRecDepth 100000
set_option maxHeartbeats 4000000
namespace Go.Proofs
open Go.Lv
def ah.zs : List V := [.int .i64 0, .nilsl, .nilsl, .int .i64 0, .int .i64 0, .str ByteArray.empty, .str ByteArray.empty, .int .i64 0]
def awy (B : List Int) (k : Int) (r : V) (hout : Hp) : Prop := ∃ (s : ah) (c : Cur), dC 7 s ∧ c.le k ∧ r = s.v ∧ hout = [some (c.cs B)]
theorem aa6 {B : List Int} {k : Int} {h : Hp} {s : ah} {c : Cur} (h0 : h[0]? = some (some (c.cs B))) (hs : dC 7 s) (hc : c.le k) : yl 1 (.agg s.cs) h (awy B k) := by
 refine ⟨_, _, ⟨s, c, hs, hc, rfl, rfl⟩, aj.pick [0] (by decide) (fun j hj => by cases j <;> simp_all) (.inl ?_) ?_⟩
 · simp [ren, ah.v, ah.cs]
 · simp only [az, List.map_cons, List.map_nil, bg, h0, Cur.ren]
theorem dC.mono {m n : Nat} {s : ah} (h : dC m s) (hmn : m ≤ n) : dC n s := by
 obtain ⟨h1, h2, h3, h4, h5⟩ := h
 exact ⟨h1, h2, h3, by omega, h5⟩
theorem am5 {B : List Int} (hB : CB B) {k : Int} (hk : k ≤ 90000) {c : Cur} (hc : c.le k) : lr Tryz.prog 27 [.ptr 0 0] [some (c.cs B)] (awy B (k + 4000)) := by
 have hcb : ∀ {c' : Cur} {k' : Int}, c'.le k' → k' ≤ 4000000 → c'.le 4611686018427387903 := fun h h' => ⟨h.1, by have := h.2; omega⟩
 refine lr.intro Tryz.mixed Tryz.func27 rfl Tryz.a79 ?_
 refine ev2 @Tryz.ntmps27 @Tryz.results27 ?_
 refine rs0 ?_
 refine ai.rel [0] (aqi hB (by omega) hc) (by decide) ⟨leO, trivial⟩ (dm rfl) rfl (fun r hout hΦ => ?_)
 obtain ⟨w, c1, hw, hwp, hws, hc1, rfl, rfl⟩ := hΦ
 refine ⟨⟨⟨rfl, rfl⟩, trivial⟩, ?_⟩
 refine rs2 @Cur.ren @ae.v.eq_1 ?_
 refine gj hB hc1 (by omega) 7 (by omega) rfl (fun vc2 c2 pvc2 hc2 => ?_)
 refine rs1 @Cur.ren ?_
 obtain ⟨n0, hn0⟩ : ∃ n : Nat, vc2 = n := ⟨vc2.toNat, by omega⟩
 subst hn0
 have hs0 : dC 0 ⟨w, ⟨ByteArray.empty, ByteArray.empty, 0⟩⟩ := ⟨hw, ⟨hwp, hws⟩, by simp, by simp, by simp [bu]⟩
 refine dn.intro (fun x : Nat × ah × Cur => x.1 ≤ 7 ∧ dC (7 - x.1) x.2.1 ∧ x.2.2.le (k + 2002 + 100 * (7 - (x.1 : Int)))) (fun x => ⟨(.ptr 0 0 :: .undef :: .ptr 1 0 :: .ptr 2 0 :: .int .i64 x.1 :: (un 27 [])), [some (x.2.2.cs B), some ah.zs, some x.2.1.cs], 1⟩) (fun x => x.1) (n0, ⟨w, ⟨ByteArray.empty, ByteArray.empty, 0⟩⟩, c2) ⟨by simp only []; omega, hs0.mono (by omega), cm hc2 (by simp only []; omega)⟩ ?_ (fun x hx => ?_)
 · refine bo.cut (3) (by simp) (by simp) ?_ ?_
   · simp [LeC, LeV, ren, bh]
   · simp [cb, ck, Cur.ren, ren, ah.zs, ah.cs]
 obtain ⟨n, s, c3⟩ := x
 obtain ⟨x1, hs, hc3⟩ := hx
 dsimp only at x1 hs hc3
 have hg := afj s (hs.fits (by omega))
 refine ev1 @ah.cs.eq_1 ?_
 by_cases hn : n = 0
 · subst hn
   have hd : decide ((0 : Int) < ((0 : Nat) : Int)) = false := rfl
   refine rs2 @hd @ah.cs.eq_1 ?_
   refine eb hB hc3 (by omega) 24 (by omega) rfl (fun vc5 c5 hc5 => ?_)
   refine rs2 @Cur.ren @ah.cs.eq_1 ?_
   refine aw.split (fun h6 => ?_) (fun h6 => ?_)
   · refine rs2 @h6 @ah.cs.eq_1 ?_
     refine ai.rel [0] (agb hB (by omega) hc5) (by decide) ⟨leO, trivial⟩ (dm rfl) rfl (fun r hout hΦ => ?_)
     obtain ⟨l, c6, y1, y2, y3, hc6, rfl, rfl⟩ := hΦ
     refine ⟨⟨⟨rfl, rfl⟩, trivial⟩, ?_⟩
     refine rs3 @Cur.ren @ah.cs.eq_1 @Log.v.eq_1 ?_
     exact ⟨by decide, aa6 rfl ((hs.log y1 y2 y3).mono (by omega)) (fa hc6 (by omega))⟩
   · refine rs2 @h6 @ah.cs.eq_1 ?_
     exact ⟨by decide, aa6 rfl (hs.mono (by omega)) (fa hc5 (by omega))⟩
 · have hd : decide ((0 : Int) < (n : Int)) = true := decide_eq_true (by omega)
   refine rs2 @hd @ah.cs.eq_1 ?_
   (first | refine ak.at (hg) ⟨leA, trivial⟩ ?_ | refine ai.at (hg) ⟨leA, trivial⟩ ?_)
   refine rs0 ?_
   cases hb : ni s with
   | false =>
    refine rs0 ?_
    refine eb hB hc3 (by omega) 24 (by omega) rfl (fun vc5 c5 hc5 => ?_)
    refine rs2 @Cur.ren @ah.cs.eq_1 ?_
    refine aw.split (fun h6 => ?_) (fun h6 => ?_)
    · refine rs2 @h6 @ah.cs.eq_1 ?_
      refine ai.rel [0] (agb hB (by omega) hc5) (by decide) ⟨leO, trivial⟩ (dm rfl) rfl (fun r hout hΦ => ?_)
      obtain ⟨l, c6, y1, y2, y3, hc6, rfl, rfl⟩ := hΦ
      refine ⟨⟨⟨rfl, rfl⟩, trivial⟩, ?_⟩
      refine rs3 @Cur.ren @ah.cs.eq_1 @Log.v.eq_1 ?_
      exact ⟨by decide, aa6 rfl ((hs.log y1 y2 y3).mono (by omega)) (fa hc6 (by omega))⟩
    · refine rs2 @h6 @ah.cs.eq_1 ?_
      exact ⟨by decide, aa6 rfl (hs.mono (by omega)) (fa hc5 (by omega))⟩
   | true =>
    refine rs0 ?_
    have hfs := hs.fits (by omega)
    refine clT.tree (fun s2 => ∃ (s' : ah) (c4 : Cur), dC (7 - n + 1) s' ∧ c4.le (k + 2002 + 100 * (7 - (n : Int)) + 60) ∧ s2 = ⟨(.ptr 0 0 :: .undef :: .ptr 1 0 :: .ptr 2 0 :: .int .i64 n :: (un 27 [])), [some (c4.cs B), some ah.zs, some s'.cs], 1⟩) (.take 1 (.alt 0 (.alt 2 (.alt 3 (.alt 4 (.take 5 (.take 6 (.take 7 (.alt 8 .done .stop)))) .stop) .stop) .stop) (.alt 2 (.alt 0 (.alt 3 (.alt 4 (.take 5 (.take 6 (.take 7 (.alt 8 .done .stop)))) .stop) .stop) (.alt 3 (.alt 0 (.alt 4 (.take 5 (.take 6 (.take 7 (.alt 8 .done .stop)))) .stop) .stop) .stop)) .stop))) (by kernel_rfl) (fun s2 hs2 => ?_) ?_
    · obtain ⟨s', c4, hs', hc4, rfl⟩ := hs2
      have hn1 : ((n - 1 : Nat) : Int) = (n : Int) - 1 := by omega
      refine rs1 @ah.cs.eq_1 ?_
      refine ⟨(n - 1, s', c4), ⟨by simp only []; omega, hs'.mono (by simp only []; omega), fa hc4 (by simp only []; omega)⟩, ?_, by simp only []; omega⟩
      refine bo.cut (3) (by simp) (by simp) ?_ ?_
      · simp [LeC, LeV, ren, bh, hn1]
      · simp [cb, ck, bh, Cur.ren, ren, ah.zs, ah.cs]
    · refine rs1 @ah.cs.eq_1 ?_
      repeat' (first | (refine ai.rel [0] (vq hB (by omega) hc3 s hs) (by decide) ⟨leO, leO, trivial⟩ (dm rfl) rfl (fun r hout hΦ => ?_); obtain ⟨line, c4, hl, hc4, rfl, rfl⟩ := hΦ; refine ⟨⟨⟨rfl, rfl⟩, trivial⟩, ?_⟩; have cs := afm s line hfs (by omega); refine rs3 @Cur.ren @ah.v.eq_1 @ah.cs.eq_1 ?_) | ((first | refine ak.at (cs) ⟨leA, leA, trivial⟩ ?_ | refine ai.at (cs) ⟨leA, leA, trivial⟩ ?_); refine rs3 @Cur.ren @ah.v.eq_1 @ah.cs.eq_1 ?_) | (refine And.intro ?_ ?_) | exact trivial)
      all_goals
       refine ⟨_, ⟨(dd s line).1, c4, hs.exec line, fa hc4 (by omega), rfl⟩, ?_⟩
       refine bo.cut (3) (by simp) (by simp) ?_ ?_
       · simp [LeC, LeV, ren, bh]
       · simp [cb, ck, bh, Cur.ren, ren, ah.zs, ah.cs]
end Go.Proofs
end
section
set_option maxRecDepth 100000
set_option maxHeartbeats 4000000
namespace Go.Proofs
open Go.Lv
def a8b (r : V) (hout : Hp) : Prop := ∃ (c : ah) (text : ByteArray), dC 7 c ∧ text.size ≤ 1000 ∧ r = .tup [c.v, .str text] ∧ hout = []
theorem abi {B : List Int} (hB : CB B) : lr Tryz.prog 14 [ByteS.sl B] [] a8b := by
 have hcb : ∀ {c' : Cur} {k' : Int}, c'.le k' → k' ≤ 4000000 → c'.le 4611686018427387903 := fun h h' => ⟨h.1, by have := h.2; omega⟩
 obtain ⟨c, hcd⟩ : ∃ c : Cur, c = ⟨0, 0⟩ := ⟨_, rfl⟩
 have hc : c.le 0 := by rw [hcd]; exact ⟨Int.le_refl 0, Int.le_refl 0⟩
 have hcc : c.cs B = [ByteS.sl B, .int .i64 0, .int .u64 0] := by rw [hcd]; rfl
 refine lr.intro Tryz.mixed Tryz.func14 rfl Tryz.a8h ?_
 refine ev2 @Tryz.ntmps14 @Tryz.results14 ?_
 refine rs1 @ByteS.sl.eq_1 ?_
 rw [← ByteS.sl, ← hcc]
 refine ai.rel [1] (am5 hB (by omega) hc) (by decide) ⟨leO, trivial⟩ (dm rfl) rfl (fun r hout hΦ => ?_)
 obtain ⟨s, c1, hs, hc1, rfl, rfl⟩ := hΦ
 refine ⟨⟨⟨rfl, rfl⟩, trivial⟩, ?_⟩
 refine rs2 @Cur.ren @ah.v.eq_1 ?_
 refine ai.rel [1] (vq hB (by omega) hc1 s hs) (by decide) ⟨leO, leO, trivial⟩ (dm rfl) rfl (fun r hout hΦ => ?_)
 obtain ⟨t0, c2, ht0, hc2, rfl, rfl⟩ := hΦ
 refine ⟨⟨⟨rfl, rfl⟩, trivial⟩, ?_⟩
 refine rs2 @Cur.ren @ah.v.eq_1 ?_
 refine gj hB hc2 (by omega) 5 (by omega) rfl (fun vc3 c3 pvc3 hc3 => ?_)
 refine rs1 @Cur.ren ?_
 obtain ⟨n0, hn0⟩ : ∃ n : Nat, vc3 = n := ⟨vc3.toNat, by omega⟩
 subst hn0
 refine dn.intro (fun x : Nat × ByteArray × Cur => x.1 ≤ 5 ∧ x.2.1.size + 101 * x.1 ≤ 605 ∧ x.2.2.le (4062 + 60 * (5 - (x.1 : Int)))) (fun x => ⟨(.undef :: .undef :: .ptr 0 0 :: .undef :: .ptr 1 0 :: .ptr 2 0 :: .str x.2.1 :: .int .i64 x.1 :: (un 34 [])), [some ah.zs, some (x.2.2.cs B), some s.cs], 0⟩) (fun x => x.1) (n0, t0, c3) ⟨by simp only []; omega, by simp only []; omega, fa hc3 (by simp only []; omega)⟩ ?_ (fun x hx => ?_)
 · refine bo.cut (3) (by simp) (by simp) ?_ ?_
   · simp [LeC, LeV, ren, bh]
   · simp [cb, ck, Cur.ren, ren, ah.zs, ah.cs]
 obtain ⟨n, tx, c4⟩ := x
 obtain ⟨x1, x2, hc4⟩ := hx
 dsimp only at x1 x2 hc4
 refine ev0 ?_
 refine aw.split (fun h1 => ?_) (fun h1 => ?_)
 · have hn : 0 < n := by have := of_decide_eq_true h1; omega
   refine rs2 @h1 @ah.cs.eq_1 ?_
   refine ai.rel [1] (vq hB (by omega) hc4 s hs) (by decide) ⟨leO, leO, trivial⟩ (dm rfl) rfl (fun r hout hΦ => ?_)
   obtain ⟨t1, c5, ht1, hc5, rfl, rfl⟩ := hΦ
   refine ⟨⟨⟨rfl, rfl⟩, trivial⟩, ?_⟩
   refine rs1 @Cur.ren ?_
   have hn1 : ((n - 1 : Nat) : Int) = (n : Int) - 1 := by omega
   have hsz : (tx ++ (⟨#[10]⟩ : ByteArray) ++ t1).size = tx.size + 1 + t1.size := by simp only [ByteArray.size_append]; rfl
   refine ⟨(n - 1, tx ++ ⟨#[10]⟩ ++ t1, c5), ⟨by simp only []; omega, by simp only [hsz]; omega, fa hc5 (by simp only []; omega)⟩, ?_, by simp only []; omega⟩
   refine bo.cut (3) (by simp) (by simp) ?_ ?_
   · simp [LeC, LeV, ren, bh, hn1]
   · simp [cb, ck, Cur.ren, ren, ah.zs, ah.cs]
 · refine rs1 @h1 ?_
   refine eb hB hc4 (by omega) 20 (by omega) rfl (fun vc5 c5 hc5 => ?_)
   refine rs1 @Cur.ren ?_
   refine aw.split (fun h6 => ?_) (fun h6 => ?_)
   · refine rs1 @h6 ?_
     refine gj hB hc5 (by omega) 2 (by omega) rfl (fun vc6 c6 pvc6 hc6 => ?_)
     refine rs1 @Cur.ren ?_
     obtain ⟨j, hj⟩ : ∃ j : Nat, vc6 = j := ⟨vc6.toNat, by omega⟩
     subst hj
     have hw : IntKind.i64.wrap (29 + (j : Int)) = ((29 + j : Nat) : Int) := by rw [wrap_i64 (by omega) (by omega)]; omega
     try rw [show (29 : Int) + (j : Int) = ((29 + j : Nat) : Int) by omega]
     refine dn.intro (fun x : Nat × ByteArray => x.2.size + x.1 ≤ 31) (fun x => ⟨(.undef :: .undef :: .ptr 0 0 :: .undef :: .undef :: .ptr 2 0 :: .str x.2 :: .undef :: .int .i64 x.1 :: (un 33 [])), [some ah.zs, some (c6.cs B), some s.cs], 0⟩) (fun x => x.1) (29 + j, ⟨#[]⟩) (by show 0 + (29 + j) ≤ 31; omega) ?_ (fun x hx => ?_)
     · refine bo.cut (3) (by simp) (by simp) ?_ ?_
       · simp [LeC, LeV, ren, bh]
       · simp [cb, ck, Cur.ren, ren, ah.zs, ah.cs]
     obtain ⟨m, tm⟩ := x
     dsimp only at hx
     refine ev0 ?_
     refine aw.split (fun h7 => ?_) (fun h7 => ?_)
     · have hm : 0 < m := by have := of_decide_eq_true h7; omega
       refine rs1 @h7 ?_
       have hm1 : ((m - 1 : Nat) : Int) = (m : Int) - 1 := by omega
       have hsz : (tm ++ (⟨#[10]⟩ : ByteArray)).size = tm.size + 1 := by simp only [ByteArray.size_append]; rfl
       refine ⟨(m - 1, tm ++ ⟨#[10]⟩), by simp only [hsz]; omega, ?_, by simp only []; omega⟩
       refine bo.cut (3) (by simp) (by simp) ?_ ?_
       · simp [LeC, LeV, ren, bh, hm1]
       · simp [cb, ck, Cur.ren, ren, ah.zs, ah.cs]
     · refine rs3 @h7 @ah.zs.eq_1 @ah.cs.eq_1 ?_
       exact ⟨_, _, ⟨s, tm, hs, by omega, rfl, rfl⟩, aj.au rfl (by rfl)⟩
   · refine rs3 @h6 @ah.zs.eq_1 @ah.cs.eq_1 ?_
     exact ⟨_, _, ⟨s, tx, hs, by omega, rfl, rfl⟩, aj.au rfl (by rfl)⟩
end Go.Proofs
end
section
set_option maxRecDepth 100000
set_option maxHeartbeats 1000000
namespace Go.Proofs
open Go.Lv
structure LogV where
 Durable : ByteArray
 Pending : ByteArray
 Count : Int
def LogV.v (l : LogV) : V := .agg [.str l.Durable, .str l.Pending, .int .i64 l.Count]
def ag1 : V := .tup [.agg [.int .i64 0, .nilsl, .nilsl, .int .i64 0, .int .i64 0, .str ByteArray.empty, .str ByteArray.empty, .int .i64 0], .bool false]
theorem rf (K : List Int) (hk : K.length ≤ 16777216) (h : wB (fq K) = false) : Ctr Tryz.prog 24 [IntS.sl K] [] ag1 [] := by
 have cs := aax K hk h
 simp only [yo] at cs
 refine Ctr.intro Tryz.mixed Tryz.func24 rfl Tryz.aw1 ?_
 refine ev2 @Tryz.ntmps24 @Tryz.results24 ?_
 (first | refine ak.at (cs) ⟨leA, trivial⟩ ?_ | refine ai.at (cs) ⟨leA, trivial⟩ ?_)
 refine ev0 ?_
 exact aj.au rfl (by rfl)
theorem wy (K : List Int) (hk : K.length ≤ 16777216) (h : wB (fq K) = false) : Ctr Tryz.prog 23 [IntS.sl K] [] ag1 [] := by
 have cs := aif K hk h
 simp only [yo] at cs
 refine Ctr.intro Tryz.mixed Tryz.func23 rfl Tryz.aqh ?_
 refine ev2 @Tryz.ntmps23 @Tryz.results23 ?_
 (first | refine ak.at (cs) ⟨leA, trivial⟩ ?_ | refine ai.at (cs) ⟨leA, trivial⟩ ?_)
 refine ev0 ?_
 exact aj.au rfl (by rfl)
theorem xk (K : List Int) (hk : K.length ≤ 16777216) (h : wB (fq K) = true) : Ctr Tryz.prog 24 [IntS.sl K] [] (.tup [.agg [.int .i64 0, .osl 0 0 K.length 3, .osl 1 0 0 5, .int .i64 1, .int .i64 0, .str ByteArray.empty, .str ByteArray.empty, .int .i64 0], .bool true]) [some (rows bc.cs (cn K)), some []] := by
 have cs := aa4 K hk h
 refine Ctr.intro Tryz.mixed Tryz.func24 rfl Tryz.aw1 ?_
 refine ev2 @Tryz.ntmps24 @Tryz.results24 ?_
 (first | refine ak.at (cs) ⟨leA, trivial⟩ ?_ | refine ai.at (cs) ⟨leA, trivial⟩ ?_)
 refine ev0 ?_
 refine aj.pick [1, 2] (by decide) (fun j hj => by omega) (.inl ?_) ?_
 · first | rfl | (simp [ren, bb, posOf]; done)
 · simp only [az, List.map_cons, List.map_nil, bg, List.getElem?_cons_zero, List.getElem?_cons_succ, ab]
theorem acz : Ctr Tryz.prog 23 [IntS.sl []] [] (.tup [.agg [.int .i64 0, .nilsl, .nilsl, .int .i64 1, .int .i64 0, .str ByteArray.empty, .str ByteArray.empty, .int .i64 0], .bool true]) [] := by
 have cs := afy
 refine Ctr.intro Tryz.mixed Tryz.func23 rfl Tryz.aqh ?_
 refine ev2 @Tryz.ntmps23 @Tryz.results23 ?_
 (first | refine ak.at (cs) ⟨leA, trivial⟩ ?_ | refine ai.at (cs) ⟨leA, trivial⟩ ?_)
 refine ev0 ?_
 exact aj.au rfl (by rfl)
theorem afi (K : List Int) (hk : K.length ≤ 16777216) (hK : K ≠ []) (h : wB (fq K) = true) : Ctr Tryz.prog 23 [IntS.sl K] [] (.tup [.agg [.int .i64 0, .osl 0 0 K.length 3, .nilsl, .int .i64 1, .int .i64 0, .str ByteArray.empty, .str ByteArray.empty, .int .i64 0], .bool true]) [some (rows bc.cs (cn K))] := by
 have cs := ah1 K hk hK h
 refine Ctr.intro Tryz.mixed Tryz.func23 rfl Tryz.aqh ?_
 refine ev2 @Tryz.ntmps23 @Tryz.results23 ?_
 (first | refine ak.at (cs) ⟨leA, trivial⟩ ?_ | refine ai.at (cs) ⟨leA, trivial⟩ ?_)
 refine ev0 ?_
 refine aj.pick [1] (by decide) (fun j hj => by omega) (.inl ?_) ?_
 · first | rfl | (simp [ren, bb, posOf]; done)
 · simp only [az, List.map_cons, List.map_nil, bg, List.getElem?_cons_zero, List.getElem?_cons_succ, ab]
end Go.Proofs
end
