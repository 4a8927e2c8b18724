/-
  A part of the proof: texts put together by a program of the prover. Conditions: none.
-/
import Derived.Test.YtignogijdoaipaaGreatDoorZS4
import Derived.Test.YtignogijdoaipaaGreatDoorZS5
import Derived.Test.YtignogijdoaipaaGreatDoorZS7
import Derived.Lib.AtoiAllCases
import Derived.Lib.AtoiTie
import Derived.Lib.Join
import Derived.Lib.SplitLaws
import Derived.WalkKit
set_option linter.unusedSimpArgs false
set_option linter.unusedVariables false
section
set_option maxRecDepth 100000
namespace Go.Proofs
open Go.Lv
def gj (c : UInt8) : Bool := decide (48 ≤ c.toNat) && decide (c.toNat ≤ 57)
def acr (n : Nat) (c : UInt8) : Nat := n * 10 + (c.toNat - 48)
def j3 (n : Nat) (l : List UInt8) : Nat := l.foldl acr n
theorem ll (n : Nat) : j3 n [] = n := rfl
theorem ma (n : Nat) (c : UInt8) (l : List UInt8) : j3 n (c :: l) = j3 (acr n c) l := List.foldl_cons ..
theorem o1 (n : Nat) (c : UInt8) : acr n c = n * 10 + (c.toNat - 48) := rfl
theorem yt (x y : List UInt8) (n : Nat) : j3 n (x ++ y) = j3 (j3 n x) y := List.foldl_append ..
theorem atn (l : List UInt8) : ∀ n : Nat, n ≤ j3 n l := by
 induction l with
 | nil => intro n; rw [ll]; exact Nat.le_refl n
 | cons c l ih =>
  intro n
  have h := ih (acr n c)
  rw [ma]
  rw [o1] at h ⊢
  omega
theorem ag7 {u : Nat} (h : u < 10) : Lib.decDigits u = [UInt8.ofNat (48 + u)] := by rw [Lib.decDigits, dif_pos h]
theorem aio {u : Nat} (h : ¬ u < 10) : Lib.decDigits u = Lib.decDigits (u / 10) ++ [UInt8.ofNat (48 + u % 10)] := by rw [Lib.decDigits, dif_neg h]
theorem ag5 {d : Nat} (h : d < 10) : (UInt8.ofNat (48 + d)).toNat = 48 + d := by
 rw [UInt8.toNat_ofNat']; omega
theorem rv : ∀ k u, u < k → (Lib.decDigits u).all gj = true ∧ j3 0 (Lib.decDigits u) = u ∧ Lib.decDigits u ≠ []
 | 0, u, h => by omega
 | k + 1, u, h => by
  by_cases hu : u < 10
  · rw [ag7 hu]
    refine ⟨?_, ?_, by simp⟩
    · simp only [List.all_cons, List.all_nil, gj, ag5 hu, Bool.and_true, Bool.and_eq_true, decide_eq_true_eq]; omega
    · rw [ma, ll, o1, ag5 hu]; omega
  · obtain ⟨h1, h2, h3⟩ := rv k (u / 10) (by omega)
    have hd : u % 10 < 10 := by omega
    rw [aio hu]
    refine ⟨?_, ?_, by simp⟩
    · rw [List.all_append, h1]
      simp only [List.all_cons, List.all_nil, gj, ag5 hd, Bool.and_true, Bool.true_and, Bool.and_eq_true, decide_eq_true_eq]; omega
    · rw [yt, h2]
      rw [ma, ll, o1, ag5 hd]; omega
theorem ajv : ∀ (l : List UInt8) (n : Nat), l.all gj = true → j3 n l < 1000000000000000000 → Lib.parseUint10 n l = .ok (j3 n l)
 | [], n, _, _ => rfl
 | c :: l, n, h, hb => by
  simp only [List.all_cons, Bool.and_eq_true, gj, decide_eq_true_eq] at h
  have hle := atn l (acr n c)
  rw [ma] at hb ⊢
  have hst := o1 n c
  rw [Lib.parseUint10, if_pos h.1, if_neg (by omega), if_neg (by omega)]
  rw [← hst]
  exact ajv l _ (by simpa [gj] using h.2) hb
theorem zt {n : Int} (h0 : -999999999 ≤ n) (h1 : n ≤ 999999999) : Lib.atoiAll (num n).data.toList = .ok n := by
 have key : ∀ u : Nat, u ≤ 999999999 → Lib.parseMag (Lib.decDigits u) = .ok u := by
  intro u hu
  obtain ⟨d1, d2, d3⟩ := rv (u + 1) u (by omega)
  rw [Lib.parseMag, if_neg d3, ajv _ _ d1 (by omega), d2]
 rcases Int.lt_or_le n 0 with hn | hn
 · obtain ⟨u, rfl⟩ : ∃ u : Nat, n = -(u : Int) := ⟨n.natAbs, by omega⟩
   have e : Lib.itoa (-(u : Int)) = 45 :: Lib.decDigits u := by unfold Lib.itoa; rw [if_pos (by omega)]; simp
   show Lib.atoiAll (Lib.itoa (-(u : Int))) = _
   rw [e, Lib.atoiAll_minus, key u (by omega), Lib.signed, if_neg (by omega)]
 · obtain ⟨u, rfl⟩ : ∃ u : Nat, n = u := ⟨n.toNat, by omega⟩
   show Lib.atoiAll (Lib.itoa (u : Int)) = _
   rw [qk]
   obtain ⟨d1, d2, d3⟩ := rv (u + 1) u (by omega)
   cases hd : Lib.decDigits u with
   | nil => exact absurd hd d3
   | cons c l =>
    have hk := key u (by omega)
    rw [hd] at hk d1
    simp only [List.all_cons, Bool.and_eq_true, gj, decide_eq_true_eq] at d1
    rw [Lib.atoiAll_plain c l (by omega) (by omega), hk, Lib.signless, if_neg (by omega)]
theorem at2 {a b : Int} (ha : -999999999 ≤ a ∧ a ≤ 999999999) (hb : -999999999 ≤ b ∧ b ≤ 999999999) (h : num a = num b) : a = b := by
 have h1 := zt ha.1 ha.2
 rw [h, zt hb.1 hb.2] at h1
 injection h1 with h1
 exact h1.symm
def yq (s : ByteArray) (n : Int) : Prop := -999999 ≤ n ∧ n ≤ 999999 ∧ num n = s
open Classical in
noncomputable def cy (s : ByteArray) : Option Int := if h : ∃ n, yq s n then some h.choose else none
theorem acx {s : ByteArray} {n : Int} (h : yq s n) : cy s = some n := by
 have hx : ∃ n, yq s n := ⟨n, h⟩
 rw [cy, dif_pos hx]
 have h2 := hx.choose_spec
 congr 1
 exact at2 ⟨by have := h2.1; omega, by have := h2.2.1; omega⟩ ⟨by have := h.1; omega, by have := h.2.1; omega⟩ (h2.2.2.trans h.2.2.symm)
theorem rj {s : ByteArray} (h : ∀ n, ¬ yq s n) : cy s = none := by
 rw [cy, dif_neg (fun ⟨n, hn⟩ => h n hn)]
theorem xx {s : ByteArray} {n : Int} (h : cy s = some n) : yq s n := by
 unfold cy at h
 split at h
 · rename_i hx
   simp only [Option.some.injEq] at h
   rw [← h]; exact hx.choose_spec
 · cases h
theorem aci : ∀ (k u : Nat), u < 10 ^ (k + 1) → (Lib.decDigits u).length ≤ k + 1
 | 0, u, h => by rw [ag7 (by omega)]; simp
 | k + 1, u, h => by
  by_cases hu : u < 10
  · rw [ag7 hu]; simp
  · have h2 : u / 10 < 10 ^ (k + 1) := by rw [Nat.pow_succ] at h; omega
    have := aci k (u / 10) h2
    rw [aio hu, List.length_append]
    simp only [List.length_cons, List.length_nil]; omega
theorem am8 {n : Int} (h0 : -999999 ≤ n) (h1 : n ≤ 999999) : (num n).size ≤ 7 := by
 rcases Int.lt_or_le n 0 with hn | hn
 · obtain ⟨u, rfl⟩ : ∃ u : Nat, n = -(u : Int) := ⟨n.natAbs, by omega⟩
   have e : Lib.itoa (-(u : Int)) = 45 :: Lib.decDigits u := by unfold Lib.itoa; rw [if_pos (by omega)]; simp
   have := aci 5 u (by omega)
   show (Lib.itoa (-(u : Int))).toArray.size ≤ 7
   rw [e]; simp; omega
 · obtain ⟨u, rfl⟩ : ∃ u : Nat, n = u := ⟨n.toNat, by omega⟩
   have := aci 5 u (by omega)
   show (Lib.itoa (u : Int)).toArray.size ≤ 7
   rw [qk]; simp; omega
theorem alg {s : ByteArray} {n : Int} (h : cy s = some n) : s.size ≤ 7 := by
 obtain ⟨h1, h2, h3⟩ := xx h
 rw [← h3]; exact am8 h1 h2
theorem xy {c : UInt8} {s : ByteArray} {j : Nat} : ∀ (m : Nat), j ≤ m → m ≤ s.size → (∀ t (ht : t < s.size), j ≤ t → t < m → (s[t]'ht == c) = false) → gb c s m = gb c s j
 | 0, h1, _, _ => by rw [show j = 0 by omega]
 | m + 1, h1, h2, h => by
  by_cases e : j = m + 1
  · rw [e]
  · rw [q8 (show m < s.size by omega) (h m (by omega) (by omega) (by omega))]
    exact xy m (by omega) (by omega) (fun t ht h3 h4 => h t ht h3 (by omega))
theorem ext_get {s : ByteArray} {j t : Nat} (ht : j + t < s.size) : (s.extract j s.size).data.toList[t]? = some (s[j + t]'ht) := by
 have hl : s.data.toList.length = s.size := gf s
 rw [ec, ← hl, List.take_length, List.getElem?_drop, List.getElem?_eq_getElem (by rw [hl]; exact ht), l6 s ht]
theorem aiu (c : UInt8) (s : ByteArray) : ∀ (k j : Nat), j ≤ s.size → (gb c s j).2 = j → Lib.countB (s.extract j s.size) ⟨#[c]⟩ = k → gi c s = (gb c s j).1 ++ Lib.splitB ⟨#[c]⟩ 0 k (s.extract j s.size)
 | k, j, hj, h2, hk => by
  have hx : Lib.indexB (s.extract j s.size) ⟨#[c]⟩ = Lib.indexByte (s.extract j s.size).data.toList c := Lib.index_one _ _
  have hsz : (s.extract j s.size).size = s.size - j := by rw [ByteArray.size_extract]; omega
  rcases Lib.indexB_cases (s.extract j s.size) ⟨#[c]⟩ with hm | ⟨i, hm, hroom⟩
  · have hnone := Lib.indexByte_none (hx.symm.trans hm)
    rw [Lib.splitB_miss _ _ _ _ hm, gi, xy s.size hj (Nat.le_refl _) (fun t ht h3 _ => by
     have h4 := hnone (t - j)
     rw [ext_get (by omega)] at h4
     have e : j + (t - j) = t := by omega
     simp only [e] at h4
     simpa using h4), h2]
  · have h1 : (⟨#[c]⟩ : ByteArray).size = 1 := rfl
    obtain ⟨g1, g2⟩ := Lib.indexByte_some (hx.symm.trans hm)
    rw [h1, hsz] at hroom
    have hi : j + i < s.size := by omega
    rw [ext_get hi] at g1
    have hc : (s[j + i]'hi == c) = true := by simpa using g1
    have hsk : gb c s (j + i) = gb c s j := xy (j + i) (by omega) (by omega) (fun t ht h3 h4 => by
     have h5 := g2 (t - j) (by omega)
     rw [ext_get (by omega)] at h5
     have e : j + (t - j) = t := by omega
     simp only [e] at h5
     simpa using h5)
    have hst := ob hi hc
    rw [hsk, h2] at hst
    have hcount := Lib.countB_hit (s.extract j s.size) ⟨#[c]⟩ i (by rw [h1]; omega) hm
    match k, hk with
    | 0, hk => rw [hk] at hcount; omega
    | k + 1, hk =>
     have hee : (s.extract j s.size).extract (i + (⟨#[c]⟩ : ByteArray).size) (s.extract j s.size).size = s.extract (j + i + 1) s.size := by
      rw [h1, hsz]
      apply s4
      rw [ec, ec, ec]
      have hl : s.data.toList.length = s.size := gf s
      rw [← hl, List.take_length, List.take_of_length_le (by simp), List.drop_drop]
      congr 1
     have he0 : (s.extract j s.size).extract 0 (i + 0) = s.extract j (j + i) := by
      apply s4
      rw [ec, ec, ec, List.drop_zero]
      have hl : s.data.toList.length = s.size := gf s
      rw [← hl, List.take_length, List.drop_take, Nat.add_zero, Nat.add_sub_cancel_left]
     have ih := aiu c s k (j + i + 1) (by omega) (by rw [hst]) (by rw [← hee]; omega)
     rw [Lib.splitB_hit _ _ _ _ _ hm, ih, hst, hee, he0, List.append_assoc]
     rfl
theorem ain (c : UInt8) (s : ByteArray) : Lib.splitB ⟨#[c]⟩ 0 (Lib.countB s ⟨#[c]⟩) s = gi c s := by
 have h := aiu c s (Lib.countB (s.extract 0 s.size) ⟨#[c]⟩) 0 (Nat.zero_le _) rfl rfl
 have e : s.extract 0 s.size = s := by simp
 rw [e] at h
 rw [h]; rfl
def nr : List Int → ByteArray
 | [] => ⟨#[]⟩
 | [n] => num n
 | n :: m :: l => num n ++ (⟨#[32]⟩ ++ nr (m :: l))
def a2k : ByteArray := ⟨#[110, 111, 110, 101]⟩
def wQ : ByteArray := ⟨#[63]⟩
def lg (L : List Int) : ByteArray := if L = [] then a2k else nr L
theorem aco : ∀ (L : List Int) (n : Int), L ≠ [] → nr (L ++ [n]) = nr L ++ ⟨#[32]⟩ ++ num n
 | [], n, h => absurd rfl h
 | [a], n, _ => by
  show num a ++ (⟨#[32]⟩ ++ num n) = num a ++ ⟨#[32]⟩ ++ num n
  rw [ByteArray.append_assoc]
 | a :: b :: l, n, _ => by
  have ih := aco (b :: l) n (by simp)
  show num a ++ (⟨#[32]⟩ ++ nr ((b :: l) ++ [n])) = num a ++ (⟨#[32]⟩ ++ nr (b :: l)) ++ ⟨#[32]⟩ ++ num n
  rw [ih]
  simp only [ByteArray.append_assoc]
theorem age : ∀ L : List Int, (nr L).data.toList = Lib.join ((L.map num).map (·.data.toList)) [32]
 | [] => rfl
 | [a] => by simp [nr, Lib.join]
 | a :: b :: l => by
  have ih := age (b :: l)
  rw [nr, l5, l5, ih]
  simp [Lib.join, List.intercalate, List.intersperse]
theorem xu : ∀ L : List Int, (∀ n ∈ L, bt n) → (nr L).size ≤ 22 * L.length
 | [], _ => Nat.le_refl _
 | [a], h => by
  have := aaa (h a (by simp))
  simp only [nr, List.length_cons, List.length_nil]; omega
 | a :: b :: l, h => by
  have ih := xu (b :: l) (fun n hn => h n (by simp at hn ⊢; exact .inr hn))
  have h1 := aaa (h a (by simp))
  have h2 : (⟨#[32]⟩ : ByteArray).size = 1 := rfl
  rw [nr, ByteArray.size_append, ByteArray.size_append]
  simp only [List.length_cons] at ih ⊢; omega
end Go.Proofs
end
section
set_option maxRecDepth 100000
set_option maxHeartbeats 4000000
namespace Go.Proofs
open Go.Lv Go.RowKit
theorem aso {w : World} {m : Nat → Nat} {h : Hp} {av : Nat → Prop} {vs : Array Value} {s t : ByteArray} (hsz : vs.size = [V.str s, V.str t].length)
 (ha : ∀ i (hi : i < [V.str s, V.str t].length), RV w m h av true (vs.getD i Go.undef) [V.str s, V.str t][i]) : vs = #[.string s, .string t] := by
 obtain ⟨v, u, rfl⟩ : ∃ v u, vs = #[v, u] := by
  match vs, hsz with
  | ⟨[v, u]⟩, _ => exact ⟨v, u, rfl⟩
 have h0 := ha 0 (by simp)
 have h1 := ha 1 (by simp)
 simp only [List.getElem_cons_zero, List.getElem_cons_succ] at h0 h1
 obtain rfl : v = .string s := by
  simp at h0; cases h0; rfl
 obtain rfl : u = .string t := by
  simp at h1; cases h1; rfl
 rfl
theorem adt {w : World} {m : Nat → Nat} {av : Nat → Prop} : RH w m [] av := ⟨fun i j ci cj h => by simp at h, fun id cs h => by simp at h, fun id cs h => by simp at h⟩
theorem aao {O : Nat → Prop} {w w' : World} (hb : Below w.heap.size w w') : Ext O w w' :=
 ⟨hb.os, hb.tape, hb.output, hb.size, fun g hg _ => hb.block g hg, fun g hg => Nat.le_of_eq (im (hb.block g hg)).symm⟩
theorem apk (s : ByteArray) (c : UInt8) (hs : s.size ≤ 16777216) : Ctr Tryz.prog 45 [.str s, .str ⟨#[c]⟩] [] (.osl 0 0 (gi c s).length 1) [some (rows StringS.cs (gi c s))] := by
 refine ⟨Tryz.a2d, fun w vs m av hH hav hgl hsz ha => ?_⟩
 obtain rfl := aso hsz ha
 obtain ⟨mv, hm, m0, rfl⟩ := hgl.var (g := 0) (e := false) (by simp [ae5])
 refine (Tryz.strings_Split s ⟨#[c]⟩ m0 w (by omega) hm (Nat.le_refl 1)).mono ?_
 rintro e w' ⟨rfl, rfl⟩
 rw [ain]
 have hl : Lib.countB s ⟨#[c]⟩ + 1 = (gi c s).length := by
  rw [← ain, Lib.splitB_all ⟨#[c]⟩ (Nat.le_refl 1) 0 _ _ rfl]
 rw [hl]
 generalize gi c s = L
 have hrl : (rows StringS.cs L).length = L.length := by rw [bb, Nat.mul_one]
 have hrow : ∀ i (hi : i < (rows StringS.cs L).length), ∃ x, (rows StringS.cs L)[i] = .str x ∧ ((L.map Value.string).toArray).getD i Go.undef = .string x := by
  intro i hi
  have hi' : i < L.length := by omega
  refine ⟨L[i], ?_, ?_⟩
  · have := bw StringS.csl hi'
    rw [Nat.mul_one] at this
    have h2 : (rows StringS.cs L)[i]? = some (.str L[i]) := by
     have h3 := congrArg (·[0]?) this
     simpa [StringS.cs, List.getElem?_take] using h3
    rw [List.getElem?_eq_getElem hi] at h2
    exact Option.some.inj h2
  · simp [hi']
 have hnew := heap_alloc_new w (.cells (L.map Value.string).toArray 9)
 refine ⟨_, fun _ => w.heap.size, rfl, Ext.alloc _ _ _, ⟨fun i j ci cj h1 h2 _ => ?_, fun id cs h => .inr ⟨id, cs, h, rfl⟩, fun id cs h => ?_⟩, ?_, fun id cs h => .inr ⟨Nat.zero_le _, Nat.le_refl _⟩⟩
 · have e1 : i < 1 := by have := (List.getElem?_eq_some_iff.1 h1).1; simpa using this
   have e2 : j < 1 := by have := (List.getElem?_eq_some_iff.1 h2).1; simpa using this
   omega
 · have e1 : id < 1 := by have := (List.getElem?_eq_some_iff.1 h).1; simpa using this
   obtain rfl : id = 0 := by omega
   simp only [List.getElem?_cons_zero, Option.some.injEq] at h
   subst h
   refine .inl ⟨_, _, _, hnew, y8.zero _, by simp [hrl], fun i hi => ?_⟩
   obtain ⟨x, h1, h2⟩ := hrow i hi
   rw [h1, h2]
   exact .str _
 · refine .osl 0 0 L.length L.length 1 _ ⟨rfl, mg _⟩ (by simp [hrl]) (Nat.le_refl _) ?_
   simp only [db, hnew]
   simp
theorem aue (L : List ByteArray) (hL : (Lib.join (L.map (·.data.toList)) [32]).length ≤ 140737488355328) (hl : L.length ≤ 16777216) : Ctr Tryz.prog 146 [StringS.sl L, .str ⟨#[32]⟩] [] (.str ⟨(Lib.join (L.map (·.data.toList)) [32]).toArray⟩) [] := by
 refine ⟨Tryz.ax2, fun w vs m av hH hav hgl hsz ha => ?_⟩
 obtain ⟨v, u, rfl⟩ : ∃ v u, vs = #[v, u] := by
  match vs, hsz with
  | ⟨[v, u]⟩, _ => exact ⟨v, u, rfl⟩
 have h0 := ha 0 (by simp)
 have h1 := ha 1 (by simp)
 simp only [List.getElem_cons_zero, List.getElem_cons_succ] at h0 h1
 obtain rfl : u = .string ⟨#[32]⟩ := by
  simp at h1; cases h1; rfl
 have hrl : (rows StringS.cs L).length = L.length := by rw [bb, Nat.mul_one]
 have hv : (#[v, Value.string ⟨#[32]⟩] : Array Value).getD 0 Go.undef = v := rfl
 rw [hv] at h0
 generalize hy : StringS.sl L = y at h0
 cases h0 with
 | slz a c wd =>
  have e0 : L = [] := by
   simp only [StringS.sl, V.sl.injEq] at hy
   exact List.length_eq_zero_iff.1 hy.1
  subst e0
  refine (Tryz.strings_Join_none a c ⟨#[32]⟩ w).mono ?_
  rintro e w' ⟨rfl, rfl⟩
  exact ⟨_, m, rfl, Ext.refl _ _, adt, .str _, fun id cs h => by simp at h⟩
 | sl b off n cap wd cs vals hl' ha' hc hv' hr =>
  simp only [StringS.sl, V.sl.injEq] at hy
  obtain ⟨rfl, rfl, rfl⟩ := hy
  by_cases he : L = []
  · subst he
    refine (Tryz.strings_Join_none _ cap ⟨#[32]⟩ w).mono ?_
    rintro e w' ⟨rfl, rfl⟩
    exact ⟨_, m, rfl, Ext.refl _ _, adt, .str _, fun id cs h => by simp at h⟩
  have hpos : 0 < L.length := List.length_pos_iff.2 he
  have hcells : ∀ (j : Nat) x, L[j]? = some x → w.cell? ⟨b, off + j, none⟩ = some (.string x) := by
   intro j x hj
   obtain ⟨hj1, hj2⟩ := List.getElem?_eq_some_iff.1 hj
   have hi : j < (rows StringS.cs L).length := by omega
   have h2 : (rows StringS.cs L)[j] = .str x := by
    have := bw StringS.csl hj1
    rw [Nat.mul_one] at this
    have h3 := congrArg (·[0]?) this
    have h4 : (rows StringS.cs L)[j]? = some (.str L[j]) := by simpa [StringS.cs, List.getElem?_take] using h3
    rw [List.getElem?_eq_getElem hi, hj2] at h4
    exact Option.some.inj h4
   have h5 := hr j hi
   rw [h2] at h5
   rw [hv' j hi]
   generalize vals j = vv at h5
   cases h5
   rfl
  have hbk : b < w.heap.size := World.block_lt_of_cell? w ⟨b, off + 0, none⟩ (hcells 0 L[0] (List.getElem?_eq_getElem hpos))
  refine (Tryz.strings_Join b off cap L ⟨#[32]⟩ w hcells hbk (by omega) hc hL).mono ?_
  rintro e w' ⟨rfl, hb⟩
  exact ⟨_, m, rfl, aao hb, adt, .str _, fun id cs h => by simp at h⟩
 | _ => simp [StringS.sl] at hy
end Go.Proofs
end
section
namespace Go.Lv
theorem Ctr.uw {P : Program} {f : FuncId} {args : List V} {r r' : V} {hout hout' : Hp} (h : Ctr P f args [] r hout) (hw : ak 0 r hout r' hout') : Ctr P f args [] r' hout' :=
 ⟨h.1, fun w vs m av h1 h2 h3 h4 h5 => (h.2 w vs m av h1 h2 h3 h4 h5).mono fun e w' ⟨v, m', g1, g2, g3, g4, g5⟩ => by
  obtain ⟨m2, k1, k2, k3⟩ := hw w m [] av w' m' v rfl (Nat.zero_le _) h2 g2.size g3 g4 g5
  exact ⟨v, m2, g1, g2, k1, k2, k3⟩⟩
section
variable {α : Type} {cs : α → List V} {w : Nat} [nf cs w]
def ake (cs : α → List V) (w : Nat) (R : Option (List α)) : V := .tup [.sl (R.getD []).length w (rows cs (R.getD [])), .bool R.isSome]
theorem frzN (R : Option (List α)) : ak 0 (sw w R) (k9 cs R) (ake cs w R) [] := by
 cases R with
 | none =>
  intro w0 m0 h0 av0 W m val e1 e2 hlt hle H hx hi
  refine ⟨m, H, ?_, hi⟩
  change RV W m [] _ true val (.tup [.nilsl, .bool false]) at hx
  cases hx with
  | tup a vs ha hra =>
   refine .tup _ _ ha (fun i hi => ?_)
   match i, hi with
   | 0, _ => exact (hra 0 (by simp)).leE LeE.nil
   | 1, _ => exact hra 1 (by simp)
 | some L =>
  refine ak.pick [] (by decide) (fun j hj => by omega) (.inl ?_) rfl
  simp [ake, sw, k9, ren, bc, posOf, nj, cr, ae]
theorem frzO (R : Option (List α)) : ak 0 (xc w R) (pb cs R) (ake cs w R) [] := by
 cases R with
 | none =>
  refine ak.pick [] (by decide) (fun j hj => by omega) (.inl ?_) rfl
  simp [ake, xc, pb, ren, bc, posOf, nj, rows]
 | some L =>
  refine ak.pick [] (by decide) (fun j hj => by omega) (.inl ?_) rfl
  simp [ake, xc, pb, ren, bc, posOf, nj, cr, ae]
end
end Go.Lv
end
section
set_option maxRecDepth 100000
namespace Go.Proofs
open Go.Lv
theorem uo (c : UInt8) (s : ByteArray) : ∀ (i : Nat) (x : ByteArray), x ∈ (gb c s i).1 → x.size ≤ s.size
 | 0, x, h => by simp [gb] at h
 | i + 1, x, h => by
  by_cases hi : i < s.size
  · cases hc : (s[i]'hi == c) with
    | true =>
     rw [ob hi hc] at h
     rcases List.mem_append.1 h with h | h
     · exact uo c s i x h
     · simp only [List.mem_singleton] at h
       subst h
       rw [ByteArray.size_extract]; omega
    | false =>
     rw [q8 hi hc] at h
     exact uo c s i x h
  · rw [gb, dif_neg hi] at h
    exact uo c s i x h
theorem n7 (c : UInt8) (s : ByteArray) {x : ByteArray} (h : x ∈ gi c s) : x.size ≤ s.size := by
 rw [gi] at h
 rcases List.mem_append.1 h with h | h
 · exact uo c s _ x h
 · simp only [List.mem_singleton] at h
   subst h
   rw [ByteArray.size_extract]; omega
theorem aaz (s : ByteArray) (c : UInt8) (hs : s.size ≤ 16777216) : Ctr Tryz.prog 45 [.str s, .str ⟨#[c]⟩] [] (StringS.sl (gi c s)) [] :=
 (apk s c hs).uw (by
  refine ak.pick [] (by decide) (fun j hj => by omega) (.inl ?_) rfl
  have e := cr (cs := StringS.cs) (gi c s)
  simp [ren, bc, posOf, nj, ae] at e ⊢
  exact e.symm)
theorem wu (s : ByteArray) (c : UInt8) (hs : s.size ≤ 16777216) : Ctr Tryz.prog 46 [.str s, .int .u8 c.toNat] [] (StringS.sl (gi c s)) [] :=
 (tv s c hs).uw (by
  refine ak.pick [] (by decide) (fun j hj => by omega) (.inl ?_) rfl
  have e := cr (cs := StringS.cs) (gi c s)
  simp [ren, bc, posOf, nj, ae] at e ⊢
  exact e.symm)
end Go.Proofs
end
section
set_option maxRecDepth 100000
set_option maxHeartbeats 4000000
namespace Go.Proofs
open Go.Lv Go.RowKit
noncomputable def j1 (s : ByteArray) : V := .tup [.int .i64 ((cy s).getD 0), .bool (cy s).isSome]
theorem ahy {w w' : World} (h : GL w (fun _ => False)) (hE : Ext (fun _ => False) w w') : GL w' (fun _ => False) := by
 refine ⟨fun p hp => ?_, fun p hp => ?_⟩
 · obtain ⟨h1, T, fr, h2⟩ := h.1 p hp
   exact ⟨h1, T, fr, by rw [hE.block _ (Array.getElem?_eq_some_iff.1 h2).1 (fun h => h)]; exact h2⟩
 · obtain ⟨h1, C, T, fr, v, h2, h3⟩ := h.2 p hp
   exact ⟨h1, C, T, fr, v, by rw [hE.block _ (Array.getElem?_eq_some_iff.1 h2).1 (fun h => h)]; exact h2, h3⟩
theorem aob {P : Program} {f : FuncId} {args : List V} {r : V} (h : Ctr P f args [] r []) {w : World} (hgl : GL w (fun _ => False)) {vs : Array Value} (hsz : vs.size = args.length)
 (ha : ∀ i (hi : i < args.length), RV w (fun _ => 0) [] (fun _ => False) true (vs.getD i Go.undef) args[i]) :
 Calls P f vs w fun e w' => ∃ v, e = .returned v ∧ Ext (fun _ => False) w w' ∧ RV w' (fun _ => 0) [] (fun _ => False) true v r := by
 refine (h.2 w vs (fun _ => 0) (fun _ => False) adt (fun b hb => hb.elim) hgl hsz ha).mono ?_
 rintro e w' ⟨v, m', rfl, hE, _, hR, _⟩
 refine ⟨v, rfl, hE.mono (fun b _ ⟨id, cs, h, _⟩ => by simp at h), ?_⟩
 exact RV.step (w := w') (w' := w') (m := m') (m' := fun _ => 0) (h := []) (h' := []) (av := avm (fun _ => False) m' []) (av' := fun _ => False) (fun b off v hb hc => ⟨fun h => h, hc⟩) (fun id c hid => by simp at hid) hR
theorem aez (n : Int) (hn : bt n) : Ctr Tryz.prog 108 [.int .i64 n] [] (.tup [.str (if fb n (-999999) 999999 = true then num n else ⟨#[]⟩), .bool (fb n (-999999) 999999)]) [] := by
 refine Ctr.intro Tryz.mixed Tryz.func108 rfl Tryz.aye ?_
 refine ev2 @Tryz.ntmps108 @Tryz.results108 ?_
 (have ct := j8 n (-999999) 999999; (first | refine al.at ct ⟨leA, leA, leA, trivial⟩ ?_ | refine ai.at ct ⟨leA, leA, leA, trivial⟩ ?_); clear ct)
 refine rn0 ?_
 refine ax.split (fun h => ?_) (fun h => ?_) <;> refine rn1 @h ?_
 · have h' : fb n (-999999) 999999 = false := by simpa using h
   exact ak.au (by rw [h']; rfl) (by rfl)
 · have h' : fb n (-999999) 999999 = true := by simpa using h
   (first | refine al.at (n8 n hn) ⟨leA, trivial⟩ ?_ | refine ai.at (n8 n hn) ⟨leA, trivial⟩ ?_)
   refine rn0 ?_
   exact ak.au (by rw [h']; rfl) (by rfl)
theorem si (n : Int) (hn : bt n) {w : World} (hgl : GL w (fun _ => False)) : Calls Tryz.prog 108 #[.int .i64 n] w fun e w' =>
 e = .returned (.tuple #[.string (if fb n (-999999) 999999 = true then num n else ⟨#[]⟩), .bool (fb n (-999999) 999999)]) ∧ Ext (fun _ => False) w w' := by
 refine (aob (aez n hn) hgl rfl (fun i hi => ?_)).mono ?_
 · have e : i = 0 := by simp at hi; omega
   subst e
   exact .int _ _
 · rintro e w' ⟨v, rfl, hE, hR⟩
   refine ⟨?_, hE⟩
   cases hR with
   | tup a a' ha hra =>
    have h0 := hra 0 (by simp)
    have h1 := hra 1 (by simp)
    simp only [List.getElem_cons_zero, List.getElem_cons_succ] at h0 h1
    match a, ha with
    | ⟨[x, y]⟩, _ =>
     have e0 : (⟨[x, y]⟩ : Array Value).getD 0 Go.undef = x := rfl
     have e1 : (⟨[x, y]⟩ : Array Value).getD 1 Go.undef = y := rfl
     rw [e0] at h0
     rw [e1] at h1
     generalize (if fb n (-999999) 999999 = true then num n else (⟨#[]⟩ : ByteArray)) = tx at *
     generalize fb n (-999999) 999999 = bx at *
     cases h0
     cases h1
     rfl
theorem agw (s : ByteArray) (hs : s.size ≤ 281474976710656) {w : World} (hgl : GL w (fun _ => False)) : Calls Tryz.prog 70 #[.string s] w fun e w' =>
 e = .returned (.tuple #[.int .i64 ((cy s).getD 0), .bool (cy s).isSome]) ∧ Ext (fun _ => False) w w' := by
 by_cases hl : s.size ≤ 7
 rotate_left
 · have hno : cy s = none := by
    cases h : cy s with
    | none => rfl
    | some n => exact absurd (alg h) hl
   have hd : decide ((s.size : Int) > 7) = true := decide_eq_true (by omega)
   rw [hno]
   go_enter Tryz.func70, Tryz.ntmps70
   go_wp2
   go_ret2
   exact ⟨rfl, Ext.refl _ _⟩
 have hd : decide ((s.size : Int) > 7) = false := decide_eq_false (by omega)
 cases ha : Lib.atoiAll s.data.toList with
 | range =>
  exfalso
  rw [Lib.atoiAll_short _ (by have := gf s; omega)] at ha
  cases hx : Lib.atoi s.data.toList <;> rw [hx] at ha <;> cases ha
 | ok v =>
  obtain ⟨vb0, vb1⟩ := Lib.atoiAll_bounds ha
  have hvi : bt v := ⟨vb0, vb1⟩
  have hun : ∀ n, yq s n → n = v := fun n hn => by
   have := zt (n := n) (by have := hn.1; omega) (by have := hn.2.1; omega)
   rw [hn.2.2, ha] at this
   injection this with this
   exact this.symm
  have hW : ∀ W1, (W1 = w ∨ ∃ t, W1 = Lib.bytesWorld w 5 t) → Ext (fun _ => False) w W1 := by
   rintro W1 (rfl | ⟨t, rfl⟩)
   · exact Ext.refl _ _
   · exact aao (Lib.bytesWorld_below _ _ _)
  cases hin : fb v (-999999) 999999 with
  | false =>
   have hno : cy s = none := rj (fun n hn => by
    have h1 := hun n hn
    subst h1
    have : fb n (-999999) 999999 = true := gr.2 ⟨hn.1, hn.2.1⟩
    rw [hin] at this
    cases this)
   have hF := fun {W : World} (h : GL W (fun _ => False)) => si v hvi h
   simp only [hin] at hF
   rw [hno]
   go_enter Tryz.func70, Tryz.ntmps70
   go_wp2_with (go_at_call 107; refine (Tryz.strconv_Atoi_ok s (by omega) v ha _).mono ?_; rintro e W1 ⟨rfl, hw1⟩)
   have hE1 := hW W1 hw1
   go_wp2_with (go_at_call 108; refine (hF (ahy hgl hE1)).mono ?_; rintro e W2 ⟨rfl, hE⟩)
   go_wp2
   go_ret2
   exact ⟨rfl, hE1.trans hE⟩
  | true =>
   have hF := fun {W : World} (h : GL W (fun _ => False)) => si v hvi h
   simp only [hin, if_true] at hF
   by_cases hq : num v = s
   · have hp : yq s v := ⟨(gr.1 hin).1, (gr.1 hin).2, hq⟩
     rw [acx hp]
     rw [hq] at hF
     go_enter Tryz.func70, Tryz.ntmps70
     go_wp2_with (go_at_call 107; refine (Tryz.strconv_Atoi_ok s (by omega) v ha _).mono ?_; rintro e W1 ⟨rfl, hw1⟩)
     have hE1 := hW W1 hw1
     go_wp2_with (go_at_call 108; refine (hF (ahy hgl hE1)).mono ?_; rintro e W2 ⟨rfl, hE⟩)
     go_wp2
     go_ret2
     exact ⟨rfl, hE1.trans hE⟩
   · have hno : cy s = none := rj (fun n hn => by
      have h1 := hun n hn
      subst h1
      exact hq hn.2.2)
     have hq2 : ((num v).toList == s.toList) = false := by rw [iy]; exact decide_eq_false hq
     rw [hno]
     go_enter Tryz.func70, Tryz.ntmps70
     go_wp2_with (go_at_call 107; refine (Tryz.strconv_Atoi_ok s (by omega) v ha _).mono ?_; rintro e W1 ⟨rfl, hw1⟩)
     have hE1 := hW W1 hw1
     go_wp2_with (go_at_call 108; refine (hF (ahy hgl hE1)).mono ?_; rintro e W2 ⟨rfl, hE⟩)
     go_wp2
     all_goals first | (go_ret2; exact ⟨rfl, hE1.trans hE⟩) | (exfalso; simp_all; done)
 | _ =>
  have hno : cy s = none := rj (fun n hn => by
   have := zt (n := n) (by have := hn.1; omega) (by have := hn.2.1; omega)
   rw [hn.2.2, ha] at this
   cases this)
  obtain ⟨ev, hv, hev⟩ := hgl.var (g := 1) (e := true) (by simp [ae5])
  rw [hno]
  go_enter Tryz.func70, Tryz.ntmps70
  go_wp2_with (go_at_call 107; refine (Tryz.strconv_Atoi_syntax s hs ha (by intro h; cases h) (by intro v h; cases h) ev _ hv hev).mono ?_; rintro e W1 ⟨N, rfl, hN1, hN2, hb⟩)
  have hE1 : Ext (fun _ => False) w W1 := aao hb
  go_wp2_with (go_at_call 108; refine (si 0 ⟨by omega, by omega⟩ (ahy hgl hE1)).mono ?_; rintro e W2 ⟨rfl, hE⟩)
  go_wp2
  go_ret2
  exact ⟨rfl, hE1.trans hE⟩
theorem y9 (s : ByteArray) (hs : s.size ≤ 281474976710656) : Ctr Tryz.prog 70 [.str s] [] (j1 s) [] := by
 refine ⟨Tryz.a1q, fun w vs m av hH hav hgl hsz ha => ?_⟩
 obtain ⟨v, rfl⟩ : ∃ v, vs = #[v] := by
  match vs, hsz with
  | ⟨[v]⟩, _ => exact ⟨v, rfl⟩
 have h0 := ha 0 (by simp)
 simp only [List.getElem_cons_zero] at h0
 obtain rfl : v = .string s := by
  simp at h0; cases h0; rfl
 refine (agw s hs (hgl.mono (fun b hb => hb.elim))).mono ?_
 rintro e w' ⟨rfl, hE⟩
 refine ⟨_, m, rfl, hE.mono (fun b _ h => h.elim), adt, ?_, fun id cs h => by simp at h⟩
 refine .tup _ _ rfl (fun i hi => ?_)
 match i, hi with
 | 0, _ => exact .int _ _
 | 1, _ => exact .bool _
theorem af8 {s : ByteArray} {n : Int} (h : yq s n) : s.data.toList = if n < 0 then 45 :: Lib.decDigits n.natAbs else Lib.decDigits n.toNat := by
 rw [← h.2.2]
 show Lib.itoa n = _
 rfl
theorem a2h {u : Nat} {l : List UInt8} {c : UInt8} (h : Lib.decDigits u = c :: l) : (c == 45) = false := by
 have := (rv (u + 1) u (by omega)).1
 rw [h] at this
 simp only [List.all_cons, Bool.and_eq_true, gj, decide_eq_true_eq] at this
 rw [beq_eq_false_iff_ne]
 intro e
 subst e
 have : (45 : UInt8).toNat = 45 := rfl
 omega
theorem atz : ∀ (l : List UInt8) (n : Nat), l.all gj = true → j3 n l + 1 ≤ (n + 1) * 10 ^ l.length := by
 intro l
 induction l with
 | nil => intro n _; rw [ll]; simp
 | cons c l ih =>
  intro n h
  simp only [List.all_cons, Bool.and_eq_true] at h
  have h1 := ih (acr n c) h.2
  have h2 := h.1
  simp only [gj, Bool.and_eq_true, decide_eq_true_eq] at h2
  rw [ma, List.length_cons, Nat.pow_succ]
  have h3 : acr n c + 1 ≤ (n + 1) * 10 := by rw [o1]; omega
  have h4 := Nat.mul_le_mul_right (10 ^ l.length) h3
  have e : (n + 1) * (10 ^ l.length * 10) = (n + 1) * 10 * 10 ^ l.length := by rw [Nat.mul_comm (10 ^ l.length) 10, ← Nat.mul_assoc]
  omega
theorem l7 {l : List UInt8} (h : l.all gj = true) (hl : l.length ≤ 6) : j3 0 l ≤ 999999 := by
 have h1 := atz l 0 h
 have h2 : (10 : Nat) ^ l.length ≤ 10 ^ 6 := Nat.pow_le_pow_right (by decide) hl
 omega
structure qt (s t : ByteArray) : Prop where
 rd : ∀ n, yq s n → t.data.toList = Lib.decDigits n.natAbs ∧ (n < 0 ↔ t.size < s.size)
 le : t.size ≤ s.size
theorem akg {s : ByteArray} (h1 : 1 < s.size) (h2 : (s[0]'(by omega) == 45) = true) : qt s (s.extract 1 s.size) := by
 have e0 : s.data.toList = s[0]'(by omega) :: s.data.toList.drop 1 := by
  have := List.drop_eq_getElem_cons (l := s.data.toList) (i := 0) (by rw [gf]; omega)
  rw [List.drop_zero, l6 s (by omega)] at this
  exact this
 have et : (s.extract 1 s.size).data.toList = s.data.toList.drop 1 := by
  have hl : s.data.toList.length = s.size := gf s
  rw [ec, ← hl, List.take_length]
 refine ⟨fun n hn => ?_, by rw [ByteArray.size_extract]; omega⟩
 have hL := af8 hn
 split at hL
 · rename_i hneg
   rw [et, hL]
   refine ⟨rfl, fun _ => by rw [ByteArray.size_extract]; omega, fun _ => hneg⟩
 · exfalso
   rw [e0] at hL
   have := a2h hL.symm
   rw [h2] at this
   cases this
theorem afd {s : ByteArray} (h : s.size ≤ 1 ∨ ∃ h1 : 1 < s.size, (s[0]'(by omega) == 45) = false) : qt s s := by
 refine ⟨fun n hn => ?_, Nat.le_refl _⟩
 have hL := af8 hn
 have hl : s.data.toList.length = s.size := gf s
 split at hL
 · rename_i hneg
   exfalso
   have hd := (rv (n.natAbs + 1) n.natAbs (by omega)).2.2
   have h3 : 0 < (Lib.decDigits n.natAbs).length := List.length_pos_iff.2 hd
   have h4 : s.size = (Lib.decDigits n.natAbs).length + 1 := by rw [← hl, hL, List.length_cons]
   rcases h with h | ⟨h1, h2⟩
   · omega
   · have e0 : s.data.toList = s[0]'(by omega) :: s.data.toList.drop 1 := by
      have := List.drop_eq_getElem_cons (l := s.data.toList) (i := 0) (by rw [gf]; omega)
      rw [List.drop_zero, l6 s (by omega)] at this
      exact this
     rw [e0] at hL
     injection hL with hL _
     rw [hL] at h2
     cases h2
 · rename_i hneg
   rw [hL]
   have e : n.toNat = n.natAbs := by omega
   rw [e]
   exact ⟨rfl, fun h => absurd h hneg, fun h => by omega⟩
theorem qt.no {s t : ByteArray} (h : qt s t) (hb : ¬ (1 ≤ t.size ∧ t.size ≤ 6) ∨ t.data.toList.all gj = false) : cy s = none := rj (fun n hn => by
 obtain ⟨h1, _⟩ := h.rd n hn
 obtain ⟨d1, _, d3⟩ := rv (n.natAbs + 1) n.natAbs (by omega)
 rcases hb with hb | hb
 · have h2 : 0 < (Lib.decDigits n.natAbs).length := List.length_pos_iff.2 d3
   have h3 := aci 5 n.natAbs (by have := hn.1; have := hn.2.1; omega)
   rw [← h1, gf] at h2 h3
   omega
 · rw [h1, d1] at hb; cases hb)
def abh (s t : ByteArray) (u : Nat) : Int := if t.size < s.size then -(u : Int) else u
theorem qt.yes {s t : ByteArray} (h : qt s t) (hd : t.data.toList.all gj = true) (h6 : t.size ≤ 6) (hq : num (abh s t (j3 0 t.data.toList)) = s) : cy s = some (abh s t (j3 0 t.data.toList)) := by
 have hb := l7 hd (by rw [gf]; exact h6)
 refine acx ⟨?_, ?_, hq⟩ <;> (unfold abh; split <;> omega)
theorem qt.not {s t : ByteArray} (h : qt s t) (hq : ¬ num (abh s t (j3 0 t.data.toList)) = s) : cy s = none := rj (fun n hn => by
 obtain ⟨h1, h2⟩ := h.rd n hn
 obtain ⟨_, d2, _⟩ := rv (n.natAbs + 1) n.natAbs (by omega)
 apply hq
 rw [h1, d2, ← hn.2.2]
 congr 1
 unfold abh
 have e : (num n).size = s.size := by rw [hn.2.2]
 split
 · rename_i h3
   have := h2.2 (by omega)
   omega
 · rename_i h3
   have : ¬ n < 0 := fun h4 => h3 (by have := h2.1 h4; omega)
   omega)
theorem aou (s : ByteArray) (hs : s.size ≤ 281474976710656) : Ctr Tryz.prog 121 [.str s] [] (j1 s) [] := by
 refine Ctr.intro Tryz.mixed Tryz.func121 rfl Tryz.awr ?_
 refine ev2 @Tryz.ntmps121 @Tryz.results121 ?_
 refine aw.bu (fun g0 => ?_) (fun g0 => ?_) <;> refine rn1 @g0 ?_
 · have hs1 : 1 < s.size := by simp at g0; omega
   have hbb : (s[0]'(by omega) == 45) = (((s[0]'(by omega)).toNat : Int) == 45) := by
    rw [Bool.eq_iff_iff]; simp only [beq_iff_eq]
    constructor
    · intro g; rw [g]; rfl
    · intro g; exact UInt8.toNat_inj.1 (by have : (45 : UInt8).toNat = 45 := rfl; omega)
   refine ⟨by omega, ?_⟩
   refine ax.split (fun g2 => ?_) (fun g2 => ?_)
   · have hB : qt s (s.extract 1 s.size) := akg hs1 (by rw [hbb]; exact g2)
     refine rn1 @g2 ?_
     have hts := hB.le
     refine rn0 ?_
     (have ct := dx ((s.extract 1 s.size).size : Int) 1 6; (first | refine al.at ct ⟨leA, leA, leA, trivial⟩ ?_ | refine ai.at ct ⟨leA, leA, leA, trivial⟩ ?_); clear ct)
     refine rn0 ?_
     refine ax.split (fun g1 => ?_) (fun g1 => ?_) <;> refine rn1 @g1 ?_
     · have hr : ¬ (1 ≤ (s.extract 1 s.size).size ∧ (s.extract 1 s.size).size ≤ 6) := by
        have : fb ((s.extract 1 s.size).size : Int) 1 6 = false := by simpa using g1
        intro hx
        have h2 : fb ((s.extract 1 s.size).size : Int) 1 6 = true := gr.2 ⟨by omega, by omega⟩
        rw [this] at h2; cases h2
       rw [j1, hB.no (.inl hr)]
       exact ak.au rfl (by rfl)
     have hr : fb ((s.extract 1 s.size).size : Int) 1 6 = true := by simpa using g1
     have hr2 := gr.1 hr
     have hl : (s.extract 1 s.size).data.toList.length = (s.extract 1 s.size).size := gf (s.extract 1 s.size)
     have hl6 : (s.extract 1 s.size).size ≤ 6 := by omega
     refine dh.intro (fun i : Nat => i ≤ (s.extract 1 s.size).size ∧ ((s.extract 1 s.size).data.toList.take i).all gj = true) (fun i => ⟨(.str s :: (un 3 (.str (s.extract 1 s.size) :: .int .i64 (j3 0 ((s.extract 1 s.size).data.toList.take i)) :: .int .i64 i :: (un 51 [])))), [], 0⟩) (fun i => (s.extract 1 s.size).size - i) 0 ⟨Nat.zero_le _, rfl⟩ ?_ (fun i hi => ?_)
     · refine aq.cut (0) (by simp) (by simp) ?_ ?_
       · simp [LeC, LeV, ren, bj, ll]
       · rfl
     refine ev0 ?_
     refine ax.split (fun h1 => ?_) (fun h1 => ?_)
     · have hi' : i < (s.extract 1 s.size).size := by simpa using h1
       have hsm := l7 hi.2 (by rw [List.length_take]; omega)
       have hst : (s.extract 1 s.size).data.toList.take (i + 1) = (s.extract 1 s.size).data.toList.take i ++ [(s.extract 1 s.size)[i]'hi'] := by
        rw [List.take_succ_eq_append_getElem (by rw [hl]; exact hi'), l6 (s.extract 1 s.size) hi']
       have hbad : gj ((s.extract 1 s.size)[i]'hi') = false → cy s = none := fun hd => hB.no (.inr (by
        rw [List.all_eq_false]
        exact ⟨(s.extract 1 s.size)[i]'hi', by rw [← l6 (s.extract 1 s.size) hi']; exact List.getElem_mem _, by simp [hd]⟩))
       refine ev1 @h1 ?_
       refine ⟨⟨by omega, hi'⟩, ?_⟩
       refine aw.cg (fun h2 => ?_) (fun h2 => ?_) <;> refine ev1 @h2 ?_
       · refine ⟨⟨by omega, hi'⟩, ?_⟩
         refine ax.split (fun h3 => ?_) (fun h3 => ?_) <;> refine ev1 @h3 ?_
         · rw [j1, hbad (by simp at h3; simp only [gj, Bool.and_eq_false_iff, decide_eq_false_iff_not]; omega)]
           exact ak.au rfl (by rfl)
         · have hdg : gj ((s.extract 1 s.size)[i]'hi') = true := by simp at h2 h3; simp only [gj, Bool.and_eq_true, decide_eq_true_eq]; omega
           have hdg2 := hdg
           simp only [gj, Bool.and_eq_true, decide_eq_true_eq] at hdg2
           have hvs : j3 0 ((s.extract 1 s.size).data.toList.take (i + 1)) = j3 0 ((s.extract 1 s.size).data.toList.take i) * 10 + (((s.extract 1 s.size)[i]'hi').toNat - 48) := by rw [hst, yt, ma, ll, o1]
           have hw8 : IntKind.u8.wrap ((((s.extract 1 s.size)[i]'hi').toNat : Int) - 48) = (((s.extract 1 s.size)[i]'hi').toNat : Int) - 48 := by rw [IntKind.wrap_u8]; omega
           refine ⟨⟨by omega, hi'⟩, i + 1, ⟨hi', by rw [hst, List.all_append, hi.2]; simp [hdg]⟩, ?_, by omega⟩
           refine aq.cut (0) (by simp) (by simp) ?_ ?_
           · rw [hvs, hw8, wrap_i64 (n := 10 * _) (by omega) (by omega), wrap_i64 (n := _ - 48) (by omega) (by omega), wrap_i64 (n := 10 * _ + _) (by omega) (by omega), wrap_i64 (n := (i : Int) + 1) (by omega) (by omega)]
             simp [LeC, LeV, ren, bj]
             try omega
           · rfl
       · rw [j1, hbad (by simp at h2; simp only [gj, Bool.and_eq_false_iff, decide_eq_false_iff_not]; omega)]
         exact ak.au rfl (by rfl)
     · have hi' : i = (s.extract 1 s.size).size := by have := of_decide_eq_false h1; omega
       subst hi'
       have htk : (s.extract 1 s.size).data.toList.take (s.extract 1 s.size).size = (s.extract 1 s.size).data.toList := by rw [← hl, List.take_length]
       simp only [htk] at hi ⊢
       have hsm := l7 hi.2 (by omega)
       refine ev1 @h1 ?_
       refine ax.split (fun h2 => ?_) (fun h2 => ?_)
       · have hsg : abh s (s.extract 1 s.size) (j3 0 (s.extract 1 s.size).data.toList) = 0 - ((j3 0 (s.extract 1 s.size).data.toList : Nat) : Int) := by unfold abh; rw [if_pos (by have := of_decide_eq_true h2; omega)]; omega
         refine rn1 @h2 ?_
         (have ct := ed (0 - ((j3 0 (s.extract 1 s.size).data.toList : Nat) : Int)) (by omega) (by omega); (first | refine al.at ct ⟨leA, trivial⟩ ?_ | refine ai.at ct ⟨leA, trivial⟩ ?_); clear ct)
         rw [← hsg]
         refine rn1 @iy ?_
         refine ax.split (fun h3 => ?_) (fun h3 => ?_) <;> refine rn1 @h3 ?_
         · rw [j1, hB.not (by simpa using h3)]
           exact ak.au rfl (by rfl)
         · rw [j1, hB.yes hi.2 hl6 (by simpa using h3)]
           exact ak.au (by rw [hsg]; rfl) (by rfl)
       · have hsg : abh s (s.extract 1 s.size) (j3 0 (s.extract 1 s.size).data.toList) = ((j3 0 (s.extract 1 s.size).data.toList : Nat) : Int) := by unfold abh; rw [if_neg (by have := of_decide_eq_false h2; omega)]
         refine rn1 @h2 ?_
         (have ct := ed ((j3 0 (s.extract 1 s.size).data.toList : Nat) : Int) (by omega) (by omega); (first | refine al.at ct ⟨leA, trivial⟩ ?_ | refine ai.at ct ⟨leA, trivial⟩ ?_); clear ct)
         rw [← hsg]
         refine rn1 @iy ?_
         refine ax.split (fun h3 => ?_) (fun h3 => ?_) <;> refine rn1 @h3 ?_
         · rw [j1, hB.not (by simpa using h3)]
           exact ak.au rfl (by rfl)
         · rw [j1, hB.yes hi.2 hl6 (by simpa using h3)]
           exact ak.au (by rw [hsg]; rfl) (by rfl)
   · have hB : qt s s := afd (.inr ⟨hs1, by rw [hbb]; exact g2⟩)
     refine rn1 @g2 ?_
     have hts := hB.le
     refine rn0 ?_
     (have ct := dx (s.size : Int) 1 6; (first | refine al.at ct ⟨leA, leA, leA, trivial⟩ ?_ | refine ai.at ct ⟨leA, leA, leA, trivial⟩ ?_); clear ct)
     refine rn0 ?_
     refine ax.split (fun g1 => ?_) (fun g1 => ?_) <;> refine rn1 @g1 ?_
     · have hr : ¬ (1 ≤ s.size ∧ s.size ≤ 6) := by
        have : fb (s.size : Int) 1 6 = false := by simpa using g1
        intro hx
        have h2 : fb (s.size : Int) 1 6 = true := gr.2 ⟨by omega, by omega⟩
        rw [this] at h2; cases h2
       rw [j1, hB.no (.inl hr)]
       exact ak.au rfl (by rfl)
     have hr : fb (s.size : Int) 1 6 = true := by simpa using g1
     have hr2 := gr.1 hr
     have hl : s.data.toList.length = s.size := gf s
     have hl6 : s.size ≤ 6 := by omega
     refine dh.intro (fun i : Nat => i ≤ s.size ∧ (s.data.toList.take i).all gj = true) (fun i => ⟨(.str s :: (un 3 (.str s :: .int .i64 (j3 0 (s.data.toList.take i)) :: .int .i64 i :: (un 51 [])))), [], 0⟩) (fun i => s.size - i) 0 ⟨Nat.zero_le _, rfl⟩ ?_ (fun i hi => ?_)
     · refine aq.cut (0) (by simp) (by simp) ?_ ?_
       · simp [LeC, LeV, ren, bj, ll]
       · rfl
     refine ev0 ?_
     refine ax.split (fun h1 => ?_) (fun h1 => ?_)
     · have hi' : i < s.size := by simpa using h1
       have hsm := l7 hi.2 (by rw [List.length_take]; omega)
       have hst : s.data.toList.take (i + 1) = s.data.toList.take i ++ [s[i]'hi'] := by
        rw [List.take_succ_eq_append_getElem (by rw [hl]; exact hi'), l6 s hi']
       have hbad : gj (s[i]'hi') = false → cy s = none := fun hd => hB.no (.inr (by
        rw [List.all_eq_false]
        exact ⟨s[i]'hi', by rw [← l6 s hi']; exact List.getElem_mem _, by simp [hd]⟩))
       refine ev1 @h1 ?_
       refine ⟨⟨by omega, hi'⟩, ?_⟩
       refine aw.cg (fun h2 => ?_) (fun h2 => ?_) <;> refine ev1 @h2 ?_
       · refine ⟨⟨by omega, hi'⟩, ?_⟩
         refine ax.split (fun h3 => ?_) (fun h3 => ?_) <;> refine ev1 @h3 ?_
         · rw [j1, hbad (by simp at h3; simp only [gj, Bool.and_eq_false_iff, decide_eq_false_iff_not]; omega)]
           exact ak.au rfl (by rfl)
         · have hdg : gj (s[i]'hi') = true := by simp at h2 h3; simp only [gj, Bool.and_eq_true, decide_eq_true_eq]; omega
           have hdg2 := hdg
           simp only [gj, Bool.and_eq_true, decide_eq_true_eq] at hdg2
           have hvs : j3 0 (s.data.toList.take (i + 1)) = j3 0 (s.data.toList.take i) * 10 + ((s[i]'hi').toNat - 48) := by rw [hst, yt, ma, ll, o1]
           have hw8 : IntKind.u8.wrap (((s[i]'hi').toNat : Int) - 48) = ((s[i]'hi').toNat : Int) - 48 := by rw [IntKind.wrap_u8]; omega
           refine ⟨⟨by omega, hi'⟩, i + 1, ⟨hi', by rw [hst, List.all_append, hi.2]; simp [hdg]⟩, ?_, by omega⟩
           refine aq.cut (0) (by simp) (by simp) ?_ ?_
           · rw [hvs, hw8, wrap_i64 (n := 10 * _) (by omega) (by omega), wrap_i64 (n := _ - 48) (by omega) (by omega), wrap_i64 (n := 10 * _ + _) (by omega) (by omega), wrap_i64 (n := (i : Int) + 1) (by omega) (by omega)]
             simp [LeC, LeV, ren, bj]
             try omega
           · rfl
       · rw [j1, hbad (by simp at h2; simp only [gj, Bool.and_eq_false_iff, decide_eq_false_iff_not]; omega)]
         exact ak.au rfl (by rfl)
     · have hi' : i = s.size := by have := of_decide_eq_false h1; omega
       subst hi'
       have htk : s.data.toList.take s.size = s.data.toList := by rw [← hl, List.take_length]
       simp only [htk] at hi ⊢
       have hsm := l7 hi.2 (by omega)
       refine ev1 @h1 ?_
       have hsg : abh s s (j3 0 s.data.toList) = ((j3 0 s.data.toList : Nat) : Int) := by unfold abh; rw [if_neg (by omega)]
       (have ct := ed ((j3 0 s.data.toList : Nat) : Int) (by omega) (by omega); (first | refine al.at ct ⟨leA, trivial⟩ ?_ | refine ai.at ct ⟨leA, trivial⟩ ?_); clear ct)
       rw [← hsg]
       refine rn1 @iy ?_
       refine ax.split (fun h3 => ?_) (fun h3 => ?_) <;> refine rn1 @h3 ?_
       · rw [j1, hB.not (by simpa using h3)]
         exact ak.au rfl (by rfl)
       · rw [j1, hB.yes hi.2 hl6 (by simpa using h3)]
         exact ak.au (by rw [hsg]; rfl) (by rfl)
 · have hB : qt s s := afd (.inl (by simp at g0; omega))
   have hts := hB.le
   refine rn0 ?_
   (have ct := dx (s.size : Int) 1 6; (first | refine al.at ct ⟨leA, leA, leA, trivial⟩ ?_ | refine ai.at ct ⟨leA, leA, leA, trivial⟩ ?_); clear ct)
   refine rn0 ?_
   refine ax.split (fun g1 => ?_) (fun g1 => ?_) <;> refine rn1 @g1 ?_
   · have hr : ¬ (1 ≤ s.size ∧ s.size ≤ 6) := by
      have : fb (s.size : Int) 1 6 = false := by simpa using g1
      intro hx
      have h2 : fb (s.size : Int) 1 6 = true := gr.2 ⟨by omega, by omega⟩
      rw [this] at h2; cases h2
     rw [j1, hB.no (.inl hr)]
     exact ak.au rfl (by rfl)
   have hr : fb (s.size : Int) 1 6 = true := by simpa using g1
   have hr2 := gr.1 hr
   have hl : s.data.toList.length = s.size := gf s
   have hl6 : s.size ≤ 6 := by omega
   refine dh.intro (fun i : Nat => i ≤ s.size ∧ (s.data.toList.take i).all gj = true) (fun i => ⟨(.str s :: (un 3 (.str s :: .int .i64 (j3 0 (s.data.toList.take i)) :: .int .i64 i :: (un 51 [])))), [], 0⟩) (fun i => s.size - i) 0 ⟨Nat.zero_le _, rfl⟩ ?_ (fun i hi => ?_)
   · refine aq.cut (0) (by simp) (by simp) ?_ ?_
     · simp [LeC, LeV, ren, bj, ll]
     · rfl
   refine ev0 ?_
   refine ax.split (fun h1 => ?_) (fun h1 => ?_)
   · have hi' : i < s.size := by simpa using h1
     have hsm := l7 hi.2 (by rw [List.length_take]; omega)
     have hst : s.data.toList.take (i + 1) = s.data.toList.take i ++ [s[i]'hi'] := by
      rw [List.take_succ_eq_append_getElem (by rw [hl]; exact hi'), l6 s hi']
     have hbad : gj (s[i]'hi') = false → cy s = none := fun hd => hB.no (.inr (by
      rw [List.all_eq_false]
      exact ⟨s[i]'hi', by rw [← l6 s hi']; exact List.getElem_mem _, by simp [hd]⟩))
     refine ev1 @h1 ?_
     refine ⟨⟨by omega, hi'⟩, ?_⟩
     refine aw.cg (fun h2 => ?_) (fun h2 => ?_) <;> refine ev1 @h2 ?_
     · refine ⟨⟨by omega, hi'⟩, ?_⟩
       refine ax.split (fun h3 => ?_) (fun h3 => ?_) <;> refine ev1 @h3 ?_
       · rw [j1, hbad (by simp at h3; simp only [gj, Bool.and_eq_false_iff, decide_eq_false_iff_not]; omega)]
         exact ak.au rfl (by rfl)
       · have hdg : gj (s[i]'hi') = true := by simp at h2 h3; simp only [gj, Bool.and_eq_true, decide_eq_true_eq]; omega
         have hdg2 := hdg
         simp only [gj, Bool.and_eq_true, decide_eq_true_eq] at hdg2
         have hvs : j3 0 (s.data.toList.take (i + 1)) = j3 0 (s.data.toList.take i) * 10 + ((s[i]'hi').toNat - 48) := by rw [hst, yt, ma, ll, o1]
         have hw8 : IntKind.u8.wrap (((s[i]'hi').toNat : Int) - 48) = ((s[i]'hi').toNat : Int) - 48 := by rw [IntKind.wrap_u8]; omega
         refine ⟨⟨by omega, hi'⟩, i + 1, ⟨hi', by rw [hst, List.all_append, hi.2]; simp [hdg]⟩, ?_, by omega⟩
         refine aq.cut (0) (by simp) (by simp) ?_ ?_
         · rw [hvs, hw8, wrap_i64 (n := 10 * _) (by omega) (by omega), wrap_i64 (n := _ - 48) (by omega) (by omega), wrap_i64 (n := 10 * _ + _) (by omega) (by omega), wrap_i64 (n := (i : Int) + 1) (by omega) (by omega)]
           simp [LeC, LeV, ren, bj]
           try omega
         · rfl
     · rw [j1, hbad (by simp at h2; simp only [gj, Bool.and_eq_false_iff, decide_eq_false_iff_not]; omega)]
       exact ak.au rfl (by rfl)
   · have hi' : i = s.size := by have := of_decide_eq_false h1; omega
     subst hi'
     have htk : s.data.toList.take s.size = s.data.toList := by rw [← hl, List.take_length]
     simp only [htk] at hi ⊢
     have hsm := l7 hi.2 (by omega)
     refine ev1 @h1 ?_
     have hsg : abh s s (j3 0 s.data.toList) = ((j3 0 s.data.toList : Nat) : Int) := by unfold abh; rw [if_neg (by omega)]
     (have ct := ed ((j3 0 s.data.toList : Nat) : Int) (by omega) (by omega); (first | refine al.at ct ⟨leA, trivial⟩ ?_ | refine ai.at ct ⟨leA, trivial⟩ ?_); clear ct)
     rw [← hsg]
     refine rn1 @iy ?_
     refine ax.split (fun h3 => ?_) (fun h3 => ?_) <;> refine rn1 @h3 ?_
     · rw [j1, hB.not (by simpa using h3)]
       exact ak.au rfl (by rfl)
     · rw [j1, hB.yes hi.2 hl6 (by simpa using h3)]
       exact ak.au (by rw [hsg]; rfl) (by rfl)
end Go.Proofs
end
section
set_option maxRecDepth 100000
namespace Go.Proofs
open Go.Lv
structure ah where
 ab : ab
 Log : Log
def ah.cs (r : ah) : List V := [.int .i64 r.ab.Now, .sl r.ab.Posts.length 3 (Go.Lv.rows bf.cs r.ab.Posts), .sl r.ab.Shocks.length 5 (Go.Lv.rows aj.cs r.ab.Shocks), .int .i64 r.ab.Next, .int .i64 r.ab.Archived, .str r.Log.Durable, .str r.Log.Pending, .int .i64 r.Log.Count]
def ah.v (r : ah) : V := .agg [.int .i64 r.ab.Now, .sl r.ab.Posts.length 3 (Go.Lv.rows bf.cs r.ab.Posts), .sl r.ab.Shocks.length 5 (Go.Lv.rows aj.cs r.ab.Shocks), .int .i64 r.ab.Next, .int .i64 r.ab.Archived, .str r.Log.Durable, .str r.Log.Pending, .int .i64 r.Log.Count]
def ah.o (r : ah) (i0 i1 : Nat) : V := .agg [.int .i64 r.ab.Now, .osl i0 0 r.ab.Posts.length 3, .osl i1 0 r.ab.Shocks.length 5, .int .i64 r.ab.Next, .int .i64 r.ab.Archived, .str r.Log.Durable, .str r.Log.Pending, .int .i64 r.Log.Count]
theorem ah.csl (a : ah) : a.cs.length = 8 := rfl
def ah.ok (r : ah) : Prop := r.ab.ok ∧ r.Log.ok
theorem ah.le {h : Hp} {r : ah} {i0 i1 : Nat} (h0 : h[i0]? = some (some (rows bf.cs r.ab.Posts))) (h1 : h[i1]? = some (some (rows aj.cs r.ab.Shocks))) : LeV (ren (fg h 3) 3 (r.o i0 i1)) r.v := by
 refine .inl ?_
 simp only [ah.o, ah.v, ren, List.map_cons, List.map_nil, fg, h0, h1, ae, List.drop_zero, cr]
end Go.Proofs
end
section
set_option maxRecDepth 100000
set_option maxHeartbeats 1000000
namespace Go.Proofs
open Go.Lv
def od (s : Int) : ByteArray := if s = 0 then ⟨#[110, 101, 119]⟩ else if s = 1 then ⟨#[108, 111, 99, 97, 116, 101, 100]⟩ else if s = 2 then ⟨#[114, 101, 118, 105, 101, 119, 101, 100]⟩ else ⟨#[112, 117, 98, 108, 105, 115, 104, 101, 100]⟩
def ny (x : aj) : ByteArray := (od x.State ++ ⟨#[32, 115, 101, 101, 110, 32]⟩) ++ num x.Seen
def jk (x : aj) : ByteArray := if x.State = 0 then ny x else ny x ++ (⟨#[32, 115, 105, 122, 101, 32]⟩ ++ num x.Size)
theorem abf {n x : Int} {s : aj} (h : jl n x s = true) : (num s.Seen).size ≤ 21 ∧ (num s.Size).size ≤ 21 := by
 have := er.1 h
 exact ⟨dz (by omega) (by omega), dz (by omega) (by omega)⟩
def jf (w : ab) (n : Int) : V := if wB w = true then match w.Shocks.find? (dt n) with
 | some x => .tup [.str (jk x), .bool true]
 | none => .tup [.str ByteArray.empty, .bool false] else .tup [.str ByteArray.empty, .bool false]
theorem pw (n t : Int) (x : aj) (h : jl n t x = true) : Ctr Tryz.prog 48 [x.v] [] (.str (jk x)) [] := by
 have hv := er.1 h
 have hs := abf h
 obtain ⟨N, S, E, Z, T⟩ := x
 simp only at hv hs
 have hst : S = 0 ∨ S = 1 ∨ S = 2 ∨ S = 3 := by omega
 rcases hst with rfl | rfl | rfl | rfl
 all_goals
  refine Ctr.intro Tryz.mixed Tryz.func48 rfl Tryz.a4k ?_
  refine ev2 @Tryz.ntmps48 @Tryz.results48 ?_
  refine ev1 @aj.v.eq_1 ?_
  repeat (first | ((have ct := lu E ⟨by omega, by omega⟩; (first | refine al.at ct ⟨leA, trivial⟩ ?_ | refine ai.at ct ⟨leA, trivial⟩ ?_); clear ct); refine ev0 ?_) | ((have ct := lu Z ⟨by omega, by omega⟩; (first | refine al.at ct ⟨leA, trivial⟩ ?_ | refine ai.at ct ⟨leA, trivial⟩ ?_); clear ct); refine ev0 ?_) | (with_reducible refine And.intro (by first | omega | (show cc _ = true; kernel_rfl) | (simp only [ByteArray.size_append, cb, List.size_toArray, List.length_cons, List.length_nil]; omega)) ?_; try refine ew0 ?_))
  exact ak.au (by simp [jk, ny, od]) (by rfl)
theorem uu (n t : Int) (x : aj) (h : jl n t x = true) : Ctr Tryz.prog 50 [x.v] [] (.str (jk x)) [] := by
 have hv := er.1 h
 have hs := abf h
 obtain ⟨N, S, E, Z, T⟩ := x
 simp only at hv hs
 have hst : S = 0 ∨ S = 1 ∨ S = 2 ∨ S = 3 := by omega
 rcases hst with rfl | rfl | rfl | rfl
 all_goals
  refine Ctr.intro Tryz.mixed Tryz.func50 rfl Tryz.a5q ?_
  refine ev2 @Tryz.ntmps50 @Tryz.results50 ?_
  refine ev1 @aj.v.eq_1 ?_
  repeat (first | ((have ct := ed E (by omega) (by omega); (first | refine al.at ct ⟨leA, trivial⟩ ?_ | refine ai.at ct ⟨leA, trivial⟩ ?_); clear ct); refine ev0 ?_) | ((have ct := ed Z (by omega) (by omega); (first | refine al.at ct ⟨leA, trivial⟩ ?_ | refine ai.at ct ⟨leA, trivial⟩ ?_); clear ct); refine ev0 ?_) | (with_reducible refine And.intro (by first | omega | (show cc _ = true; kernel_rfl) | (simp only [ByteArray.size_append, cb, List.size_toArray, List.length_cons, List.length_nil]; omega)) ?_; try refine ew0 ?_))
  exact ak.au (by simp [jk, ny, od, ByteArray.append_assoc]) (by rfl)
theorem af5 {α : Type} (p : α → Bool) (L : List α) : (∃ i, ∃ h : i < L.length, jt p L = (i : Int) ∧ L.find? p = some L[i]) ∨ (jt p L = -1 ∧ L.find? p = none) := by
 unfold jt
 cases h : L.findIdx? p with
 | none =>
  right
  refine ⟨rfl, ?_⟩
  rw [List.findIdx?_eq_none_iff] at h
  rw [List.find?_eq_none]
  intro x hx
  simpa using h x hx
 | some i =>
  left
  rw [List.findIdx?_eq_some_iff_getElem] at h
  obtain ⟨hi, h1, h2⟩ := h
  refine ⟨i, hi, rfl, ?_⟩
  rw [List.find?_eq_some_iff_getElem]
  exact ⟨h1, i, hi, rfl, fun j hj => by simpa using h2 j hj⟩
theorem xj (w : ab) (n : Int) (hp : w.Posts.length ≤ 281474976710656) (hs : w.Shocks.length ≤ 281474976710656) : Ctr Tryz.prog 73 [w.v, .int .i64 n] [] (jf w n) [] := by
 refine Ctr.intro Tryz.mixed Tryz.func73 rfl Tryz.a2f ?_
 refine ev2 @Tryz.ntmps73 @Tryz.results73 ?_
 refine ev1 @ab.v.eq_1 ?_
 (have ct := ki w n hs; (first | refine al.at ct ⟨leA, leA, trivial⟩ ?_ | refine ai.at ct ⟨leA, leA, trivial⟩ ?_); clear ct)
 refine ev0 ?_
 (have ct := eg w hp hs; (first | refine al.at ct ⟨leA, trivial⟩ ?_ | refine ai.at ct ⟨leA, trivial⟩ ?_); clear ct)
 cases h : wB w with
 | false =>
  refine ev1 @h ?_
  exact ak.au (by simp [jf, h]; rfl) (by rfl)
 | true =>
  have hw := eh h
  rcases af5 (dt n) w.Shocks with ⟨i, hi, e1, e2⟩ | ⟨e1, e2⟩
  · rw [e1]
    have hsh := hw.shocks _ (List.getElem_mem hi)
    have hr := bw aj.csl hi
    have hd : decide ((i : Int) < 0) = false := decide_eq_false (by omega)
    refine rs5 @h @hd @hr @aj.cs.eq_1 @ab.cs.eq_1 ?_
    (first | refine al.at (pw _ _ w.Shocks[i] hsh) ⟨leA, trivial⟩ ?_ | refine ai.at (pw _ _ w.Shocks[i] hsh) ⟨leA, trivial⟩ ?_)
    refine ev0 ?_
    exact ak.au (by simp [jf, h, e2]) (by rfl)
  · rw [e1]
    refine ev1 @h ?_
    exact ak.au (by simp [jf, h, e2]; rfl) (by rfl)
theorem ae4 (w : ab) (n : Int) (hp : w.Posts.length ≤ 281474976710656) (hs : w.Shocks.length ≤ 281474976710656) : Ctr Tryz.prog 156 [w.v, .int .i64 n] [] (jf w n) [] := by
 refine Ctr.intro Tryz.mixed Tryz.func156 rfl Tryz.aya ?_
 refine ev2 @Tryz.ntmps156 @Tryz.results156 ?_
 refine ev1 @ab.v.eq_1 ?_
 (have ct := j7 w n hs; (first | refine al.at ct ⟨leA, leA, trivial⟩ ?_ | refine ai.at ct ⟨leA, leA, trivial⟩ ?_); clear ct)
 refine ev0 ?_
 (have ct := ew w hp hs; (first | refine al.at ct ⟨leA, trivial⟩ ?_ | refine ai.at ct ⟨leA, trivial⟩ ?_); clear ct)
 cases h : wB w with
 | false =>
  refine ev1 @h ?_
  exact ak.au (by simp [jf, h]; rfl) (by rfl)
 | true =>
  have hw := eh h
  rcases af5 (dt n) w.Shocks with ⟨i, hi, e1, e2⟩ | ⟨e1, e2⟩
  · rw [e1]
    have hsh := hw.shocks _ (List.getElem_mem hi)
    have hr := bw aj.csl hi
    have hd : decide ((i : Int) < 0) = false := decide_eq_false (by omega)
    refine rs5 @h @hd @hr @aj.cs.eq_1 @ab.cs.eq_1 ?_
    (first | refine al.at (uu _ _ w.Shocks[i] hsh) ⟨leA, trivial⟩ ?_ | refine ai.at (uu _ _ w.Shocks[i] hsh) ⟨leA, trivial⟩ ?_)
    refine ev0 ?_
    exact ak.au (by simp [jf, h, e2]) (by rfl)
  · rw [e1]
    refine ev1 @h ?_
    exact ak.au (by simp [jf, h, e2]; rfl) (by rfl)
end Go.Proofs
end
section
set_option maxRecDepth 100000
namespace Go.Proofs
open Go.Lv
structure fm where
 Week : Int
 Events : Int
 Felt : Int
 Picks : Int
 Lost : Int
def fm.cs (r : fm) : List V := [.int .i64 r.Week, .int .i64 r.Events, .int .i64 r.Felt, .int .i64 r.Picks, .int .i64 r.Lost]
def fm.v (r : fm) : V := .agg [.int .i64 r.Week, .int .i64 r.Events, .int .i64 r.Felt, .int .i64 r.Picks, .int .i64 r.Lost]
theorem fm.csl (a : fm) : a.cs.length = 5 := rfl
instance : ri fm.cs 5 := ⟨fun _ => rfl, fun _ d => by cases d <;> rfl, fun _ => rfl, fun _ => rfl⟩
def fm.ok (r : fm) : Prop := bt r.Week ∧ bt r.Events ∧ bt r.Felt ∧ bt r.Picks ∧ bt r.Lost
abbrev fm.rows (L : List fm) : List V := Go.Lv.rows fm.cs L
abbrev fm.sl (L : List fm) : V := .sl L.length 5 (Go.Lv.rows fm.cs L)
abbrev fm.zs : List V := [.int .i64 0, .int .i64 0, .int .i64 0, .int .i64 0, .int .i64 0]
def fm.mk1 (k : Int) : fm := ⟨k, k + 1, k + 1 + 1, k + 1 + 1 + 1, k + 1 + 1 + 1 + 1⟩
def fm.marks (k : Int) (n : Nat) : List fm := (List.range n).map fun i : Nat => fm.mk1 (k + 5 * (i : Int))
@[simp] theorem fm.tj (k : Int) (n : Nat) : (fm.marks k n).length = n := by simp [fm.marks]
end Go.Proofs
end
section
set_option maxRecDepth 100000
namespace Go.Proofs
open Go.Lv
def sg {α : Type} (line : α → ByteArray) (L : List α) : ByteArray := L.foldl (fun s r => s ++ (line r ++ ⟨#[10]⟩)) ⟨#[]⟩
theorem vk {α : Type} (line : α → ByteArray) {L : List α} {i : Nat} (hi : i < L.length) : sg line (L.take (i + 1)) = sg line (L.take i) ++ (line L[i] ++ ⟨#[10]⟩) := by
 rw [List.take_succ_eq_append_getElem hi, sg, List.foldl_append]; rfl
theorem vu {α : Type} {line : α → ByteArray} {L : List α} {B : Nat} (h : ∀ x ∈ L, (line x).size ≤ B) : ∀ i, i ≤ L.length → (sg line (L.take i)).size ≤ i * (B + 1)
 | 0, _ => by simp [sg, cb]
 | i + 1, hi => by
  have ih := vu h i (by omega)
  have hx := h (L[i]'(by omega)) (List.getElem_mem _)
  rw [vk line (by omega : i < L.length), Nat.succ_mul]
  simp only [ByteArray.size_append, cb, List.size_toArray, List.length_cons, List.length_nil]
  omega
end Go.Proofs
end
section
set_option maxRecDepth 100000
set_option maxHeartbeats 1000000
namespace Go.Proofs
open Go.Lv
def j0 (c : ah) : Bool := wB c.ab && n4 c.Log
def ah.fits (c : ah) : Prop := c.ab.Posts.length ≤ 1048576 ∧ c.ab.Shocks.length ≤ 1048576 ∧ c.Log.Durable.size ≤ 4194304 ∧ c.Log.Pending.size ≤ 4194304
theorem ea (c : ah) (hc : c.fits) : Ctr Tryz.prog 11 [c.v] [] (.bool (j0 c)) [] := by
 obtain ⟨h0, h1, h2, h3⟩ := hc
 refine Ctr.intro Tryz.mixed Tryz.func11 rfl Tryz.a4y ?_
 refine ev2 @Tryz.ntmps11 @Tryz.results11 ?_
 refine ev1 @ah.v.eq_1 ?_
 (have ct := eg c.ab (by omega) (by omega); (first | refine al.at ct ⟨leA, trivial⟩ ?_ | refine ai.at ct ⟨leA, trivial⟩ ?_); clear ct)
 cases h : wB c.ab with
 | false =>
  refine ev1 @h ?_
  exact ak.au (by simp [j0, h]) (by rfl)
 | true =>
  refine ev1 @h ?_
  (have ct := wb c.Log h2 h3; (first | refine al.at ct ⟨leA, trivial⟩ ?_ | refine ai.at ct ⟨leA, trivial⟩ ?_); clear ct)
  refine ev0 ?_
  exact ak.au (by simp [j0, h]) (by rfl)
theorem ly (c : ah) (hc : c.fits) : Ctr Tryz.prog 38 [c.v] [] (.bool (j0 c)) [] := by
 obtain ⟨h0, h1, h2, h3⟩ := hc
 refine Ctr.intro Tryz.mixed Tryz.func38 rfl Tryz.a5c ?_
 refine ev2 @Tryz.ntmps38 @Tryz.results38 ?_
 refine ev1 @ah.v.eq_1 ?_
 (have ct := ew c.ab (by omega) (by omega); (first | refine al.at ct ⟨leA, trivial⟩ ?_ | refine ai.at ct ⟨leA, trivial⟩ ?_); clear ct)
 cases h : wB c.ab with
 | false =>
  refine ev1 @h ?_
  exact ak.au (by simp [j0, h]) (by rfl)
 | true =>
  refine ev1 @h ?_
  (have ct := aav c.Log h2 h3; (first | refine al.at ct ⟨leA, trivial⟩ ?_ | refine ai.at ct ⟨leA, trivial⟩ ?_); clear ct)
  refine ev0 ?_
  exact ak.au (by simp [j0, h]) (by rfl)
def j6 (x : aj) : ByteArray := (num x.Number ++ ⟨#[58, 32]⟩) ++ jk x
def ady (c : ah) : ByteArray := ((((((sg j6 c.ab.Shocks ++ ⟨#[110, 111, 119, 32]⟩) ++ num c.ab.Now) ++ ⟨#[59, 32, 97, 114, 99, 104, 105, 118, 101, 100, 32]⟩) ++ num c.ab.Archived) ++ ⟨#[59, 32, 114, 101, 99, 111, 114, 100, 115, 32]⟩) ++ num c.Log.Count) ++ ⟨#[10]⟩
def fu (c : ah) : V := if j0 c = true then .tup [.str (ady c), .bool true] else .tup [.str ByteArray.empty, .bool false]
theorem aea (s : Int) : (od s).size ≤ 9 := by
 unfold od
 split
 · decide
 · split
   · decide
   · split <;> decide
theorem q7 {n t : Int} {x : aj} (h : jl n t x = true) : (jk x).size ≤ 70 := by
 obtain ⟨h1, h2⟩ := abf h
 have h3 := aea x.State
 unfold jk ny
 split <;> (simp only [ByteArray.size_append, cb, List.size_toArray, List.length_cons, List.length_nil]; omega)
theorem xq {n t : Int} {x : aj} (h : jl n t x = true) (hn : n ≤ 1000) : (j6 x).size ≤ 100 := by
 have h1 := q7 h
 have h2 := er.1 h
 have h3 := dz (n := x.Number) (by omega) (by omega)
 unfold j6
 simp only [ByteArray.size_append, cb, List.size_toArray, List.length_cons, List.length_nil]
 omega
theorem ai9 {l : Log} (h : n4 l = true) : 0 ≤ l.Count ∧ l.Count ≤ 60 := by
 simp only [n4, Bool.and_eq_true, decide_eq_true_eq] at h
 have := (wv (l.Durable ++ l.Pending)).2.2.2
 omega
theorem aac (c : ah) (hc : c.fits) : Ctr Tryz.prog 18 [c.v] [] (fu c) [] := by
 refine Ctr.intro Tryz.mixed Tryz.func18 rfl Tryz.a54 ?_
 refine ev2 @Tryz.ntmps18 @Tryz.results18 ?_
 cases h : j0 c with
 | false =>
  refine ev1 @ah.v.eq_1 ?_
  repeat' (first | exact ak.refl _ _ _ | (refine ak.au ?_ (by rfl); first | rfl | (simp [fu, h, *]; done)) | ((have ct := ea c hc; (first | refine al.at ct ⟨leA, trivial⟩ ?_ | refine ai.at ct ⟨leA, trivial⟩ ?_); clear ct); simp -implicitDefEqProofs -dsimp only [go_sem, fu, h, *]) | (refine aw.bu (fun _ => ?_) (fun _ => ?_) <;> simp -implicitDefEqProofs -dsimp only [go_sem, fu, h, *]) | (refine aw.cg (fun _ => ?_) (fun _ => ?_) <;> simp -implicitDefEqProofs -dsimp only [go_sem, fu, h, *]) | (refine ax.split (fun _ => ?_) (fun _ => ?_) <;> simp -implicitDefEqProofs -dsimp only [go_sem, fu, h, *]) | (exfalso; simp_all; done))
 | true =>
  obtain ⟨h0, h1, h2, h3⟩ := id hc
  have hcb := h
  simp only [j0, Bool.and_eq_true] at hcb
  have hw := eh hcb.1
  have hct := ai9 hcb.2
  have hsh : ∀ x ∈ c.ab.Shocks, jl c.ab.Next c.ab.Now x = true := hw.shocks
  have hnx := hw.next
  have hnw := hw.now
  have har := hw.arch
  have hsl := hw.slen
  have s1 := dz (n := c.ab.Now) (by omega) (by omega)
  have s2 := dz (n := c.ab.Archived) (by omega) (by omega)
  have s3 := dz (n := c.Log.Count) (by omega) (by omega)
  refine ev1 @ah.v.eq_1 ?_
  repeat (first | ((have ct := ea c hc; (first | refine al.at ct ⟨leA, trivial⟩ ?_ | refine ai.at ct ⟨leA, trivial⟩ ?_); clear ct); refine ev1 @h ?_) | (with_reducible refine And.intro (by first | omega | (show cc _ = true; kernel_rfl) | (simp only [ByteArray.size_append, cb, List.size_toArray, List.length_cons, List.length_nil]; omega)) ?_; try refine ew1 @h ?_))
  refine dh.intro (fun i : Nat => i ≤ c.ab.Shocks.length) (fun i => ⟨(.undef :: .ptr 0 0 :: .undef :: .undef :: .str (sg j6 (c.ab.Shocks.take i)) :: (un 7 (aj.sl c.ab.Shocks :: .int .i64 c.ab.Shocks.length :: .int .i64 i :: (un 34 [])))), [some c.cs], 0⟩) (fun i => c.ab.Shocks.length - i) 0 (Nat.zero_le _) ?_ (fun i hi => ?_)
  · refine aq.cut (1) (by simp) (by simp) ?_ ?_
    · simp [LeC, LeV, ren, bj, sg]
    · simp [bz, ck, ren, ah.cs, ae]
  have ht := vu (line := j6) (fun x hx => xq (hsh x hx) (by omega)) i hi
  refine ev0 ?_
  refine ax.split (fun h1 => ?_) (fun h1 => ?_)
  · refine ev1 @h1 ?_
    have hi' : i < c.ab.Shocks.length := by simpa using h1
    have h5 := aj.csl c.ab.Shocks[i]
    have hr := bw aj.csl hi'
    have hx := hsh _ (List.getElem_mem hi')
    have hxv := er.1 hx
    have hts := q7 hx
    have hns := dz (n := c.ab.Shocks[i].Number) (by omega) (by omega)
    refine rs2 @hr @aj.cs.eq_1 ?_
    repeat (first | ((have ct := lu c.ab.Shocks[i].Number ⟨by omega, by omega⟩; (first | refine al.at ct ⟨leA, trivial⟩ ?_ | refine ai.at ct ⟨leA, trivial⟩ ?_); clear ct); refine ev0 ?_) | ((first | refine al.at (pw _ _ c.ab.Shocks[i] hx) ⟨leA, trivial⟩ ?_ | refine ai.at (pw _ _ c.ab.Shocks[i] hx) ⟨leA, trivial⟩ ?_); refine ev0 ?_) | (with_reducible refine And.intro (by first | omega | (show cc _ = true; kernel_rfl) | (simp only [ByteArray.size_append, cb, List.size_toArray, List.length_cons, List.length_nil]; omega)) ?_; try refine ew0 ?_))
    refine ⟨i + 1, hi', ?_, by omega⟩
    refine aq.cut (1) (by simp) (by simp) ?_ ?_
    · rw [vk j6 hi']
      simp [LeC, LeV, ren, bj, j6]
    · simp [bz, ck, ren, ah.cs, ae]
  · refine ev1 @h1 ?_
    have hi' : i = c.ab.Shocks.length := by simp at h1; omega
    subst hi'
    rw [List.take_length] at ht ⊢
    refine ev1 @ah.cs.eq_1 ?_
    repeat (first | ((have ct := lu c.ab.Now ⟨by omega, by omega⟩; (first | refine al.at ct ⟨leA, trivial⟩ ?_ | refine ai.at ct ⟨leA, trivial⟩ ?_); clear ct); refine ev1 @ah.cs.eq_1 ?_) | ((have ct := lu c.ab.Archived ⟨by omega, by omega⟩; (first | refine al.at ct ⟨leA, trivial⟩ ?_ | refine ai.at ct ⟨leA, trivial⟩ ?_); clear ct); refine ev1 @ah.cs.eq_1 ?_) | ((have ct := lu c.Log.Count ⟨by omega, by omega⟩; (first | refine al.at ct ⟨leA, trivial⟩ ?_ | refine ai.at ct ⟨leA, trivial⟩ ?_); clear ct); refine ev1 @ah.cs.eq_1 ?_) | (with_reducible refine And.intro (by first | omega | (show cc _ = true; kernel_rfl) | (simp only [ByteArray.size_append, cb, List.size_toArray, List.length_cons, List.length_nil]; omega)) ?_; try refine ew1 @ah.cs.eq_1 ?_))
    exact ak.au (by simp [fu, h, ady]) (by rfl)
theorem yl (c : ah) (hc : c.fits) : Ctr Tryz.prog 19 [c.v] [] (fu c) [] := by
 refine Ctr.intro Tryz.mixed Tryz.func19 rfl Tryz.a3a ?_
 refine ev2 @Tryz.ntmps19 @Tryz.results19 ?_
 cases h : j0 c with
 | false =>
  refine ev1 @ah.v.eq_1 ?_
  repeat' (first | exact ak.refl _ _ _ | (refine ak.au ?_ (by rfl); first | rfl | (simp [fu, h, *]; done)) | ((first | refine al.at (ly c hc) ⟨leA, trivial⟩ ?_ | refine ai.at (ly c hc) ⟨leA, trivial⟩ ?_); simp -implicitDefEqProofs -dsimp only [go_sem, fu, h, *]) | (refine aw.bu (fun _ => ?_) (fun _ => ?_) <;> simp -implicitDefEqProofs -dsimp only [go_sem, fu, h, *]) | (refine aw.cg (fun _ => ?_) (fun _ => ?_) <;> simp -implicitDefEqProofs -dsimp only [go_sem, fu, h, *]) | (refine ax.split (fun _ => ?_) (fun _ => ?_) <;> simp -implicitDefEqProofs -dsimp only [go_sem, fu, h, *]) | (exfalso; simp_all; done))
 | true =>
  obtain ⟨h0, h1, h2, h3⟩ := id hc
  have hcb := h
  simp only [j0, Bool.and_eq_true] at hcb
  have hw := eh hcb.1
  have hct := ai9 hcb.2
  have hsh : ∀ x ∈ c.ab.Shocks, jl c.ab.Next c.ab.Now x = true := hw.shocks
  have hnx := hw.next
  have hnw := hw.now
  have har := hw.arch
  have hsl := hw.slen
  have s1 := dz (n := c.ab.Now) (by omega) (by omega)
  have s2 := dz (n := c.ab.Archived) (by omega) (by omega)
  have s3 := dz (n := c.Log.Count) (by omega) (by omega)
  refine ev1 @ah.v.eq_1 ?_
  repeat (first | ((first | refine al.at (ly c hc) ⟨leA, trivial⟩ ?_ | refine ai.at (ly c hc) ⟨leA, trivial⟩ ?_); refine ev1 @h ?_) | (with_reducible refine And.intro (by first | omega | (show cc _ = true; kernel_rfl) | (simp only [ByteArray.size_append, cb, List.size_toArray, List.length_cons, List.length_nil]; omega)) ?_; try refine ew1 @h ?_))
  refine dh.intro (fun i : Nat => i ≤ c.ab.Shocks.length) (fun i => ⟨(.undef :: .ptr 0 0 :: .undef :: .undef :: .str (sg j6 (c.ab.Shocks.take i)) :: .int .i64 i :: (un 48 [])), [some c.cs], 0⟩) (fun i => c.ab.Shocks.length - i) 0 (Nat.zero_le _) ?_ (fun i hi => ?_)
  · refine aq.cut (1) (by simp) (by simp) ?_ ?_
    · simp [LeC, LeV, ren, bj, sg]
    · simp [bz, ck, ren, ah.cs, ae]
  have ht := vu (line := j6) (fun x hx => xq (hsh x hx) (by omega)) i hi
  refine ev1 @ah.cs.eq_1 ?_
  refine ax.split (fun h1 => ?_) (fun h1 => ?_)
  · refine ev1 @h1 ?_
    have hi' : i < c.ab.Shocks.length := by simpa using h1
    have h5 := aj.csl c.ab.Shocks[i]
    have hr := bw aj.csl hi'
    have hx := hsh _ (List.getElem_mem hi')
    have hxv := er.1 hx
    have hts := q7 hx
    have hns := dz (n := c.ab.Shocks[i].Number) (by omega) (by omega)
    refine rs2 @hr @aj.cs.eq_1 ?_
    repeat (first | ((have ct := ed c.ab.Shocks[i].Number (by omega) (by omega); (first | refine al.at ct ⟨leA, trivial⟩ ?_ | refine ai.at ct ⟨leA, trivial⟩ ?_); clear ct); refine ev0 ?_) | ((first | refine al.at (uu _ _ c.ab.Shocks[i] hx) ⟨leA, trivial⟩ ?_ | refine ai.at (uu _ _ c.ab.Shocks[i] hx) ⟨leA, trivial⟩ ?_); refine ev0 ?_) | (with_reducible refine And.intro (by first | omega | (show cc _ = true; kernel_rfl) | (simp only [ByteArray.size_append, cb, List.size_toArray, List.length_cons, List.length_nil]; omega)) ?_; try refine ew0 ?_))
    refine ⟨i + 1, hi', ?_, by omega⟩
    refine aq.cut (1) (by simp) (by simp) ?_ ?_
    · rw [vk j6 hi']
      simp [LeC, LeV, ren, bj, j6, ByteArray.append_assoc]
    · simp [bz, ck, ren, ah.cs, ae]
  · refine ev1 @h1 ?_
    have hi' : i = c.ab.Shocks.length := by simp at h1; omega
    subst hi'
    rw [List.take_length] at ht ⊢
    repeat (first | ((have ct := ed c.ab.Now (by omega) (by omega); (first | refine al.at ct ⟨leA, trivial⟩ ?_ | refine ai.at ct ⟨leA, trivial⟩ ?_); clear ct); refine ev1 @ah.cs.eq_1 ?_) | ((have ct := ed c.ab.Archived (by omega) (by omega); (first | refine al.at ct ⟨leA, trivial⟩ ?_ | refine ai.at ct ⟨leA, trivial⟩ ?_); clear ct); refine ev1 @ah.cs.eq_1 ?_) | ((have ct := ed c.Log.Count (by omega) (by omega); (first | refine al.at ct ⟨leA, trivial⟩ ?_ | refine ai.at ct ⟨leA, trivial⟩ ?_); clear ct); refine ev1 @ah.cs.eq_1 ?_) | (with_reducible refine And.intro (by first | omega | (show cc _ = true; kernel_rfl) | (simp only [ByteArray.size_append, cb, List.size_toArray, List.length_cons, List.length_nil]; omega)) ?_; try refine ew1 @ah.cs.eq_1 ?_))
    exact ak.au (by simp [fu, h, ady]) (by rfl)
end Go.Proofs
end
section
namespace Go.Lv
variable {α : Type}
def ada (lt : α → α → Bool) (S : List α) (x : α) : Nat → Nat
 | 0 => 0
 | k + 1 => match S[k]? with
  | some y => if lt x y then ada lt S x k else k + 1
  | none => k + 1
theorem afx {lt : α → α → Bool} {S : List α} {x : α} {k : Nat} (hk : k < S.length) (h : lt x S[k] = true) : ada lt S x (k + 1) = ada lt S x k := by
 simp [ada, hk, h]
theorem afu {lt : α → α → Bool} {S : List α} {x : α} {k : Nat} (hk : k < S.length) (h : lt x S[k] = false) : ada lt S x (k + 1) = k + 1 := by
 simp [ada, hk, h]
def putAt (S : List α) (x : α) (j : Nat) : List α := S.take j ++ x :: S.drop j
theorem afa (S : List α) (x : α) (j : Nat) : (putAt S x j).length = S.length + 1 := by
 simp [putAt]; omega
theorem am3 (S : List α) (x : α) : putAt S x S.length = S ++ [x] := by simp [putAt]
def ins (lt : α → α → Bool) (S : List α) (x : α) : List α := putAt S x (ada lt S x S.length)
def cq (lt : α → α → Bool) (L : List α) : List α := L.foldl (ins lt) []
theorem asx (lt : α → α → Bool) (S : List α) (x : α) : (ins lt S x).length = S.length + 1 := afa _ _ _
theorem ags (lt : α → α → Bool) (L : List α) (x : α) : cq lt (L ++ [x]) = ins lt (cq lt L) x := by simp [cq]
theorem zo {lt : α → α → Bool} {L : List α} {i : Nat} (hi : i < L.length) : cq lt (L.take (i + 1)) = ins lt (cq lt (L.take i)) L[i] := by
 rw [List.take_succ_eq_append_getElem hi, ags]
theorem jn (lt : α → α → Bool) (L : List α) : (cq lt L).length = L.length := by
 have key : ∀ (L S : List α), (L.foldl (ins lt) S).length = S.length + L.length := by
  intro L
  induction L with
  | nil => intro S; simp
  | cons a L ih => intro S; rw [List.foldl_cons, ih, asx]; simp; omega
 have := key L []
 simpa [cq] using this
theorem aik (lt : α → α → Bool) (L : List α) (h : L.length ≤ 1) : cq lt L = L := by
 match L, h with
 | [], _ => rfl
 | [a], _ => rfl
def py (S R : List α) (x : α) (j : Nat) : List α := putAt S x j ++ R
theorem arx (S R : List α) (x : α) (j : Nat) : (py S R x j).length = S.length + 1 + R.length := by simp [py, afa]
theorem arw {S R : List α} {x : α} {j : Nat} (hj : j ≤ S.length) (h : j < (py S R x j).length) : (py S R x j)[j] = x := by
 have : (py S R x j)[j]? = some x := by
  rw [py, putAt, List.append_assoc, List.getElem?_append_right (by simp; omega)]
  simp [Nat.min_eq_left hj]
 rw [List.getElem?_eq_getElem h] at this
 exact Option.some.inj this
theorem adm {S R : List α} {x : α} {j : Nat} (hj : j < S.length) (h : j < (py S R x (j + 1)).length) : (py S R x (j + 1))[j] = S[j] := by
 have : (py S R x (j + 1))[j]? = some S[j] := by
  rw [py, putAt, List.append_assoc, List.getElem?_append_left (by simp; omega), List.getElem?_take_of_lt (by omega), List.getElem?_eq_getElem hj]
 rw [List.getElem?_eq_getElem h] at this
 exact Option.some.inj this
theorem ang {S R : List α} {x : α} {j : Nat} (hj : j < S.length) : ((py S R x (j + 1)).set (j + 1) S[j]).set j x = py S R x j := by
 have hd : S.drop j = S[j] :: S.drop (j + 1) := List.drop_eq_getElem_cons hj
 have ht : S.take (j + 1) = S.take j ++ [S[j]] := List.take_succ_eq_append_getElem hj
 have hl : (S.take j).length = j := by simp; omega
 simp only [py, putAt, ht, hd, List.append_assoc, List.cons_append, List.nil_append, List.singleton_append]
 rw [List.set_append_right _ _ (by omega), hl, List.set_append_right _ _ (by omega), hl]
 simp
def ahs (lt : α → α → Bool) (L : List α) (i : Nat) : List α := cq lt (L.take i) ++ L.drop i
theorem arn (lt : α → α → Bool) (L : List α) : ahs lt L 1 = L := by
 rw [ahs, aik lt _ (by simp; omega), List.take_append_drop]
theorem aqq (lt : α → α → Bool) (L : List α) {i : Nat} (h : L.length ≤ i) : ahs lt L i = cq lt L := by
 simp [ahs, List.take_of_length_le h, List.drop_eq_nil_of_le h]
theorem ao8 {lt : α → α → Bool} {L : List α} {i : Nat} (hi : i < L.length) : ahs lt L i = py (cq lt (L.take i)) (L.drop (i + 1)) L[i] i := by
 have hl : (cq lt (L.take i)).length = i := by rw [jn]; simp; omega
 rw [ahs, List.drop_eq_getElem_cons hi, py]
 have := am3 (cq lt (L.take i)) L[i]
 rw [hl] at this
 rw [this]; simp
theorem af0 {lt : α → α → Bool} {L : List α} {i j : Nat} (hi : i < L.length) (h : ada lt (cq lt (L.take i)) L[i] i = j) : py (cq lt (L.take i)) (L.drop (i + 1)) L[i] j = ahs lt L (i + 1) := by
 have hl : (cq lt (L.take i)).length = i := by rw [jn]; simp; omega
 rw [ahs, zo hi, ins, hl, h, py]
end Go.Lv
end
section
set_option maxRecDepth 100000
set_option maxHeartbeats 1000000
namespace Go.Proofs
open Go.Lv
theorem z8 (L : List aj) (c : aj → aj → Int) (fc : Nat) (hv : ∀ x y, Ctr Tryz.prog fc [aj.v x, aj.v y] [] (.int .i64 (c x y)) []) (hl : L.length ≤ 19) :
 Ctr Tryz.prog 200 [.osl 0 0 L.length 5, .int .i64 0, .int .i64 L.length, .fn (.func fc) [] []] [some (rows aj.cs L)] (.tup []) [some (rows aj.cs (cq (fun x y => decide (c x y < 0)) L))] := by
 generalize hlt : (fun x y => decide (c x y < 0)) = lt
 have ltv : ∀ x y, lt x y = decide (c x y < 0) := fun x y => by rw [← hlt]
 refine Ctr.intro Tryz.mixed Tryz.func200 rfl Tryz.aw3 ?_
 refine ev2 @Tryz.ntmps200 @Tryz.results200 ?_
 refine dh.intro (fun i : Nat => 1 ≤ i ∧ (i ≤ 1 ∨ i ≤ L.length)) (fun i => ⟨(.osl 0 0 L.length 5 :: .int .i64 0 :: .int .i64 L.length :: .fn (.func fc) [] [] :: (un 4 (.int .i64 i :: (un 44 [])))), [some (rows aj.cs (ahs lt L i))], 1⟩) (fun i => L.length - i) 1 ⟨Nat.le_refl _, .inl (Nat.le_refl _)⟩ ?_ (fun i hi => ?_)
 · refine aq.cut (1) (by simp) (by simp) ?_ ?_
   · (simp [LeC, LeV, ren, bj]; rfl)
   · rw [arn]; simp [bz, ck, ae]
 refine ev0 ?_
 refine ax.split (fun h1 => ?_) (fun h1 => ?_)
 · refine ev1 @h1 ?_
   have hi' : i < L.length := by simpa using h1
   have hS : (cq lt (L.take i)).length = i := by rw [jn]; simp; omega
   rw [ao8 hi']
   refine dh.intro (fun j : Nat => j ≤ i ∧ ada lt (cq lt (L.take i)) L[i] i = ada lt (cq lt (L.take i)) L[i] j) (fun j => ⟨(.osl 0 0 L.length 5 :: .int .i64 0 :: .int .i64 L.length :: .fn (.func fc) [] [] :: (un 4 (.int .i64 i :: .int .i64 j :: (un 43 [])))), [some (rows aj.cs (py (cq lt (L.take i)) (L.drop (i + 1)) L[i] j))], 1⟩) (fun j => j) i ⟨Nat.le_refl _, rfl⟩ ?_ (fun j hj => ?_)
   · refine aq.cut (1) (by simp) (by simp) ?_ ?_
     · simp [LeC, LeV, ren, bj]
     · simp [bz, ck, ae]
   have hml : ∀ j, (py (cq lt (L.take i)) (L.drop (i + 1)) L[i] j).length = L.length := fun j => by rw [arx, hS, List.length_drop]; omega
   refine ev0 ?_
   refine ⟨by kernel_rfl, ?_⟩
   cases j with
   | zero =>
    have hz : ((0 : Nat) : Int) = 0 := rfl
    refine rn1 @hz ?_
    refine ⟨i + 1, ⟨by omega, .inr hi'⟩, ?_, by omega⟩
    refine aq.cut (1) (by simp) (by simp) ?_ ?_
    · simp [LeC, LeV, ren, bj]
    · rw [af0 (j := 0) hi' hj.2]
      simp [bz, ck, ae]
   | succ j =>
    have hjS : j < (cq lt (L.take i)).length := by rw [hS]; omega
    have hg : decide ((0 : Int) < ((j + 1 : Nat) : Int)) = true := decide_eq_true (by omega)
    have hw1 : IntKind.i64.wrap (((j + 1 : Nat) : Int) - 1) = (j : Int) := by rw [wrap_i64 (by omega) (by omega)]; omega
    have hk1 : j + 1 < (py (cq lt (L.take i)) (L.drop (i + 1)) L[i] (j + 1)).length := by rw [hml]; omega
    have hk0 : j < (py (cq lt (L.take i)) (L.drop (i + 1)) L[i] (j + 1)).length := by rw [hml]; omega
    have g1 := arw (S := cq lt (L.take i)) (R := L.drop (i + 1)) (x := L[i]) (j := j + 1) (by omega) hk1
    have g0 := adm (R := L.drop (i + 1)) (x := L[i]) hjS hk0
    have hr1 := bw aj.csl hk1
    have hr0 := bw aj.csl hk0
    have hlr := lk (w := 5) aj.csl (py (cq lt (L.take i)) (L.drop (i + 1)) L[i] (j + 1))
    rw [g1] at hr1
    rw [g0] at hr0
    rw [hml] at hlr
    refine rn6 @hg @hw1 @hr1 @hr0 @hlr @aj.cs.eq_1 ?_
    (have ct := hv L[i] (cq lt (L.take i))[j]; (first | refine al.at ct ⟨leA, leA, trivial⟩ ?_ | refine ai.at ct ⟨leA, leA, trivial⟩ ?_); clear ct)
    refine ev0 ?_
    have hlx := ltv L[i] (cq lt (L.take i))[j]
    rw [← hlx]
    refine ax.split (fun h2 => ?_) (fun h2 => ?_)
    · have s1 := n5 aj.csl hk1 (cq lt (L.take i))[j]
      have s2 := n5 (L := (py (cq lt (L.take i)) (L.drop (i + 1)) L[i] (j + 1)).set (j + 1) (cq lt (L.take i))[j]) aj.csl (by rw [List.length_set]; exact hk0) L[i]
      rw [ang hjS] at s2
      simp only [aj.cs] at s1 s2
      refine rn6 @h2 @hw1 @hr1 @hr0 @hlr @aj.cs.eq_1 ?_
      have hl2 : (rows aj.cs ((py (cq lt (L.take i)) (L.drop (i + 1)) L[i] (j + 1)).set (j + 1) (cq lt (L.take i))[j])).length = L.length * 5 := by rw [lk (w := 5) aj.csl, List.length_set, hml]
      rw [s1, s2]
      refine ⟨by rw [hl2]; omega, j, ⟨by omega, hj.2.trans (afx hjS h2)⟩, ?_, by omega⟩
      refine aq.cut (1) (by simp) (by simp) ?_ ?_
      · simp [LeC, LeV, ren, bj]
      · simp [bz, ck, ae]
    · refine ev1 @h2 ?_
      have hp := afu hjS h2
      refine ⟨i + 1, ⟨by omega, .inr hi'⟩, ?_, by omega⟩
      refine aq.cut (1) (by simp) (by simp) ?_ ?_
      · rw [wrap_i64 (by omega) (by omega)]; simp [LeC, LeV, ren, bj]
      · rw [af0 hi' (hj.2.trans hp)]
        simp [bz, ck, ae]
 · refine ev1 @h1 ?_
   have h1' : L.length ≤ i := by simp at h1; omega
   rw [aqq lt L h1']
   exact ak.refl _ _ _
theorem adu (L : List aj) (c : aj → aj → Int) (fc : Nat) (hv : ∀ x y, Ctr Tryz.prog fc [aj.v x, aj.v y] [] (.int .i64 (c x y)) []) (hl : L.length ≤ 19) :
 Ctr Tryz.prog 183 [.osl 0 0 L.length 5, .int .i64 L.length, .fn (.func fc) [] []] [some (rows aj.cs L)] (.tup []) [some (rows aj.cs (cq (fun x y => decide (c x y < 0)) L))] := by
 refine Ctr.intro Tryz.mixed Tryz.func183 rfl Tryz.axm ?_
 refine ev2 @Tryz.ntmps183 @Tryz.results183 ?_
 have c0 : decide ((20 : Int) ≤ L.length) = false := decide_eq_false (by omega)
 have c1 : decide ((20 : Int) < L.length) = false := decide_eq_false (by omega)
 refine dh.intro (fun _ : Unit => True) (fun _ => ⟨(.osl 0 0 L.length 5 :: .int .i64 L.length :: .fn (.func fc) [] [] :: (un 3 (.int .i64 20 :: .int .i64 0 :: .int .i64 20 :: (un 54 [])))), [some (rows aj.cs L)], 1⟩) (fun _ => 0) () trivial ?_ (fun _ _ => ?_)
 · refine aq.cut (1) (by simp) (by simp) ?_ ?_
   · simp [LeC, LeV, ren, bj]
   · simp [bz, ck, ae]
 refine ev1 @c0 ?_
 refine ai.df [0] false ( z8 L c fc hv hl) (by decide) ⟨leO, leO, leO, leO, trivial⟩ al6 ( aau (by simp [bb, jn])) (.inl rfl) ?_
 refine ev0 ?_
 refine dh.intro (fun _ : Unit => True) (fun _ => ⟨(.osl 0 0 L.length 5 :: .int .i64 L.length :: .fn (.func fc) [] [] :: (un 3 (.int .i64 20 :: (un 56 [])))), [some (rows aj.cs (cq (fun x y => decide (c x y < 0)) L))], 1⟩) (fun _ => 0) () trivial ?_ (fun _ _ => ?_)
 · refine aq.cut (1) (by simp) (by simp) ?_ ?_
   · simp [LeC, LeV, ren, bj]
   · simp [bz, ck, ae]
 refine ev1 @c1 ?_
 exact ak.refl _ _ _
theorem x8 (L : List aj) (c : aj → aj → Int) (fc : Nat) (hv : ∀ x y, Ctr Tryz.prog fc [aj.v x, aj.v y] [] (.int .i64 (c x y)) []) (hl : L.length ≤ 19) :
 Ctr Tryz.prog 151 [.osl 0 0 L.length 5, .fn (.func fc) [] []] [some (rows aj.cs L)] (.tup []) [some (rows aj.cs (cq (fun x y => decide (c x y < 0)) L))] := by
 refine Ctr.intro Tryz.mixed Tryz.func151 rfl Tryz.ayt ?_
 refine ev2 @Tryz.ntmps151 @Tryz.results151 ?_
 refine ai.df [0] false ( adu L c fc hv hl) (by decide) ⟨leO, leO, leO, trivial⟩ al6 ( aau (by simp [bb, jn])) (.inl rfl) ?_
 refine ev0 ?_
 exact ak.refl _ _ _
end Go.Proofs
end
section
namespace Go.Lv
variable {α : Type}
theorem aem {lt : α → α → Bool} {A B : List α} {x : α} (hB : ∀ b ∈ B, lt x b = true) (hA : ∀ a ∈ A, lt x a = false) : ∀ k, k ≤ B.length → ada lt (A ++ B) x (A.length + k) = A.length
 | 0, _ => by
  cases h : A.length with
  | zero => rfl
  | succ m =>
   have hm : m < (A ++ B).length := by rw [List.length_append]; omega
   have e : (A ++ B)[m] = A[m]'(by omega) := List.getElem_append_left (by omega)
   exact afu hm (by rw [e]; exact hA _ (List.getElem_mem _))
 | k + 1, hk => by
  have hm : A.length + k < (A ++ B).length := by rw [List.length_append]; omega
  have e : (A ++ B)[A.length + k] = B[k]'(by omega) := by
   rw [List.getElem_append_right (by omega)]
   congr 1; omega
  rw [← Nat.add_assoc, afx hm (by rw [e]; exact hB _ (List.getElem_mem _))]
  exact aem hB hA k (by omega)
theorem ank {lt : α → α → Bool} {A B : List α} {x : α} (hB : ∀ b ∈ B, lt x b = true) (hA : ∀ a ∈ A, lt x a = false) : ins lt (A ++ B) x = A ++ x :: B := by
 rw [ins, List.length_append, aem hB hA _ (Nat.le_refl _), putAt]
 simp
def jm (f : α → Int) (c : Int) (L : List α) (J : List Nat) : List α := J.flatMap fun (j : Nat) => L.filter fun x => f x == c - (j : Int)
theorem tf (f : α → Int) (c : Int) (L : List α) (J K : List Nat) : jm f c L (J ++ K) = jm f c L J ++ jm f c L K := by simp [jm]
theorem abd {f : α → Int} {c : Int} {L : List α} {J : List Nat} {x : α} (h : x ∈ jm f c L J) : ∃ j ∈ J, f x = c - (j : Int) := by
 simp only [jm, List.mem_flatMap, List.mem_filter, beq_iff_eq] at h
 obtain ⟨j, hj, _, e⟩ := h
 exact ⟨j, hj, e⟩
theorem adn {f : α → Int} {c : Int} {L : List α} {J : List Nat} {x : α} (h : ∀ j ∈ J, f x ≠ c - (j : Int)) : jm f c (L ++ [x]) J = jm f c L J := by
 induction J with
 | nil => rfl
 | cons j J ih =>
  have h1 : f x ≠ c - (j : Int) := h j (by simp)
  have h2 := ih (fun k hk => h k (by simp [hk]))
  simp only [jm, List.flatMap_cons] at h2 ⊢
  rw [h2, List.filter_append]
  simp [h1]
theorem aev {f : α → Int} {c : Int} {n : Nat} : ∀ {L : List α}, (∀ x ∈ L, c - n < f x ∧ f x ≤ c) → cq (fun x y => decide (f y < f x)) L = jm f c L (List.range n) := by
 intro L hL
 have key : ∀ i, i ≤ L.length → cq (fun x y => decide (f y < f x)) (L.take i) = jm f c (L.take i) (List.range n) := by
  intro i
  induction i with
  | zero => intro _; simp [cq, jm]
  | succ i ih =>
   intro hi
   have hi' : i < L.length := hi
   have hx := hL L[i] (List.getElem_mem hi')
   rw [zo hi', ih (by omega), List.take_succ_eq_append_getElem hi']
   obtain ⟨j, m, e1, e2⟩ : ∃ j m : Nat, f L[i] = c - (j : Int) ∧ n = j + (m + 1) := ⟨(c - f L[i]).toNat, n - 1 - (c - f L[i]).toNat, by omega, by omega⟩
   have hr : List.range n = List.range j ++ ([j] ++ (List.range m).map (fun k => j + (k + 1))) := by
    rw [e2, List.range_add, List.range_succ_eq_map]
    simp
   rw [hr, tf, tf, tf, tf]
   rw [adn (J := List.range j) (by intro k hk; have := List.mem_range.1 hk; omega)]
   rw [adn (J := (List.range m).map (fun k => j + (k + 1))) (by
    intro k hk
    obtain ⟨k, _, rfl⟩ := List.mem_map.1 hk
    omega)]
   have hone : jm f c (L.take i ++ [L[i]]) [j] = jm f c (L.take i) [j] ++ [L[i]] := by
    simp only [jm, List.flatMap_cons, List.flatMap_nil, List.append_nil, List.filter_append]
    simp [e1]
   rw [hone, ← List.append_assoc]
   rw [ank (A := jm f c (L.take i) (List.range j) ++ jm f c (L.take i) [j]) (B := jm f c (L.take i) ((List.range m).map (fun k => j + (k + 1))))]
   · simp
   · intro b hb
     obtain ⟨k, hk, e⟩ := abd hb
     obtain ⟨k, _, rfl⟩ := List.mem_map.1 hk
     simp; omega
   · intro a ha
     rcases List.mem_append.1 ha with h | h
     · obtain ⟨k, hk, e⟩ := abd h
       have := List.mem_range.1 hk
       simp; omega
     · obtain ⟨k, hk, e⟩ := abd h
       simp at hk; subst hk
       simp; omega
 have := key L.length (Nat.le_refl _)
 simpa using this
end Go.Lv
end
section
set_option maxRecDepth 100000
set_option maxHeartbeats 1000000
namespace Go.Proofs
open Go.Lv
def alj (a b : Int) : Int := if a < b then -1 else if b < a then 1 else 0
theorem aql (a b : Int) : decide (alj a b < 0) = decide (a < b) := by
 unfold alj
 split
 · rename_i h; simp [h]
 · rename_i h; split <;> simp [h]
theorem sc (a : Int) : Ctr Tryz.prog 184 [.int .i64 a] [] (.bool false) [] := by
 refine Ctr.intro Tryz.mixed Tryz.func184 rfl Tryz.ay1 ?_
 refine ev2 @Tryz.ntmps184 @Tryz.results184 ?_
 exact ak.au (by simp) (by rfl)
theorem aex (a b : Int) : Ctr Tryz.prog 153 [.int .i64 a, .int .i64 b] [] (.int .i64 (alj a b)) [] := by
 refine Ctr.intro Tryz.mixed Tryz.func153 rfl Tryz.awj ?_
 refine ev2 @Tryz.ntmps153 @Tryz.results153 ?_
 (first | refine al.at (sc a) ⟨leA, trivial⟩ ?_ | refine ai.at (sc a) ⟨leA, trivial⟩ ?_)
 refine ev0 ?_
 (first | refine al.at (sc b) ⟨leA, trivial⟩ ?_ | refine ai.at (sc b) ⟨leA, trivial⟩ ?_)
 refine ev0 ?_
 refine ax.split (fun h1 => ?_) (fun h1 => ?_) <;> refine ev1 @h1 ?_
 · exact ak.au (by rw [alj, if_pos (of_decide_eq_true h1)]) (by rfl)
 · refine ax.split (fun h2 => ?_) (fun h2 => ?_) <;> refine ev1 @h2 ?_
   · exact ak.au (by rw [alj, if_neg (of_decide_eq_false h1), if_pos (of_decide_eq_true h2)]) (by rfl)
   · exact ak.au (by rw [alj, if_neg (of_decide_eq_false h1), if_neg (of_decide_eq_false h2)]) (by rfl)
def kz (x : aj) : Bool := x.State == 1
def ai3 (x y : aj) : Int := alj y.Size x.Size
def ov (w : ab) : List aj := cq (fun x y => decide (ai3 x y < 0)) (w.Shocks.filter kz)
theorem aj9 {w : ab} (hw : wB w = true) : ov w = jm aj.Size 95 (w.Shocks.filter kz) (List.range 116) := by
 have h : (fun x y : aj => decide (ai3 x y < 0)) = fun x y => decide (y.Size < x.Size) := by
  funext x y
  exact aql _ _
 rw [ov, h]
 refine aev (fun x hx => ?_)
 have := er.1 ((eh hw).shocks x (List.mem_filter.1 hx).1)
 omega
theorem akp {w : ab} (hw : wB w = true) : ∃ G : Nat → List aj, G 0 = [] ∧ (∀ j : Nat, G (j + 1) = G j ++ (w.Shocks.filter fun x => kz x && x.Size == 95 - (j : Int))) ∧ (∀ j, (G j).length ≤ 6 * j) ∧ ov w = G 116 := by
 have hlen := (eh hw).slen
 have GS : ∀ j : Nat, jm aj.Size 95 (w.Shocks.filter kz) (List.range (j + 1)) = jm aj.Size 95 (w.Shocks.filter kz) (List.range j) ++ (w.Shocks.filter fun x => kz x && x.Size == 95 - (j : Int)) := by
  intro j
  rw [List.range_succ, tf]
  congr 1
  simp only [jm, List.flatMap_cons, List.flatMap_nil, List.append_nil, List.filter_filter]
  congr 1
  funext x
  exact Bool.and_comm _ _
 refine ⟨fun j => jm aj.Size 95 (w.Shocks.filter kz) (List.range j), rfl, GS, fun j => ?_, aj9 hw⟩
 induction j with
 | zero => simp [jm]
 | succ j ih =>
  show (jm aj.Size 95 (w.Shocks.filter kz) (List.range (j + 1))).length ≤ _
  rw [GS, List.length_append]
  have := List.length_filter_le (fun x => kz x && x.Size == 95 - (j : Int)) w.Shocks
  have ih' : (jm aj.Size 95 (w.Shocks.filter kz) (List.range j)).length ≤ 6 * j := ih
  omega
def kp (w : ab) : Option (List Int) := if wB w = true then some ((ov w).map aj.Number) else none
theorem ai6 (x : aj) : Ctr Tryz.prog 150 [x.v] [] (.bool (kz x)) [] := by
 refine Ctr.intro Tryz.mixed Tryz.func150 rfl Tryz.aw9 ?_
 refine ev2 @Tryz.ntmps150 @Tryz.results150 ?_
 refine ev1 @aj.v.eq_1 ?_
 exact ak.au rfl (by rfl)
theorem an0 (x y : aj) : Ctr Tryz.prog 152 [x.v, y.v] [] (.int .i64 (ai3 x y)) [] := by
 refine Ctr.intro Tryz.mixed Tryz.func152 rfl Tryz.ax9 ?_
 refine ev2 @Tryz.ntmps152 @Tryz.results152 ?_
 refine ev1 @aj.v.eq_1 ?_
 (have ct := aex y.Size x.Size; (first | refine al.at ct ⟨leA, leA, trivial⟩ ?_ | refine ai.at ct ⟨leA, leA, trivial⟩ ?_); clear ct)
 refine ev0 ?_
 exact ak.au rfl (by rfl)
theorem ahe (w : ab) (hp : w.Posts.length ≤ 16777216) (hs : w.Shocks.length ≤ 16777216) : Ctr Tryz.prog 115 [w.v] [] (sw 1 (kp w)) (k9 IntS.cs (kp w)) := by
 refine Ctr.intro Tryz.mixed Tryz.func115 rfl Tryz.ayx ?_
 refine ev2 @Tryz.ntmps115 @Tryz.results115 ?_
 refine ev1 @ab.v.eq_1 ?_
 (have ct := eg w (by omega) (by omega); (first | refine al.at ct ⟨leA, trivial⟩ ?_ | refine ai.at ct ⟨leA, trivial⟩ ?_); clear ct)
 cases h : wB w with
 | false =>
  refine ev0 ?_
  have e : kp w = none := by simp [kp, h]
  rw [e]
  exact ak.au rfl (by rfl)
 | true =>
  have e : kp w = some ((ov w).map aj.Number) := by simp [kp, h]
  rw [e]
  have hw := eh h
  have hlen := hw.slen
  have hfl : (w.Shocks.filter kz).length ≤ 6 := Nat.le_trans (List.length_filter_le _ _) hlen
  have hrl : (ov w).length = (w.Shocks.filter kz).length := jn _ _
  refine ev0 ?_
  (first | refine al.at (vn w.Shocks kz _ [] (fun _ => rfl) ai6 hs) ⟨leA, leA, trivial⟩ ?_ | refine ai.at (vn w.Shocks kz _ [] (fun _ => rfl) ai6 hs) ⟨leA, leA, trivial⟩ ?_)
  refine ev0 ?_
  refine ai.df [1] false ( x8 (w.Shocks.filter kz) ai3 _ an0 (by omega)) (by decide) ⟨leO, leO, trivial⟩ al6 ( aau (by simp [bb, jn])) (.inl rfl) ?_
  have hr0 : cq (fun x y => decide (ai3 x y < 0)) (w.Shocks.filter kz) = ov w := rfl
  rw [hr0]
  refine ev0 ?_
  rw [← hrl]
  refine dh.intro (fun i : Nat => i ≤ (ov w).length) (fun i => ⟨(un 5 (.osl 2 0 i 1 :: (un 11 (.osl 1 0 (ov w).length 5 :: .int .i64 (ov w).length :: .int .i64 i :: (un 10 []))))), [some w.cs, some (rows aj.cs (ov w)), some (rows IntS.cs (((ov w).take i).map aj.Number))], 0⟩) (fun i => (ov w).length - i) 0 (Nat.zero_le _) ?_ (fun i hi => ?_)
  · refine aq.cut (3) (by simp) (by simp) ?_ ?_
    · simp [LeC, LeV, ren, bj]
    · (simp [bz, ck, ren, ae, ab.cs]; try rfl)
  refine ev0 ?_
  refine ax.split (fun h1 => ?_) (fun h1 => ?_)
  · refine ev1 @h1 ?_
    have hi' : i < (ov w).length := by simpa using h1
    have h5 := aj.csl (ov w)[i]
    have hr := bw aj.csl hi'
    refine rn7 @hr @aj.cs.eq_1 @bb @bh @Nat.mul_one @List.length_map.{0, 0} @List.length_take.{0} ?_
    refine ⟨i + 1, hi', ?_, by omega⟩
    refine aq.cut (3) (by simp) (by simp) ?_ ?_
    · simp [LeC, LeV, ren, bj]
    · rw [List.take_succ_eq_append_getElem hi', List.map_append, List.map_singleton, ← di]
      simp [bz, ck, ren, bj, ae, dd, me, ab.cs, IntS.cs]
  · refine ev1 @h1 ?_
    have hi' : i = (ov w).length := by simp at h1; omega
    subst hi'
    rw [List.take_length]
    have hml : ((ov w).map aj.Number).length = (ov w).length := List.length_map _
    simp only [sw, k9, hml]
    refine ak.pick [2] (by decide) (fun j hj => by omega) (.inl ?_) ?_
    · first | rfl | (simp [ren, bc, posOf]; done)
    · simp only [az, List.map_cons, List.map_nil, bg, List.getElem?_cons_zero, List.getElem?_cons_succ, ae]
theorem ag1 (w : ab) (hp : w.Posts.length ≤ 16777216) (hs : w.Shocks.length ≤ 16777216) : Ctr Tryz.prog 124 [w.v] [] (xc 1 (kp w)) (pb IntS.cs (kp w)) := by
 refine Ctr.intro Tryz.mixed Tryz.func124 rfl Tryz.aw7 ?_
 refine ev2 @Tryz.ntmps124 @Tryz.results124 ?_
 refine ev1 @ab.v.eq_1 ?_
 (have ct := ew w (by omega) (by omega); (first | refine al.at ct ⟨leA, trivial⟩ ?_ | refine ai.at ct ⟨leA, trivial⟩ ?_); clear ct)
 cases h : wB w with
 | false =>
  refine ev0 ?_
  have e : kp w = none := by simp [kp, h]
  rw [e]
  simp only [xc, pb]
  refine ak.pick [1] (by decide) (fun j hj => by omega) (.inl ?_) ?_
  · first | rfl | (simp [ren, bc, posOf]; done)
  · simp only [az, List.map_cons, List.map_nil, bg, List.getElem?_cons_zero, List.getElem?_cons_succ, ae]
 | true =>
  have e : kp w = some ((ov w).map aj.Number) := by simp [kp, h]
  obtain ⟨G, G0, GS, GL, hend⟩ := akp h
  rw [e, hend]
  clear e hend
  have hw := eh h
  have hlen := hw.slen
  have hfl : (w.Shocks.filter kz).length ≤ 6 := Nat.le_trans (List.length_filter_le _ _) hlen
  refine ev0 ?_
  refine dh.intro (fun j : Nat => j ≤ 116) (fun j => ⟨(.undef :: .ptr 0 0 :: .undef :: .undef :: .osl 1 0 (G j).length 1 :: .int .i64 (95 - (j : Int)) :: (un 38 [])), [some w.cs, some (rows IntS.cs ((G j).map aj.Number))], 0⟩) (fun j => 116 - j) 0 (Nat.zero_le _) ?_ (fun j hj => ?_)
  · refine aq.cut (2) (by simp) (by simp) ?_ ?_
    · simp [LeC, LeV, ren, bj, G0]
    · (simp [bz, ck, ren, ae, ab.cs, G0]; try rfl)
  refine ev0 ?_
  refine ax.split (fun h1 => ?_) (fun h1 => ?_)
  · refine ev1 @h1 ?_
    have hj' : j < 116 := by simp at h1; omega
    have hstep : ∀ {i : Nat} (hi : i < w.Shocks.length), (w.Shocks.take (i + 1)).filter (fun x => kz x && x.Size == 95 - (j : Int)) = (w.Shocks.take i).filter (fun x => kz x && x.Size == 95 - (j : Int)) ++ if (kz w.Shocks[i] && w.Shocks[i].Size == 95 - (j : Int)) = true then [w.Shocks[i]] else [] := fun {i} hi => by
     rw [List.take_succ_eq_append_getElem hi, List.filter_append]
     congr 1
     cases h : (kz w.Shocks[i] && w.Shocks[i].Size == 95 - (j : Int)) <;> simp [h]
    generalize hF : (fun i : Nat => G j ++ (w.Shocks.take i).filter (fun x => kz x && x.Size == 95 - (j : Int))) = F
    have F0 : F 0 = G j := by rw [← hF]; simp
    have FS1 : ∀ {i : Nat} (hi : i < w.Shocks.length), (kz w.Shocks[i] && w.Shocks[i].Size == 95 - (j : Int)) = true → F (i + 1) = F i ++ [w.Shocks[i]] := by
     intro i hi hc
     rw [← hF]
     simp only [hstep hi, hc, if_true, List.append_assoc]
    have FS0 : ∀ {i : Nat} (hi : i < w.Shocks.length), (kz w.Shocks[i] && w.Shocks[i].Size == 95 - (j : Int)) = false → F (i + 1) = F i := by
     intro i hi hc
     rw [← hF]
     simp only [hstep hi, hc, if_false, List.append_nil, Bool.false_eq_true]
    have FE : F w.Shocks.length = G (j + 1) := by rw [← hF, GS]; simp
    have FL : ∀ i, (F i).length ≤ 6 * j + 6 := by
     intro i
     rw [← hF]
     simp only [List.length_append]
     have h2 := List.length_filter_le (fun x => kz x && x.Size == 95 - (j : Int)) (w.Shocks.take i)
     have h3 := GL j
     rw [List.length_take] at h2
     omega
    clear hF hstep
    refine dh.intro (fun i : Nat => i ≤ w.Shocks.length) (fun i => ⟨(.undef :: .ptr 0 0 :: .undef :: .undef :: .osl 1 0 (F i).length 1 :: .int .i64 (95 - (j : Int)) :: .int .i64 i :: (un 37 [])), [some w.cs, some (rows IntS.cs ((F i).map aj.Number))], 0⟩) (fun i => w.Shocks.length - i) 0 (Nat.zero_le _) ?_ (fun i hi => ?_)
    · refine aq.cut (2) (by simp) (by simp) ?_ ?_
      · simp [LeC, LeV, ren, bj, F0]
      · simp [bz, ck, ren, ae, ab.cs, F0]
    refine ev1 @ab.cs.eq_1 ?_
    refine ax.split (fun h2 => ?_) (fun h2 => ?_)
    · refine ev1 @h2 ?_
      have hi' : i < w.Shocks.length := by simpa using h2
      have h5 := aj.csl w.Shocks[i]
      have hr := bw aj.csl hi'
      have hFl := FL i
      refine rn3 @hr @aj.cs.eq_1 @ab.cs.eq_1 ?_
      refine aw.bu (fun h3 => ?_) (fun h3 => ?_) <;> refine ev1 @h3 ?_
      · refine ax.split (fun h4 => ?_) (fun h4 => ?_) <;> refine ev1 @h4 ?_
        · refine rn7 @hr @aj.cs.eq_1 @ab.cs.eq_1 @bb @bh @Nat.mul_one @List.length_map.{0, 0} ?_
          have hc : (kz w.Shocks[i] && w.Shocks[i].Size == 95 - (j : Int)) = true := by rw [kz, h3, h4]; rfl
          refine ⟨i + 1, hi', ?_, by omega⟩
          refine aq.cut (2) (by simp) (by simp) ?_ ?_
          · rw [FS1 hi' hc]; simp [LeC, LeV, ren, bj]
          · rw [FS1 hi' hc, List.map_append, List.map_singleton, ← di]
            simp [bz, ck, ren, bj, ae, dd, me, ab.cs, IntS.cs]
        · try refine ew0 ?_
          have hc : (kz w.Shocks[i] && w.Shocks[i].Size == 95 - (j : Int)) = false := by rw [kz, h3, h4]; rfl
          refine ⟨i + 1, hi', ?_, by omega⟩
          refine aq.cut (2) (by simp) (by simp) ?_ ?_
          · rw [FS0 hi' hc]; simp [LeC, LeV, ren, bj]
          · rw [FS0 hi' hc]; simp [bz, ck, ren, ae, ab.cs]
      · try refine ew0 ?_
        have hc : (kz w.Shocks[i] && w.Shocks[i].Size == 95 - (j : Int)) = false := by rw [kz, h3]; rfl
        refine ⟨i + 1, hi', ?_, by omega⟩
        refine aq.cut (2) (by simp) (by simp) ?_ ?_
        · rw [FS0 hi' hc]; simp [LeC, LeV, ren, bj]
        · rw [FS0 hi' hc]; simp [bz, ck, ren, ae, ab.cs]
    · refine ev1 @h2 ?_
      have hi' : i = w.Shocks.length := by simp at h2; omega
      subst hi'
      try refine ew0 ?_
      refine ⟨j + 1, by omega, ?_, by omega⟩
      refine aq.cut (2) (by simp) (by simp) ?_ ?_
      · rw [FE]; (simp [LeC, LeV, ren, bj]; try omega)
      · rw [FE]; simp [bz, ck, ren, ae, ab.cs]
  · refine ev1 @h1 ?_
    have hj' : j = 116 := by simp at h1; omega
    subst hj'
    have hml : ((G 116).map aj.Number).length = (G 116).length := List.length_map _
    simp only [xc, pb, hml]
    refine ak.pick [1] (by decide) (fun j hj => by omega) (.inl ?_) ?_
    · first | rfl | (simp [ren, bc, posOf]; done)
    · simp only [az, List.map_cons, List.map_nil, bg, List.getElem?_cons_zero, List.getElem?_cons_succ, ae]
end Go.Proofs
end
section
set_option maxRecDepth 100000
set_option maxHeartbeats 1000000
namespace Go.Proofs
open Go.Lv
def ldP (L : List bf) (o : Option Nat) (p : bf) : Bool := match o with
 | none => true
 | some b => match L[b]? with
  | some q => decide (p.Since < q.Since)
  | none => true
def ld (L : List bf) : Nat → Option Nat
 | 0 => none
 | i + 1 => match L[i]? with
  | none => ld L i
  | some p => if p.Up = false ∧ ldP L (ld L i) p = true then some i else ld L i
theorem ac9 {L : List bf} : ∀ {i b : Nat}, ld L i = some b → b < i ∧ b < L.length
 | 0, _, h => by simp [ld] at h
 | i + 1, b, h => by
  unfold ld at h
  split at h
  · have := ac9 h; omega
  · rename_i r hr
    split at h
    · simp at h; subst h
      exact ⟨by omega, (List.getElem?_eq_some_iff.1 hr).1⟩
    · have := ac9 h; omega
theorem ur {L : List bf} {i : Nat} (hi : i < L.length) : ld L (i + 1) = if L[i].Up = false ∧ ldP L (ld L i) L[i] = true then some i else ld L i := by
 rw [ld, List.getElem?_eq_getElem hi]
def ldI (o : Option Nat) : Int := match o with
 | none => -1
 | some b => b
def np (w : ab) : List V := if wB w = true then
 match ld w.Posts w.Posts.length with
 | none => [.int .i64 0, .int .i64 0, .bool false]
 | some b => match w.Posts[b]? with
  | some p => [.int .i64 p.Station, .int .i64 (w.Now - p.Since), .bool true]
  | none => [.int .i64 0, .int .i64 0, .bool false]
 else [.int .i64 0, .int .i64 0, .bool false]
theorem ah9 {w : ab} (h : ld w.Posts w.Posts.length = none) : V.tup [.int .i64 0, .int .i64 0, .bool false] = .tup (np w) := by
 unfold np; rw [h]; split <;> rfl
theorem aep {w : ab} (hw : wB w = true) {b : Nat} (hb : b < w.Posts.length) (h : ld w.Posts w.Posts.length = some b) : V.tup [.int .i64 w.Posts[b].Station, .int .i64 (w.Now - w.Posts[b].Since), .bool true] = .tup (np w) := by
 unfold np; rw [h, if_pos hw]; simp [hb]
def ant (L : List bf) (o : Option Nat) : Int := match o with
 | none => 0
 | some b => match L[b]? with
  | some p => p.Station
  | none => 0
def ub (w : ab) (o : Option Nat) : Int := match o with
 | none => -1
 | some b => match w.Posts[b]? with
  | some p => w.Now - p.Since
  | none => -1
theorem ab9 (w : ab) (hp : w.Posts.length ≤ 16777216) (hs : w.Shocks.length ≤ 16777216) : Ctr Tryz.prog 117 [w.v] [] (.tup (np w)) [] := by
 refine Ctr.intro Tryz.mixed Tryz.func117 rfl Tryz.ay6 ?_
 refine ev2 @Tryz.ntmps117 @Tryz.results117 ?_
 refine ev1 @ab.v.eq_1 ?_
 cases h : wB w with
 | false => repeat' (first | exact ak.refl _ _ _ | (refine ak.au ?_ (by rfl); first | rfl | (simp [h, np, *]; done)) | ((have ct := eg w (by omega) (by omega); (first | refine al.at ct ⟨leA, trivial⟩ ?_ | refine ai.at ct ⟨leA, trivial⟩ ?_); clear ct); simp -implicitDefEqProofs -dsimp only [go_sem, h, np, *]) | (refine aw.bu (fun _ => ?_) (fun _ => ?_) <;> simp -implicitDefEqProofs -dsimp only [go_sem, h, np, *]) | (refine aw.cg (fun _ => ?_) (fun _ => ?_) <;> simp -implicitDefEqProofs -dsimp only [go_sem, h, np, *]) | (refine ax.split (fun _ => ?_) (fun _ => ?_) <;> simp -implicitDefEqProofs -dsimp only [go_sem, h, np, *]) | (exfalso; simp_all; done))
 | true =>
  have ok := eh h
  have hnow := ok.now
  repeat (first | ((have ct := eg w (by omega) (by omega); (first | refine al.at ct ⟨leA, trivial⟩ ?_ | refine ai.at ct ⟨leA, trivial⟩ ?_); clear ct); refine ev1 @h ?_) | (with_reducible refine And.intro (by first | omega | (show cc _ = true; kernel_rfl)) ?_; try refine ew1 @h ?_))
  refine dh.intro (fun i : Nat => i ≤ w.Posts.length) (fun i => ⟨(.undef :: .ptr 0 0 :: (un 3 (.int .i64 (ant w.Posts (ld w.Posts i)) :: .int .i64 (ub w (ld w.Posts i)) :: (un 7 (bf.sl w.Posts :: .int .i64 w.Posts.length :: .int .i64 i :: (un 24 [])))))), [some w.cs], 0⟩) (fun i => w.Posts.length - i) 0 (Nat.zero_le _) ?_ (fun i hi => ?_)
  · refine aq.cut (1) (by simp) (by simp) ?_ ?_
    · simp [LeC, LeV, ren, bj, ld, ant, ub]
    · simp [bz, ck, ren, ab.cs]
  refine ev1 @ab.cs.eq_1 ?_
  refine ax.split (fun h1 => ?_) (fun h1 => ?_)
  · refine ev1 @h1 ?_
    have hi' : i < w.Posts.length := by simpa using h1
    have h5 := bf.csl w.Posts[i]
    have hr := bw bf.csl hi'
    have hvi := mh.1 (ok.posts _ (List.getElem_mem hi'))
    refine rn3 @hr @bf.cs.eq_1 @ab.cs.eq_1 ?_
    have step : ∀ o, ld w.Posts (i + 1) = o → True := fun _ _ => trivial
    refine aw.bu (fun h2 => ?_) (fun h2 => ?_) <;> refine rn3 @h2 @bf.cs.eq_1 @ab.cs.eq_1 ?_
    · have hup : w.Posts[i].Up = false := by simpa using h2
      refine ax.split (fun h3 => ?_) (fun h3 => ?_) <;> refine rn3 @h3 @bf.cs.eq_1 @ab.cs.eq_1 ?_
      · have e : ld w.Posts (i + 1) = some i := by
         rw [ur hi', if_pos]
         refine ⟨hup, ?_⟩
         simp at h3
         cases ho : ld w.Posts i with
         | none => rfl
         | some b =>
          have hb := ac9 ho
          rw [ho] at h3
          simp [ub, hb.2] at h3
          simp [ldP, hb.2]; omega
        refine ⟨i + 1, hi', ?_, by omega⟩
        refine aq.cut (1) (by simp) (by simp) ?_ ?_
        · rw [e]
          simp [LeC, LeV, ren, bj, ant, ub, hi']
        · simp [bz, ck, ren, ab.cs]
      · have e : ld w.Posts (i + 1) = ld w.Posts i := by
         rw [ur hi', if_neg]
         rintro ⟨_, hq⟩
         simp at h3
         cases ho : ld w.Posts i with
         | none => rw [ho] at h3; simp [ub] at h3; omega
         | some b =>
          have hb := ac9 ho
          rw [ho] at h3 hq
          simp [ub, hb.2] at h3
          simp [ldP, hb.2] at hq; omega
        refine ⟨i + 1, hi', ?_, by omega⟩
        refine aq.cut (1) (by simp) (by simp) ?_ ?_
        · rw [e]
          simp [LeC, LeV, ren, bj]
        · simp [bz, ck, ren, ab.cs]
    · have e : ld w.Posts (i + 1) = ld w.Posts i := by
       rw [ur hi', if_neg]
       rintro ⟨hq, _⟩
       simp [hq] at h2
      refine ⟨i + 1, hi', ?_, by omega⟩
      refine aq.cut (1) (by simp) (by simp) ?_ ?_
      · rw [e]
        simp [LeC, LeV, ren, bj]
      · simp [bz, ck, ren, ab.cs]
  · refine ev1 @h1 ?_
    have hi' : i = w.Posts.length := by simp at h1; omega
    subst hi'
    cases ho : ld w.Posts w.Posts.length with
    | none =>
     simp -implicitDefEqProofs -dsimp only [go_sem, ub, ant]
     exact ak.au (ah9 ho) (by rfl)
    | some b =>
     have hb := (ac9 ho).2
     have hvi := mh.1 (ok.posts _ (List.getElem_mem hb))
     have e1 : ub w (some b) = w.Now - w.Posts[b].Since := by simp [ub, hb]
     have e2 : ant w.Posts (some b) = w.Posts[b].Station := by simp [ant, hb]
     have e3 : decide (w.Now - w.Posts[b].Since < 0) = false := decide_eq_false (by omega)
     refine ev3 @e1 @e2 @e3 ?_
     exact ak.au (aep h hb ho) (by rfl)
theorem ab6 (w : ab) (hp : w.Posts.length ≤ 16777216) (hs : w.Shocks.length ≤ 16777216) : Ctr Tryz.prog 127 [w.v] [] (.tup (np w)) [] := by
 refine Ctr.intro Tryz.mixed Tryz.func127 rfl Tryz.axl ?_
 refine ev2 @Tryz.ntmps127 @Tryz.results127 ?_
 refine ev1 @ab.v.eq_1 ?_
 cases h : wB w with
 | false => repeat' (first | exact ak.refl _ _ _ | (refine ak.au ?_ (by rfl); first | rfl | (simp [h, np, *]; done)) | ((have ct := ew w (by omega) (by omega); (first | refine al.at ct ⟨leA, trivial⟩ ?_ | refine ai.at ct ⟨leA, trivial⟩ ?_); clear ct); simp -implicitDefEqProofs -dsimp only [go_sem, h, np, *]) | (refine aw.bu (fun _ => ?_) (fun _ => ?_) <;> simp -implicitDefEqProofs -dsimp only [go_sem, h, np, *]) | (refine aw.cg (fun _ => ?_) (fun _ => ?_) <;> simp -implicitDefEqProofs -dsimp only [go_sem, h, np, *]) | (refine ax.split (fun _ => ?_) (fun _ => ?_) <;> simp -implicitDefEqProofs -dsimp only [go_sem, h, np, *]) | (exfalso; simp_all; done))
 | true =>
  have ok := eh h
  have hnow := ok.now
  repeat (first | ((have ct := ew w (by omega) (by omega); (first | refine al.at ct ⟨leA, trivial⟩ ?_ | refine ai.at ct ⟨leA, trivial⟩ ?_); clear ct); refine ev1 @h ?_) | (with_reducible refine And.intro (by first | omega | (show cc _ = true; kernel_rfl)) ?_; try refine ew1 @h ?_))
  refine dh.intro (fun i : Nat => i ≤ w.Posts.length) (fun i => ⟨(.undef :: .ptr 0 0 :: (un 3 (.int .i64 (ldI (ld w.Posts i)) :: .int .i64 i :: (un 54 [])))), [some w.cs], 0⟩) (fun i => w.Posts.length - i) 0 (Nat.zero_le _) ?_ (fun i hi => ?_)
  · refine aq.cut (1) (by simp) (by simp) ?_ ?_
    · simp [LeC, LeV, ren, bj, ld, ldI]
    · simp [bz, ck, ren, ab.cs]
  refine ev1 @ab.cs.eq_1 ?_
  refine ax.split (fun h1 => ?_) (fun h1 => ?_)
  · refine ev1 @h1 ?_
    have hi' : i < w.Posts.length := by simpa using h1
    have h5 := bf.csl w.Posts[i]
    have hr := bw bf.csl hi'
    have keep : w.Posts[i].Up = true → ld w.Posts (i + 1) = ld w.Posts i := by
     intro hq
     rw [ur hi', if_neg]
     rintro ⟨h, _⟩
     simp [hq] at h
    cases ho : ld w.Posts i with
    | none =>
     have e0 : ldI none = -1 := rfl
     rw [e0]
     refine rn3 @hr @bf.cs.eq_1 @ab.cs.eq_1 ?_
     refine aw.bu (fun h2 => ?_) (fun h2 => ?_) <;> refine rn4 @h2 @hr @bf.cs.eq_1 @ab.cs.eq_1 ?_
     · have hup : w.Posts[i].Up = false := by simpa using h2
       have e : ld w.Posts (i + 1) = some i := by
        rw [ur hi', if_pos]
        exact ⟨hup, by rw [ho]; rfl⟩
       refine ⟨i + 1, hi', ?_, by omega⟩
       refine aq.cut (1) (by simp) (by simp) ?_ ?_
       · rw [e]
         simp [LeC, LeV, ren, bj, ldI]
       · simp [bz, ck, ren, ab.cs]
     · have e : ld w.Posts (i + 1) = none := by rw [keep (by simpa using h2), ho]
       refine ⟨i + 1, hi', ?_, by omega⟩
       refine aq.cut (1) (by simp) (by simp) ?_ ?_
       · rw [e]
         simp [LeC, LeV, ren, bj, ldI]
       · simp [bz, ck, ren, ab.cs]
    | some b =>
     have hb := ac9 ho
     have hrb := bw bf.csl hb.2
     have h6 := bf.csl w.Posts[b]
     have e0 : ldI (some b) = (b : Int) := rfl
     have e3 : decide ((b : Int) < 0) = false := decide_eq_false (by omega)
     rw [e0]
     refine rn3 @hr @bf.cs.eq_1 @ab.cs.eq_1 ?_
     refine aw.bu (fun h2 => ?_) (fun h2 => ?_) <;> refine rn6 @h2 @e3 @hr @hrb @bf.cs.eq_1 @ab.cs.eq_1 ?_
     · have hup : w.Posts[i].Up = false := by simpa using h2
       refine ax.split (fun h3 => ?_) (fun h3 => ?_) <;> refine rn5 @h3 @hr @hrb @bf.cs.eq_1 @ab.cs.eq_1 ?_
       · have e : ld w.Posts (i + 1) = some i := by
          rw [ur hi', if_pos]
          exact ⟨hup, by rw [ho]; simpa [ldP, hb.2] using h3⟩
         refine ⟨i + 1, hi', ?_, by omega⟩
         refine aq.cut (1) (by simp) (by simp) ?_ ?_
         · rw [e]
           simp [LeC, LeV, ren, bj, ldI]
         · simp [bz, ck, ren, ab.cs]
       · have e : ld w.Posts (i + 1) = some b := by
          rw [ur hi', if_neg, ho]
          rintro ⟨_, hq⟩
          rw [ho] at hq
          simp [ldP, hb.2] at hq
          simp at h3
          omega
         refine ⟨i + 1, hi', ?_, by omega⟩
         refine aq.cut (1) (by simp) (by simp) ?_ ?_
         · rw [e]
           simp [LeC, LeV, ren, bj, ldI]
         · simp [bz, ck, ren, ab.cs]
     · have e : ld w.Posts (i + 1) = some b := by rw [keep (by simpa using h2), ho]
       refine ⟨i + 1, hi', ?_, by omega⟩
       refine aq.cut (1) (by simp) (by simp) ?_ ?_
       · rw [e]
         simp [LeC, LeV, ren, bj, ldI]
       · simp [bz, ck, ren, ab.cs]
  · refine ev1 @h1 ?_
    have hi' : i = w.Posts.length := by simp at h1; omega
    subst hi'
    cases ho : ld w.Posts w.Posts.length with
    | none =>
     have e0 : ldI none = -1 := rfl
     rw [e0]
     refine ev0 ?_
     exact ak.au (ah9 ho) (by rfl)
    | some b =>
     have hb := (ac9 ho).2
     have hvi := mh.1 (ok.posts _ (List.getElem_mem hb))
     have hrb := bw bf.csl hb
     have h6 := bf.csl w.Posts[b]
     have e3 : decide ((b : Int) < 0) = false := decide_eq_false (by omega)
     have e0 : ldI (some b) = (b : Int) := rfl
     rw [e0]
     refine rn4 @e3 @hrb @bf.cs.eq_1 @ab.cs.eq_1 ?_
     exact ak.au (aep h hb ho) (by rfl)
end Go.Proofs
end
section
set_option maxRecDepth 100000
set_option maxHeartbeats 2000000
namespace Go.Proofs
open Go.Lv
def kwl : List ByteArray := [⟨#[119, 97, 105, 116]⟩, ⟨#[115, 104, 111, 99, 107]⟩, ⟨#[100, 111, 119, 110]⟩, ⟨#[117, 112]⟩, ⟨#[112, 117, 98, 108, 105, 115, 104]⟩, ⟨#[97, 114, 99, 104, 105, 118, 101]⟩, ⟨#[108, 111, 99, 97, 116, 101]⟩, ⟨#[114, 101, 118, 105, 101, 119]⟩, ⟨#[116, 101, 120, 116]⟩, ⟨#[110, 111, 119]⟩, ⟨#[112, 111, 115, 116, 115]⟩, ⟨#[116, 111, 100, 111]⟩, ⟨#[115, 116, 97, 116, 101, 115]⟩, ⟨#[108, 111, 110, 103, 101, 115, 116]⟩]
def kwd (h : ByteArray) : Nat := match kwl.findIdx? (fun x => decide (x = h)) with
 | some i => i + 1
 | none => 0
theorem an8 : kwl.Nodup := of_decide_eq_true (by kernel_rfl)
theorem na {h : ByteArray} {i : Nat} (hi : i < kwl.length) : h = kwl[i] ↔ kwd h = i + 1 := by
 constructor
 · intro e
   have h1 : kwl.findIdx? (fun x => decide (x = h)) = some i := by
    rw [List.findIdx?_eq_some_iff_getElem]
    refine ⟨hi, by simp [e], fun j hj => ?_⟩
    have := List.pairwise_iff_getElem.1 an8 j i (by omega) hi hj
    simp [e, this]
   rw [kwd, h1]
 · intro e
   unfold kwd at e
   split at e
   · rename_i j hj
     rw [List.findIdx?_eq_some_iff_getElem] at hj
     obtain ⟨g1, g2, _⟩ := hj
     have : j = i := by omega
     subst this
     simpa using (of_decide_eq_true g2).symm
   · omega
theorem ayp (h : ByteArray) : kwd h ≤ 14 := by
 unfold kwd
 split
 · rename_i j hj
   rw [List.findIdx?_eq_some_iff_getElem] at hj
   obtain ⟨g1, _⟩ := hj
   have : kwl.length = 14 := rfl
   omega
 · omega
theorem kw1 {h : ByteArray} : h = (⟨#[119, 97, 105, 116]⟩ : ByteArray) ↔ kwd h = 1 := na (i := 0) (by decide)
theorem kwb1 (h : ByteArray) : (h.toList == (⟨#[119, 97, 105, 116]⟩ : ByteArray).toList) = decide (kwd h = 1) := by rw [iy]; exact decide_eq_decide.2 kw1
theorem kw2 {h : ByteArray} : h = (⟨#[115, 104, 111, 99, 107]⟩ : ByteArray) ↔ kwd h = 2 := na (i := 1) (by decide)
theorem kwb2 (h : ByteArray) : (h.toList == (⟨#[115, 104, 111, 99, 107]⟩ : ByteArray).toList) = decide (kwd h = 2) := by rw [iy]; exact decide_eq_decide.2 kw2
theorem kw3 {h : ByteArray} : h = (⟨#[100, 111, 119, 110]⟩ : ByteArray) ↔ kwd h = 3 := na (i := 2) (by decide)
theorem kwb3 (h : ByteArray) : (h.toList == (⟨#[100, 111, 119, 110]⟩ : ByteArray).toList) = decide (kwd h = 3) := by rw [iy]; exact decide_eq_decide.2 kw3
theorem kw4 {h : ByteArray} : h = (⟨#[117, 112]⟩ : ByteArray) ↔ kwd h = 4 := na (i := 3) (by decide)
theorem kwb4 (h : ByteArray) : (h.toList == (⟨#[117, 112]⟩ : ByteArray).toList) = decide (kwd h = 4) := by rw [iy]; exact decide_eq_decide.2 kw4
theorem kw5 {h : ByteArray} : h = (⟨#[112, 117, 98, 108, 105, 115, 104]⟩ : ByteArray) ↔ kwd h = 5 := na (i := 4) (by decide)
theorem kwb5 (h : ByteArray) : (h.toList == (⟨#[112, 117, 98, 108, 105, 115, 104]⟩ : ByteArray).toList) = decide (kwd h = 5) := by rw [iy]; exact decide_eq_decide.2 kw5
theorem kw6 {h : ByteArray} : h = (⟨#[97, 114, 99, 104, 105, 118, 101]⟩ : ByteArray) ↔ kwd h = 6 := na (i := 5) (by decide)
theorem kwb6 (h : ByteArray) : (h.toList == (⟨#[97, 114, 99, 104, 105, 118, 101]⟩ : ByteArray).toList) = decide (kwd h = 6) := by rw [iy]; exact decide_eq_decide.2 kw6
theorem kw7 {h : ByteArray} : h = (⟨#[108, 111, 99, 97, 116, 101]⟩ : ByteArray) ↔ kwd h = 7 := na (i := 6) (by decide)
theorem kwb7 (h : ByteArray) : (h.toList == (⟨#[108, 111, 99, 97, 116, 101]⟩ : ByteArray).toList) = decide (kwd h = 7) := by rw [iy]; exact decide_eq_decide.2 kw7
theorem kw8 {h : ByteArray} : h = (⟨#[114, 101, 118, 105, 101, 119]⟩ : ByteArray) ↔ kwd h = 8 := na (i := 7) (by decide)
theorem kwb8 (h : ByteArray) : (h.toList == (⟨#[114, 101, 118, 105, 101, 119]⟩ : ByteArray).toList) = decide (kwd h = 8) := by rw [iy]; exact decide_eq_decide.2 kw8
theorem kw9 {h : ByteArray} : h = (⟨#[116, 101, 120, 116]⟩ : ByteArray) ↔ kwd h = 9 := na (i := 8) (by decide)
theorem kwb9 (h : ByteArray) : (h.toList == (⟨#[116, 101, 120, 116]⟩ : ByteArray).toList) = decide (kwd h = 9) := by rw [iy]; exact decide_eq_decide.2 kw9
theorem kw10 {h : ByteArray} : h = (⟨#[110, 111, 119]⟩ : ByteArray) ↔ kwd h = 10 := na (i := 9) (by decide)
theorem av2 (h : ByteArray) : (h.toList == (⟨#[110, 111, 119]⟩ : ByteArray).toList) = decide (kwd h = 10) := by rw [iy]; exact decide_eq_decide.2 kw10
theorem kw11 {h : ByteArray} : h = (⟨#[112, 111, 115, 116, 115]⟩ : ByteArray) ↔ kwd h = 11 := na (i := 10) (by decide)
theorem av5 (h : ByteArray) : (h.toList == (⟨#[112, 111, 115, 116, 115]⟩ : ByteArray).toList) = decide (kwd h = 11) := by rw [iy]; exact decide_eq_decide.2 kw11
theorem kw12 {h : ByteArray} : h = (⟨#[116, 111, 100, 111]⟩ : ByteArray) ↔ kwd h = 12 := na (i := 11) (by decide)
theorem avr (h : ByteArray) : (h.toList == (⟨#[116, 111, 100, 111]⟩ : ByteArray).toList) = decide (kwd h = 12) := by rw [iy]; exact decide_eq_decide.2 kw12
theorem kw13 {h : ByteArray} : h = (⟨#[115, 116, 97, 116, 101, 115]⟩ : ByteArray) ↔ kwd h = 13 := na (i := 12) (by decide)
theorem auo (h : ByteArray) : (h.toList == (⟨#[115, 116, 97, 116, 101, 115]⟩ : ByteArray).toList) = decide (kwd h = 13) := by rw [iy]; exact decide_eq_decide.2 kw13
theorem kw14 {h : ByteArray} : h = (⟨#[108, 111, 110, 103, 101, 115, 116]⟩ : ByteArray) ↔ kwd h = 14 := na (i := 13) (by decide)
theorem avf (h : ByteArray) : (h.toList == (⟨#[108, 111, 110, 103, 101, 115, 116]⟩ : ByteArray).toList) = decide (kwd h = 14) := by rw [iy]; exact decide_eq_decide.2 kw14
def jo (q : Nat) (ns : List Int) : Option (Int × Int × Int) := match ns with
 | [] => if q = 2 then some (4, 0, 0) else none
 | [n] => if q = 1 then some (1, 0, n) else if q = 3 then some (2, n, 0) else if q = 4 then some (3, n, 0) else if q = 5 then some (7, n, 0) else if q = 6 then some (8, n, 0) else none
 | [n, v] => if q = 7 then some (5, n, v) else if q = 8 then some (6, n, v) else none
 | _ => none
def ups (w : ab) : List Int := sq w.Posts w.Posts.length
def zk (w : ab) (n : Int) : Option ByteArray := (w.Shocks.find? (dt n)).map jk
def lgO (w : ab) : Option (Int × Int) := match ld w.Posts w.Posts.length with
 | none => none
 | some b => match w.Posts[b]? with
  | some p => some (p.Station, w.Now - p.Since)
  | none => none
def jx (w : ab) (k n : Int) : Option ByteArray :=
 if k = 1 then some (num w.Now) else if k = 2 ∨ k = 3 then some (lg (ups w)) else if k = 4 then some (num (w.Next - 1)) else if k = 8 then some (num w.Archived) else zk w n
def wo (w : ab) (q : Nat) : Option ByteArray :=
 if q = 10 then some (num w.Now) else if q = 11 then some (lg (ups w)) else if q = 12 then some (lg ((ov w).map aj.Number)) else if q = 13 then some (lg (cw w.Shocks)) else if q = 14 then (lgO w).map fun p => lg [p.1, p.2] else none
noncomputable def uj (L : List ByteArray) : Option (List Int) := if L.all (fun s => (cy s).isSome) = true then some (L.map fun s => (cy s).getD 0) else none
def lj (w : ab) (k n v : Int) : ab × ByteArray := match fi w k n v with
 | none => (w, wQ)
 | some b => (b, (jx b k n).getD wQ)
noncomputable def mj (w : ab) (q : Nat) (ns : List Int) : ab × ByteArray := match jo q ns with
 | some (k, n, v) => lj w k n v
 | none => match ns with
  | [] => (w, (wo w q).getD wQ)
  | [n] => (w, if q = 9 then (zk w n).getD wQ else wQ)
  | _ => (w, wQ)
noncomputable def fy (w : ab) (line : ByteArray) : ab × ByteArray := match uj (gi 32 line).tail with
 | none => (w, wQ)
 | some ns => mj w (kwd ((gi 32 line).headD ⟨#[]⟩)) ns
theorem aaq {w : ab} (h : wB w = true) (n : Int) : jf w n = .tup [.str ((zk w n).getD ByteArray.empty), .bool (zk w n).isSome] := by
 rw [jf, if_pos h, zk]
 cases w.Shocks.find? (dt n) <;> rfl
theorem ajx {w : ab} (h : wB w = true) : np w = [.int .i64 ((lgO w).map Prod.fst |>.getD 0), .int .i64 ((lgO w).map Prod.snd |>.getD 0), .bool (lgO w).isSome] := by
 rw [np, if_pos h, lgO]
 cases ld w.Posts w.Posts.length with
 | none => rfl
 | some b =>
  dsimp only
  cases w.Posts[b]? <;> rfl
theorem apd {w : ab} (h : wB w = true) : upR w = some (ups w) := if_pos h
theorem acs {w : ab} (h : wB w = true) : kp w = some ((ov w).map aj.Number) := if_pos h
theorem aei {w : ab} (h : wB w = true) : px w = some (cw w.Shocks) := if_pos h
theorem apb {s : ByteArray} : -999999 ≤ (cy s).getD 0 ∧ (cy s).getD 0 ≤ 999999 := by
 cases h : cy s with
 | none => exact ⟨by decide, by decide⟩
 | some n => exact ⟨(xx h).1, (xx h).2.1⟩
theorem aam {L : List ByteArray} {ns : List Int} (h : uj L = some ns) : ∀ n ∈ ns, -999999 ≤ n ∧ n ≤ 999999 := by
 unfold uj at h
 split at h
 · simp only [Option.some.injEq] at h
   subst h
   intro n hn
   obtain ⟨s, _, rfl⟩ := List.mem_map.1 hn
   exact apb
 · cases h
theorem aoy {c : UInt8} {s x : ByteArray} (h : gi c s = [x]) : x = s := by
 obtain ⟨l, h1, h2⟩ := qd c s
 rw [h1] at h
 injection h with h3 h4
 have h5 := h2.1 h4
 rw [← h3, bef, if_neg (by rw [fnd] at h5; simpa using h5)]
theorem aas (c : UInt8) (s : ByteArray) : ∃ x l, gi c s = x :: l := by
 obtain ⟨l, h1, _⟩ := qd c s
 exact ⟨_, _, h1⟩
theorem ac1 (c : UInt8) (s : ByteArray) : (gi c s).length ≤ s.size + 1 := by
 have := (ade c s s.size (Nat.le_refl _)).2
 rw [gi, List.length_append]
 simp only [List.length_cons, List.length_nil]; omega
theorem aa9 {L : List ByteArray} {i : Nat} (hi : i < L.length) (h : (cy L[i]).isSome = false) : uj L = none := by
 rw [uj, if_neg]
 intro h2
 have := List.all_eq_true.1 h2 _ (List.getElem_mem hi)
 rw [h] at this; cases this
theorem yd {L : List ByteArray} (h : (L.take L.length).all (fun s => (cy s).isSome) = true) : uj L = some (L.map fun s => (cy s).getD 0) := by
 rw [List.take_length] at h
 rw [uj, if_pos h]
end Go.Proofs
end
section
set_option maxRecDepth 100000
set_option maxHeartbeats 4000000
namespace Go.Proofs
open Go.Lv
theorem wj (L : List Int) (hL : ∀ n ∈ L, bt n) (hl : L.length ≤ 100000) : Ctr Tryz.prog 110 [IntS.sl L] [] (.str (lg L)) [] := by
 by_cases he : L = []
 · have c0 : ((L.length : Int) == 0) = true := by rw [he]; rfl
   refine Ctr.intro Tryz.mixed Tryz.func110 rfl Tryz.aph ?_
   refine ev2 @Tryz.ntmps110 @Tryz.results110 ?_
   refine rn1 @c0 ?_
   exact ak.au (by rw [lg, if_pos he]; rfl) (by rfl)
 have hpos : 0 < L.length := List.length_pos_iff.2 he
 have c0 : ((L.length : Int) == 0) = false := by simp; omega
 refine Ctr.intro Tryz.mixed Tryz.func110 rfl Tryz.aph ?_
 refine ev2 @Tryz.ntmps110 @Tryz.results110 ?_
 refine rn1 @c0 ?_
 refine dh.intro (fun i : Nat => i ≤ L.length) (fun i => ⟨(un 3 (.osl 0 0 i 1 :: (un 6 (IntS.sl L :: .int .i64 L.length :: .int .i64 i :: (un 11 []))))), [some (rows StringS.cs ((L.take i).map num))], 0⟩) (fun i => L.length - i) 0 (Nat.zero_le _) ?_ (fun i hi => ?_)
 · refine aq.cut (1) (by simp) (by simp) ?_ ?_
   · simp [LeC, LeV, ren, bj]
   · rfl
 refine ev0 ?_
 refine ax.split (fun h1 => ?_) (fun h1 => ?_)
 · have hi' : i < L.length := by have := of_decide_eq_true h1; omega
   have hr := bw IntS.csl hi'
   have hst : (L.take (i + 1)).map num = (L.take i).map num ++ [num L[i]] := by rw [List.take_succ_eq_append_getElem hi', List.map_append]; rfl
   have hlen : ((L.take i).map num).length = i := by simp; omega
   refine rn3 @h1 @hr @IntS.cs.eq_1 ?_
   (first | refine al.at (lu L[i] (hL _ (List.getElem_mem hi'))) ⟨leA, trivial⟩ ?_ | refine ai.at (lu L[i] (hL _ (List.getElem_mem hi'))) ⟨leA, trivial⟩ ?_)
   refine rn4 @bb @bh @Nat.mul_one @hlen ?_
   refine ⟨i + 1, hi', ?_, by omega⟩
   refine aq.cut (1) (by simp) (by simp) ?_ ?_
   · simp [LeC, LeV, ren, bj]
   · rw [hst, ← di]
     simp [bz, ck, ren, bj, ae, dd, StringS.cs]
 · have hi' : i = L.length := by have := of_decide_eq_false h1; omega
   subst hi'
   have hsz := xu L hL
   have hjl := age L
   refine rn2 @h1 @List.take_length.{0} ?_
   (have ct := aue (L.map num) (by rw [← hjl, gf]; omega) (by simp; omega); (first | refine al.at ct ⟨leA, leA, trivial⟩ ?_ | refine ai.at ct ⟨leA, leA, trivial⟩ ?_); clear ct)
   refine rn0 ?_
   refine ak.au ?_ (by rfl)
   rw [lg, if_neg he, ← hjl]
def abm (o : Option (Int × Int × Int)) : V := .agg [.int .i64 ((o.map fun p => p.1).getD 0), .int .i64 ((o.map fun p => p.2.1).getD 0), .int .i64 ((o.map fun p => p.2.2).getD 0)]
def M1 : List (Value × Value) := [(.string ⟨#[100, 111, 119, 110]⟩, .int .i64 2), (.string ⟨#[117, 112]⟩, .int .i64 3), (.string ⟨#[112, 117, 98, 108, 105, 115, 104]⟩, .int .i64 7), (.string ⟨#[97, 114, 99, 104, 105, 118, 101]⟩, .int .i64 8)]
def M2 : List (Value × Value) := [(.string ⟨#[108, 111, 99, 97, 116, 101]⟩, .int .i64 5), (.string ⟨#[114, 101, 118, 105, 101, 119]⟩, .int .i64 6)]
theorem aww (a b : ByteArray) : (a == b) = decide (a = b) := by
 by_cases e : a = b
 · subst e; simp only [decide_true]; exact (Go.MapKept.bytes_beq a a).2 rfl
 · rw [decide_eq_false e]
   cases h : (a == b)
   · rfl
   · exact absurd ((Go.MapKept.bytes_beq a b).1 h) e
theorem aa3 {a b : ByteArray} (h : ¬ a = b) : (a == b) = false := by rw [aww]; exact decide_eq_false h
theorem a3u (h : ByteArray) : kb .string (.string h) M1 0 = some (if kwd h = 3 then some (0, .int .i64 2) else if kwd h = 4 then some (1, .int .i64 3) else if kwd h = 5 then some (2, .int .i64 7) else if kwd h = 6 then some (3, .int .i64 8) else none) := by
 by_cases c3 : kwd h = 3
 · rw [if_pos c3]; have := kw3.2 c3; subst this; rfl
 by_cases c4 : kwd h = 4
 · rw [if_neg c3, if_pos c4]; have := kw4.2 c4; subst this; rfl
 by_cases c5 : kwd h = 5
 · rw [if_neg c3, if_neg c4, if_pos c5]; have := kw5.2 c5; subst this; rfl
 by_cases c6 : kwd h = 6
 · rw [if_neg c3, if_neg c4, if_neg c5, if_pos c6]; have := kw6.2 c6; subst this; rfl
 rw [if_neg c3, if_neg c4, if_neg c5, if_neg c6]
 simp only [M1, kb, Instr.sameNow, aa3 (fun e => c3 (kw3.1 e)), aa3 (fun e => c4 (kw4.1 e)), aa3 (fun e => c5 (kw5.1 e)), aa3 (fun e => c6 (kw6.1 e))]
theorem a42 (h : ByteArray) : kb .string (.string h) M2 0 = some (if kwd h = 7 then some (0, .int .i64 5) else if kwd h = 8 then some (1, .int .i64 6) else none) := by
 by_cases c3 : kwd h = 7
 · rw [if_pos c3]; have := kw7.2 c3; subst this; rfl
 by_cases c4 : kwd h = 8
 · rw [if_neg c3, if_pos c4]; have := kw8.2 c4; subst this; rfl
 rw [if_neg c3, if_neg c4]
 simp only [M2, kb, Instr.sameNow, aa3 (fun e => c3 (kw7.1 e)), aa3 (fun e => c4 (kw8.1 e))]
theorem aga (h : ByteArray) (ns : List Int) (hl : ns.length ≤ 100000) : Ctr Tryz.prog 71 [.str h, IntS.sl ns] [] (.tup [abm (jo (kwd h) ns), .bool (jo (kwd h) ns).isSome]) [] := by
 have f1 : kb .string (.string ⟨#[100, 111, 119, 110]⟩) [] 0 = some none := rfl
 have f2 : kb .string (.string ⟨#[117, 112]⟩) [(.string ⟨#[100, 111, 119, 110]⟩, .int .i64 2)] 0 = some none := by kernel_rfl
 have f3 : kb .string (.string ⟨#[112, 117, 98, 108, 105, 115, 104]⟩) [(.string ⟨#[100, 111, 119, 110]⟩, .int .i64 2), (.string ⟨#[117, 112]⟩, .int .i64 3)] 0 = some none := by kernel_rfl
 have f4 : kb .string (.string ⟨#[97, 114, 99, 104, 105, 118, 101]⟩) [(.string ⟨#[100, 111, 119, 110]⟩, .int .i64 2), (.string ⟨#[117, 112]⟩, .int .i64 3), (.string ⟨#[112, 117, 98, 108, 105, 115, 104]⟩, .int .i64 7)] 0 = some none := by kernel_rfl
 have f5 : kb .string (.string ⟨#[108, 111, 99, 97, 116, 101]⟩) [] 0 = some none := rfl
 have f6 : kb .string (.string ⟨#[114, 101, 118, 105, 101, 119]⟩) [(.string ⟨#[108, 111, 99, 97, 116, 101]⟩, .int .i64 5)] 0 = some none := by kernel_rfl
 have k1 := a3u h
 have k2 := a42 h
 have hb1 := kwb1 h
 have hb2 := kwb2 h
 have hq14 := ayp h
 generalize kwd h = q at *
 have hM1 : [(Value.string ⟨#[100, 111, 119, 110]⟩, Value.int .i64 2), (.string ⟨#[117, 112]⟩, .int .i64 3), (.string ⟨#[112, 117, 98, 108, 105, 115, 104]⟩, .int .i64 7), (.string ⟨#[97, 114, 99, 104, 105, 118, 101]⟩, .int .i64 8)] = M1 := rfl
 have hM2 : [(Value.string ⟨#[108, 111, 99, 97, 116, 101]⟩, Value.int .i64 5), (.string ⟨#[114, 101, 118, 105, 101, 119]⟩, .int .i64 6)] = M2 := rfl
 have hq : q = 0 ∨ q = 1 ∨ q = 2 ∨ q = 3 ∨ q = 4 ∨ q = 5 ∨ q = 6 ∨ q = 7 ∨ q = 8 ∨ 9 ≤ q := by omega
 have z00 : (((0 : Nat) : Int) == 0) = true := rfl
 have z01 : (((0 : Nat) : Int) == 1) = false := rfl
 have z02 : (((0 : Nat) : Int) == 2) = false := rfl
 have z10 : (((1 : Nat) : Int) == 0) = false := rfl
 have z11 : (((1 : Nat) : Int) == 1) = true := rfl
 have z12 : (((1 : Nat) : Int) == 2) = false := rfl
 have z20 : (((2 : Nat) : Int) == 0) = false := rfl
 have z21 : (((2 : Nat) : Int) == 1) = false := rfl
 have z22 : (((2 : Nat) : Int) == 2) = true := rfl
 rcases ns with _ | ⟨n1, _ | ⟨n2, _ | ⟨n3, L⟩⟩⟩
 · have c0 : ((([] : List Int).length : Int) == 0) = true := rfl
   have c1 : ((([] : List Int).length : Int) == 1) = false := rfl
   have c2 : ((([] : List Int).length : Int) == 2) = false := rfl
   rcases hq with rfl | rfl | rfl | rfl | rfl | rfl | rfl | rfl | rfl | hq
   all_goals (try simp only [Nat.reduceEqDiff, if_false, if_true] at k1 k2)
   case inr.inr.inr.inr.inr.inr.inr.inr.inr =>
    rw [if_neg (by omega), if_neg (by omega), if_neg (by omega), if_neg (by omega)] at k1
    rw [if_neg (by omega), if_neg (by omega)] at k2
    have d1 : decide (q = 1) = false := decide_eq_false (by omega)
    have d2 : decide (q = 2) = false := decide_eq_false (by omega)
    have e : jo q ([] : List Int) = none := by simp only [jo]; (repeat rw [if_neg (by omega)])
    rw [e]
    refine Ctr.intro Tryz.mixed Tryz.func71 rfl Tryz.abn ?_
    refine ev2 @Tryz.ntmps71 @Tryz.results71 ?_
    (repeat ((repeat1' (first | simp -implicitDefEqProofs -dsimp only [go_sem, f1, f2, f3, f4, f5, f6, u4, List.nil_append, List.cons_append, hM1, hM2, hb1, hb2, d1, d2, c0, c1, c2, z00, z01, z02, z10, z11, z12, z20, z21, z22, k1, k2] | simp -dsimp (disch := omega) only [wrap_i64])); repeat (with_reducible refine de ?_)))
    exact ak.au rfl (by rfl)
   all_goals
    refine Ctr.intro Tryz.mixed Tryz.func71 rfl Tryz.abn ?_
    refine ev2 @Tryz.ntmps71 @Tryz.results71 ?_
    (repeat ((repeat1' (first | simp -implicitDefEqProofs -dsimp only [go_sem, f1, f2, f3, f4, f5, f6, u4, List.nil_append, List.cons_append, hM1, hM2, hb1, hb2, c0, c1, c2, z00, z01, z02, z10, z11, z12, z20, z21, z22, k1, k2, c0] | simp -dsimp (disch := omega) only [wrap_i64])); repeat (with_reducible refine de ?_)))
    first | exact ak.au rfl (by rfl) | skip
 · have c0 : ((([n1] : List Int).length : Int) == 0) = false := rfl
   have c1 : ((([n1] : List Int).length : Int) == 1) = true := rfl
   have c2 : ((([n1] : List Int).length : Int) == 2) = false := rfl
   have hr0 : rows IntS.cs [n1] = [.int .i64 n1] := rfl
   rcases hq with rfl | rfl | rfl | rfl | rfl | rfl | rfl | rfl | rfl | hq
   all_goals (try simp only [Nat.reduceEqDiff, if_false, if_true] at k1 k2)
   case inr.inr.inr.inr.inr.inr.inr.inr.inr =>
    rw [if_neg (by omega), if_neg (by omega), if_neg (by omega), if_neg (by omega)] at k1
    rw [if_neg (by omega), if_neg (by omega)] at k2
    have d1 : decide (q = 1) = false := decide_eq_false (by omega)
    have d2 : decide (q = 2) = false := decide_eq_false (by omega)
    have e : jo q [n1] = none := by simp only [jo]; (repeat rw [if_neg (by omega)])
    rw [e]
    refine Ctr.intro Tryz.mixed Tryz.func71 rfl Tryz.abn ?_
    refine ev2 @Tryz.ntmps71 @Tryz.results71 ?_
    (repeat ((repeat1' (first | simp -implicitDefEqProofs -dsimp only [go_sem, f1, f2, f3, f4, f5, f6, u4, List.nil_append, List.cons_append, hM1, hM2, hb1, hb2, d1, d2, c0, c1, c2, z00, z01, z02, z10, z11, z12, z20, z21, z22, k1, k2] | simp -dsimp (disch := omega) only [wrap_i64])); repeat (with_reducible refine de ?_)))
    exact ak.au rfl (by rfl)
   all_goals
    refine Ctr.intro Tryz.mixed Tryz.func71 rfl Tryz.abn ?_
    refine ev2 @Tryz.ntmps71 @Tryz.results71 ?_
    (repeat ((repeat1' (first | simp -implicitDefEqProofs -dsimp only [go_sem, f1, f2, f3, f4, f5, f6, u4, List.nil_append, List.cons_append, hM1, hM2, hb1, hb2, c0, c1, c2, z00, z01, z02, z10, z11, z12, z20, z21, z22, k1, k2, hr0] | simp -dsimp (disch := omega) only [wrap_i64])); repeat (with_reducible refine de ?_)))
    first | exact ak.au rfl (by rfl) | skip
 · have c0 : ((([n1, n2] : List Int).length : Int) == 0) = false := rfl
   have c1 : ((([n1, n2] : List Int).length : Int) == 1) = false := rfl
   have c2 : ((([n1, n2] : List Int).length : Int) == 2) = true := rfl
   have hr0 : rows IntS.cs [n1, n2] = [.int .i64 n1, .int .i64 n2] := rfl
   rcases hq with rfl | rfl | rfl | rfl | rfl | rfl | rfl | rfl | rfl | hq
   all_goals (try simp only [Nat.reduceEqDiff, if_false, if_true] at k1 k2)
   case inr.inr.inr.inr.inr.inr.inr.inr.inr =>
    rw [if_neg (by omega), if_neg (by omega), if_neg (by omega), if_neg (by omega)] at k1
    rw [if_neg (by omega), if_neg (by omega)] at k2
    have d1 : decide (q = 1) = false := decide_eq_false (by omega)
    have d2 : decide (q = 2) = false := decide_eq_false (by omega)
    have e : jo q [n1, n2] = none := by simp only [jo]; (repeat rw [if_neg (by omega)])
    rw [e]
    refine Ctr.intro Tryz.mixed Tryz.func71 rfl Tryz.abn ?_
    refine ev2 @Tryz.ntmps71 @Tryz.results71 ?_
    (repeat ((repeat1' (first | simp -implicitDefEqProofs -dsimp only [go_sem, f1, f2, f3, f4, f5, f6, u4, List.nil_append, List.cons_append, hM1, hM2, hb1, hb2, d1, d2, c0, c1, c2, z00, z01, z02, z10, z11, z12, z20, z21, z22, k1, k2] | simp -dsimp (disch := omega) only [wrap_i64])); repeat (with_reducible refine de ?_)))
    exact ak.au rfl (by rfl)
   all_goals
    refine Ctr.intro Tryz.mixed Tryz.func71 rfl Tryz.abn ?_
    refine ev2 @Tryz.ntmps71 @Tryz.results71 ?_
    (repeat ((repeat1' (first | simp -implicitDefEqProofs -dsimp only [go_sem, f1, f2, f3, f4, f5, f6, u4, List.nil_append, List.cons_append, hM1, hM2, hb1, hb2, c0, c1, c2, z00, z01, z02, z10, z11, z12, z20, z21, z22, k1, k2, hr0] | simp -dsimp (disch := omega) only [wrap_i64])); repeat (with_reducible refine de ?_)))
    first | exact ak.au rfl (by rfl) | skip
 · have c1 : (((n1 :: n2 :: n3 :: L).length : Int) == 1) = false := by simp; omega
   have c2 : (((n1 :: n2 :: n3 :: L).length : Int) == 2) = false := by simp; omega
   have c0 : (((n1 :: n2 :: n3 :: L).length : Int) == 0) = false := by simp; omega
   have e : jo q (n1 :: n2 :: n3 :: L) = none := rfl
   rw [e]
   clear e
   generalize n1 :: n2 :: n3 :: L = ns at *
   rcases hq with rfl | rfl | rfl | rfl | rfl | rfl | rfl | rfl | rfl | hq
   all_goals (try simp only [Nat.reduceEqDiff, if_false, if_true] at k1 k2)
   case inr.inr.inr.inr.inr.inr.inr.inr.inr =>
    rw [if_neg (by omega), if_neg (by omega), if_neg (by omega), if_neg (by omega)] at k1
    rw [if_neg (by omega), if_neg (by omega)] at k2
    have d1 : decide (q = 1) = false := decide_eq_false (by omega)
    have d2 : decide (q = 2) = false := decide_eq_false (by omega)
    refine Ctr.intro Tryz.mixed Tryz.func71 rfl Tryz.abn ?_
    refine ev2 @Tryz.ntmps71 @Tryz.results71 ?_
    (repeat ((repeat1' (first | simp -implicitDefEqProofs -dsimp only [go_sem, f1, f2, f3, f4, f5, f6, u4, List.nil_append, List.cons_append, hM1, hM2, hb1, hb2, d1, d2, c0, c1, c2, z00, z01, z02, z10, z11, z12, z20, z21, z22, k1, k2] | simp -dsimp (disch := omega) only [wrap_i64])); repeat (with_reducible refine de ?_)))
    exact ak.au rfl (by rfl)
   all_goals
    refine Ctr.intro Tryz.mixed Tryz.func71 rfl Tryz.abn ?_
    refine ev2 @Tryz.ntmps71 @Tryz.results71 ?_
    (repeat ((repeat1' (first | simp -implicitDefEqProofs -dsimp only [go_sem, f1, f2, f3, f4, f5, f6, u4, List.nil_append, List.cons_append, hM1, hM2, hb1, hb2, c0, c1, c2, z00, z01, z02, z10, z11, z12, z20, z21, z22, k1, k2, c0] | simp -dsimp (disch := omega) only [wrap_i64])); repeat (with_reducible refine de ?_)))
    first | exact ak.au rfl (by rfl) | skip
end Go.Proofs
end
section
set_option maxRecDepth 100000
set_option maxHeartbeats 4000000
namespace Go.Proofs
open Go.Lv
def ah.oc (c : ah) (i j : Nat) : List V := [.int .i64 c.ab.Now, .osl i 0 c.ab.Posts.length 3, .osl j 0 c.ab.Shocks.length 5, .int .i64 c.ab.Next, .int .i64 c.ab.Archived, .str c.Log.Durable, .str c.Log.Pending, .int .i64 c.Log.Count]
def cW (c : ah) (b : ab) : ah := ⟨b, c.Log⟩
theorem am5 (c : ah) (k n v : Int) (hw : wB c.ab = true) (hs : fi c.ab k n v = none) : Ctr Tryz.prog 72 [.ptr 0 0, .agg [.int .i64 k, .int .i64 n, .int .i64 v]] [some (c.oc 1 2), some (rows bf.cs c.ab.Posts), some (rows aj.cs c.ab.Shocks)] (.tup [.str ⟨#[]⟩, .bool false]) [some (c.oc 1 2), some (rows bf.cs c.ab.Posts), some (rows aj.cs c.ab.Shocks)] := by
 have W := eh hw
 have pl := W.plen
 have sl := W.slen
 have iS := xh c.ab k n v (by omega) (by omega)
 rw [hs] at iS
 simp only [ado, ad6] at iS
 refine Ctr.intro Tryz.mixed Tryz.func72 rfl Tryz.yk ?_
 refine ev2 @Tryz.ntmps72 @Tryz.results72 ?_
 refine rn1 @ah.oc.eq_1 ?_
 (first | refine al.at (iS) ⟨leA, leA, trivial⟩ ?_ | refine ai.at (iS) ⟨leA, leA, trivial⟩ ?_)
 refine rn1 @ai5.eq_1 ?_
 refine ak.pick [0, 1, 2] (by decide) (by decide) (.inl rfl) ?_
 simp [az, bg, ren, bc, posOf, ae, ah.oc]
theorem aln (c : ah) (b : ab) (k n v : Int) (hs : fi c.ab k n v = some b) : Ctr Tryz.prog 72 [.ptr 0 0, .agg [.int .i64 k, .int .i64 n, .int .i64 v]] [some (c.oc 1 2), some (rows bf.cs c.ab.Posts), some (rows aj.cs c.ab.Shocks)] (.tup [.str ((jx b k n).getD ⟨#[]⟩), .bool (jx b k n).isSome]) [some ((cW c b).oc 3 4), some (rows bf.cs c.ab.Posts), some (rows aj.cs c.ab.Shocks), some (rows bf.cs b.Posts), some (rows aj.cs b.Shocks)] := by
 obtain ⟨hw, hst, _, _, hb⟩ := x7 hs
 have W := eh hw
 have pl := W.plen
 have sl := W.slen
 have B := eh hb
 have bl := B.plen
 have bs := B.slen
 have bn := B.now
 have bx := B.next
 have ba := B.arch
 have iS := xh c.ab k n v (by omega) (by omega)
 rw [hs] at iS
 simp only [ado, ad6] at iS
 have hup := uk b (by omega)
 have hlt := wj (ups b) (fun x hx => by
  obtain ⟨p, hp, rfl⟩ := List.mem_map.1 hx
  have := (mh.1 (B.posts p (List.mem_of_mem_take (List.mem_filter.1 hp).1))).1
  exact ⟨by omega, by omega⟩) (by have := yx b.Posts b.Posts.length; rw [ups]; omega)
 rcases pn hst with ⟨rfl, h1⟩ | hk | rfl | rfl | ⟨hk, h1⟩
 · have e : jx b 1 n = some (num b.Now) := rfl
   rw [e]
   refine Ctr.intro Tryz.mixed Tryz.func72 rfl Tryz.yk ?_
   refine ev2 @Tryz.ntmps72 @Tryz.results72 ?_
   refine rn1 @ah.oc.eq_1 ?_
   (first | refine al.at (iS) ⟨leA, leA, trivial⟩ ?_ | refine ai.at (iS) ⟨leA, leA, trivial⟩ ?_)
   refine rn2 @ab.o.eq_1 @ah.oc.eq_1 ?_
   (have ct := lu b.Now ⟨by omega, by omega⟩; (first | refine al.at ct ⟨leA, trivial⟩ ?_ | refine ai.at ct ⟨leA, trivial⟩ ?_); clear ct)
   refine rn1 @ah.oc.eq_1 ?_
   refine ak.pick [0, 1, 2, 4, 5] (by decide) (by decide) (.inl rfl) ?_
   simp [az, bg, ren, bc, posOf, ae, ah.oc, cW]
 · have e : jx b k n = some (lg (ups b)) := by rcases hk with rfl | rfl <;> rfl
   rw [e]
   rcases hk with rfl | rfl
   · skip
     refine Ctr.intro Tryz.mixed Tryz.func72 rfl Tryz.yk ?_
     refine ev2 @Tryz.ntmps72 @Tryz.results72 ?_
     refine rn1 @ah.oc.eq_1 ?_
     (first | refine al.at (iS) ⟨leA, leA, trivial⟩ ?_ | refine ai.at (iS) ⟨leA, leA, trivial⟩ ?_)
     refine rn2 @ab.o.eq_1 @ah.oc.eq_1 ?_
     (first | refine al.at (hup) ⟨leA, trivial⟩ ?_ | refine ai.at (hup) ⟨leA, trivial⟩ ?_)
     refine rn1 @ah.oc.eq_1 ?_
     (first | refine al.at (hlt) ⟨leA, trivial⟩ ?_ | refine ai.at (hlt) ⟨leA, trivial⟩ ?_)
     refine rn1 @ah.oc.eq_1 ?_
     refine ak.pick [0, 1, 2, 4, 5] (by decide) (by decide) (.inl rfl) ?_
     simp [az, bg, ren, bc, posOf, ae, ah.oc, cW]
   · skip
     refine Ctr.intro Tryz.mixed Tryz.func72 rfl Tryz.yk ?_
     refine ev2 @Tryz.ntmps72 @Tryz.results72 ?_
     refine rn1 @ah.oc.eq_1 ?_
     (first | refine al.at (iS) ⟨leA, leA, trivial⟩ ?_ | refine ai.at (iS) ⟨leA, leA, trivial⟩ ?_)
     refine rn2 @ab.o.eq_1 @ah.oc.eq_1 ?_
     (first | refine al.at (hup) ⟨leA, trivial⟩ ?_ | refine ai.at (hup) ⟨leA, trivial⟩ ?_)
     refine rn1 @ah.oc.eq_1 ?_
     (first | refine al.at (hlt) ⟨leA, trivial⟩ ?_ | refine ai.at (hlt) ⟨leA, trivial⟩ ?_)
     refine rn1 @ah.oc.eq_1 ?_
     refine ak.pick [0, 1, 2, 4, 5] (by decide) (by decide) (.inl rfl) ?_
     simp [az, bg, ren, bc, posOf, ae, ah.oc, cW]
 · have e : jx b 4 n = some (num (b.Next - 1)) := rfl
   rw [e]
   refine Ctr.intro Tryz.mixed Tryz.func72 rfl Tryz.yk ?_
   refine ev2 @Tryz.ntmps72 @Tryz.results72 ?_
   refine rn1 @ah.oc.eq_1 ?_
   (first | refine al.at (iS) ⟨leA, leA, trivial⟩ ?_ | refine ai.at (iS) ⟨leA, leA, trivial⟩ ?_)
   refine rn2 @ab.o.eq_1 @ah.oc.eq_1 ?_
   (have ct := lu (b.Next - 1) ⟨by omega, by omega⟩; (first | refine al.at ct ⟨leA, trivial⟩ ?_ | refine ai.at ct ⟨leA, trivial⟩ ?_); clear ct)
   refine rn1 @ah.oc.eq_1 ?_
   refine ak.pick [0, 1, 2, 4, 5] (by decide) (by decide) (.inl rfl) ?_
   simp [az, bg, ren, bc, posOf, ae, ah.oc, cW]
 · have e : jx b 8 n = some (num b.Archived) := rfl
   rw [e]
   refine Ctr.intro Tryz.mixed Tryz.func72 rfl Tryz.yk ?_
   refine ev2 @Tryz.ntmps72 @Tryz.results72 ?_
   refine rn1 @ah.oc.eq_1 ?_
   (first | refine al.at (iS) ⟨leA, leA, trivial⟩ ?_ | refine ai.at (iS) ⟨leA, leA, trivial⟩ ?_)
   refine rn2 @ab.o.eq_1 @ah.oc.eq_1 ?_
   (have ct := lu b.Archived ⟨by omega, by omega⟩; (first | refine al.at ct ⟨leA, trivial⟩ ?_ | refine ai.at ct ⟨leA, trivial⟩ ?_); clear ct)
   refine rn1 @ah.oc.eq_1 ?_
   refine ak.pick [0, 1, 2, 4, 5] (by decide) (by decide) (.inl rfl) ?_
   simp [az, bg, ren, bc, posOf, ae, ah.oc, cW]
 · have hT := xj b n (by omega) (by omega)
   rw [aaq hb] at hT
   have e : jx b k n = zk b n := by rcases hk with rfl | rfl | rfl <;> rfl
   rw [e]
   rcases hk with rfl | rfl | rfl
   · skip
     refine Ctr.intro Tryz.mixed Tryz.func72 rfl Tryz.yk ?_
     refine ev2 @Tryz.ntmps72 @Tryz.results72 ?_
     refine rn1 @ah.oc.eq_1 ?_
     (first | refine al.at (iS) ⟨leA, leA, trivial⟩ ?_ | refine ai.at (iS) ⟨leA, leA, trivial⟩ ?_)
     refine rn2 @ab.o.eq_1 @ah.oc.eq_1 ?_
     (first | refine al.at (hT) ⟨leA, leA, trivial⟩ ?_ | refine ai.at (hT) ⟨leA, leA, trivial⟩ ?_)
     refine rn1 @ah.oc.eq_1 ?_
     refine ak.pick [0, 1, 2, 4, 5] (by decide) (by decide) (.inl rfl) ?_
     simp [az, bg, ren, bc, posOf, ae, ah.oc, cW]
   · skip
     refine Ctr.intro Tryz.mixed Tryz.func72 rfl Tryz.yk ?_
     refine ev2 @Tryz.ntmps72 @Tryz.results72 ?_
     refine rn1 @ah.oc.eq_1 ?_
     (first | refine al.at (iS) ⟨leA, leA, trivial⟩ ?_ | refine ai.at (iS) ⟨leA, leA, trivial⟩ ?_)
     refine rn2 @ab.o.eq_1 @ah.oc.eq_1 ?_
     (first | refine al.at (hT) ⟨leA, leA, trivial⟩ ?_ | refine ai.at (hT) ⟨leA, leA, trivial⟩ ?_)
     refine rn1 @ah.oc.eq_1 ?_
     refine ak.pick [0, 1, 2, 4, 5] (by decide) (by decide) (.inl rfl) ?_
     simp [az, bg, ren, bc, posOf, ae, ah.oc, cW]
   · skip
     refine Ctr.intro Tryz.mixed Tryz.func72 rfl Tryz.yk ?_
     refine ev2 @Tryz.ntmps72 @Tryz.results72 ?_
     refine rn1 @ah.oc.eq_1 ?_
     (first | refine al.at (iS) ⟨leA, leA, trivial⟩ ?_ | refine ai.at (iS) ⟨leA, leA, trivial⟩ ?_)
     refine rn2 @ab.o.eq_1 @ah.oc.eq_1 ?_
     (first | refine al.at (hT) ⟨leA, leA, trivial⟩ ?_ | refine ai.at (hT) ⟨leA, leA, trivial⟩ ?_)
     refine rn1 @ah.oc.eq_1 ?_
     refine ak.pick [0, 1, 2, 4, 5] (by decide) (by decide) (.inl rfl) ?_
     simp [az, bg, ren, bc, posOf, ae, ah.oc, cW]
end Go.Proofs
end
section
set_option maxRecDepth 100000
set_option maxHeartbeats 4000000
namespace Go.Proofs
open Go.Lv
theorem ap3 {α : Type} {lt : α → α → Bool} {y : α} {L : List α} (h : y ∈ cq lt L) : y ∈ L := by
 have key : ∀ (L S : List α), y ∈ L.foldl (ins lt) S → y ∈ S ∨ y ∈ L := by
  intro L
  induction L with
  | nil => intro S h; exact .inl h
  | cons a L ih =>
   intro S h
   rw [List.foldl_cons] at h
   rcases ih _ h with h | h
   · unfold ins putAt at h
     rcases List.mem_append.1 h with h | h
     · exact .inl (List.mem_of_mem_take h)
     · rcases List.mem_cons.1 h with h | h
       · exact .inr (h ▸ List.mem_cons_self)
       · exact .inl (List.mem_of_mem_drop h)
   · exact .inr (List.mem_cons_of_mem _ h)
 rcases key L [] h with h | h
 · cases h
 · exact h
theorem avz {w : ab} (h : wB w = true) : (∀ n ∈ ups w, bt n ∧ 1 ≤ n ∧ n ≤ 99) ∧ (ups w).length ≤ 8 := by
 have W := eh h
 refine ⟨fun x hx => ?_, by have := yx w.Posts w.Posts.length; have := W.plen; rw [ups]; omega⟩
 obtain ⟨p, hp, rfl⟩ := List.mem_map.1 hx
 have := (mh.1 (W.posts p (List.mem_of_mem_take (List.mem_filter.1 hp).1))).1
 exact ⟨⟨by omega, by omega⟩, this⟩
theorem avt {w : ab} (h : wB w = true) : (∀ n ∈ (ov w).map aj.Number, bt n ∧ 1 ≤ n ∧ n ≤ 999) ∧ ((ov w).map aj.Number).length ≤ 6 := by
 have W := eh h
 refine ⟨fun x hx => ?_, ?_⟩
 · obtain ⟨y, hy, rfl⟩ := List.mem_map.1 hx
   have := (er.1 (W.shocks y (List.mem_filter.1 (ap3 hy)).1)).1
   have := W.next
   exact ⟨⟨by omega, by omega⟩, by omega, by omega⟩
 · have h1 := List.length_filter_le kz w.Shocks
   have := W.slen
   rw [List.length_map, ov, jn]; omega
theorem au9 {w : ab} (h : wB w = true) : (∀ n ∈ cw w.Shocks, bt n ∧ 0 ≤ n ∧ n ≤ 6) ∧ (cw w.Shocks).length ≤ 8 := by
 have W := eh h
 have h1 := sa (L := w.Shocks) w.Shocks.length (Nat.le_refl _)
 have h2 := jb (L := w.Shocks) w.Shocks.length (Nat.le_refl _)
 rw [List.take_length] at h1 h2
 have := W.slen
 exact ⟨fun n hn => by have := h1 n hn; exact ⟨⟨by omega, by omega⟩, by omega, by omega⟩, by omega⟩
theorem lg_r {w : ab} (h : wB w = true) : (1 ≤ ((lgO w).map Prod.fst).getD 1 ∧ ((lgO w).map Prod.fst).getD 1 ≤ 99) ∧ (0 ≤ ((lgO w).map Prod.snd).getD 0 ∧ ((lgO w).map Prod.snd).getD 0 ≤ 1000000) ∧ bt (((lgO w).map Prod.fst).getD 0) := by
 have W := eh h
 have hn := W.now
 rw [lgO]
 cases hl : ld w.Posts w.Posts.length with
 | none => refine ⟨⟨?_, ?_⟩, ⟨?_, ?_⟩, ⟨?_, ?_⟩⟩ <;> simp
 | some b =>
  dsimp only
  cases hp : w.Posts[b]? with
  | none => refine ⟨⟨?_, ?_⟩, ⟨?_, ?_⟩, ⟨?_, ?_⟩⟩ <;> simp
  | some p =>
   have hm : p ∈ w.Posts := List.mem_of_getElem? hp
   have := mh.1 (W.posts p hm)
   simp only [Option.map_some, Option.getD_some]
   exact ⟨by omega, by omega, by omega, by omega⟩
def as1 (w : ab) (q : Nat) : ByteArray := if q = 14 then lg [((lgO w).map Prod.fst).getD 0, ((lgO w).map Prod.snd).getD 0] else (wo w q).getD ⟨#[]⟩
theorem ati {w : ab} {q : Nat} {x : ByteArray} (h : wo w q = some x) : as1 w q = x := by
 unfold as1
 split
 · rename_i e
   subst e
   rw [show wo w 14 = (lgO w).map fun p => lg [p.1, p.2] from rfl] at h
   cases hl : lgO w with
   | none => rw [hl] at h; cases h
   | some p => rw [hl] at h; simpa using h
 · rw [h]; rfl
theorem aho (L : List Int) (b : Bool) (hL : ∀ n ∈ L, bt n) (hl : L.length ≤ 100000) : Ctr Tryz.prog 113 [IntS.sl L, .bool b] [] (.tup [.str (lg L), .bool b]) [] := by
 refine Ctr.intro Tryz.mixed Tryz.func113 rfl Tryz.awx ?_
 refine ev2 @Tryz.ntmps113 @Tryz.results113 ?_
 refine rn0 ?_
 (have ct := wj L hL hl; (first | refine al.at ct ⟨leA, trivial⟩ ?_ | refine ai.at ct ⟨leA, trivial⟩ ?_); clear ct)
 refine rn0 ?_
 exact ak.au rfl (by rfl)
theorem ays (c : ah) (h : ByteArray) (hw : wB c.ab = true) : Ctr Tryz.prog 74 [.ptr 0 0, .str h] [some (c.oc 1 2), some (rows bf.cs c.ab.Posts), some (rows aj.cs c.ab.Shocks)] (.tup [.str (as1 c.ab (kwd h)), .bool (wo c.ab (kwd h)).isSome]) [some (c.oc 1 2), some (rows bf.cs c.ab.Posts), some (rows aj.cs c.ab.Shocks)] := by
 have W := eh hw
 have pl := W.plen
 have sl := W.slen
 have bn := W.now
 have iU := ai7 c.ab (by omega) (by omega)
 have iT := ahe c.ab (by omega) (by omega)
 have iS := ab4 c.ab (by omega) (by omega)
 have iL := ab9 c.ab (by omega) (by omega)
 rw [apd hw] at iU
 rw [acs hw] at iT
 rw [aei hw] at iS
 rw [ajx hw] at iL
 simp only [sw, k9] at iU iT iS
 have u := avz hw
 have r := avt hw
 have s := au9 hw
 have l := lg_r hw
 have lU := aho (ups c.ab) true (fun n hn => (u.1 n hn).1) (by omega)
 have lT := aho ((ov c.ab).map aj.Number) true (fun n hn => (r.1 n hn).1) (by omega)
 have lS := aho (cw c.ab.Shocks) true (fun n hn => (s.1 n hn).1) (by omega)
 have lL := wj [((lgO c.ab).map Prod.fst).getD 0, ((lgO c.ab).map Prod.snd).getD 0] (fun n hn => by
  simp only [List.mem_cons, List.not_mem_nil, or_false] at hn
  rcases hn with rfl | rfl
  · exact l.2.2
  · exact ⟨by omega, by omega⟩) (by simp)
 have b10 := av2 h
 have b11 := av5 h
 have b12 := avr h
 have b13 := auo h
 have b14 := avf h
 generalize kwd h = q at *
 have hq : q = 10 ∨ q = 11 ∨ q = 12 ∨ q = 13 ∨ q = 14 ∨ (q ≠ 10 ∧ q ≠ 11 ∧ q ≠ 12 ∧ q ≠ 13 ∧ q ≠ 14) := by omega
 rcases hq with rfl | rfl | rfl | rfl | rfl | ⟨q1, q2, q3, q4, q5⟩
 · skip
   refine Ctr.intro Tryz.mixed Tryz.func74 rfl Tryz.af1 ?_
   refine ev2 @Tryz.ntmps74 @Tryz.results74 ?_
   refine rn6 @ah.oc.eq_1 @b10 @b11 @b12 @b13 @b14 ?_
   (have ct := lu c.ab.Now ⟨by omega, by omega⟩; (first | refine al.at ct ⟨leA, trivial⟩ ?_ | refine ai.at ct ⟨leA, trivial⟩ ?_); clear ct)
   refine rn0 ?_
   refine ak.pick [0, 1, 2] (by decide) (by decide) (.inl rfl) ?_
   simp [az, bg, ren, bc, posOf, ae, ah.oc]
 · skip
   refine Ctr.intro Tryz.mixed Tryz.func74 rfl Tryz.af1 ?_
   refine ev2 @Tryz.ntmps74 @Tryz.results74 ?_
   refine rn6 @ah.oc.eq_1 @b10 @b11 @b12 @b13 @b14 ?_
   (first | refine al.at (iU) ⟨leA, trivial⟩ ?_ | refine ai.at (iU) ⟨leA, trivial⟩ ?_)
   refine rn0 ?_
   (first | refine al.at (lU) ⟨leA, leA, trivial⟩ ?_ | refine ai.at (lU) ⟨leA, leA, trivial⟩ ?_)
   refine rn0 ?_
   refine ak.pick [0, 1, 2] (by decide) (by decide) (.inl rfl) ?_
   simp [az, bg, ren, bc, posOf, ae, ah.oc]
 · skip
   refine Ctr.intro Tryz.mixed Tryz.func74 rfl Tryz.af1 ?_
   refine ev2 @Tryz.ntmps74 @Tryz.results74 ?_
   refine rn6 @ah.oc.eq_1 @b10 @b11 @b12 @b13 @b14 ?_
   (first | refine al.at (iT) ⟨leA, trivial⟩ ?_ | refine ai.at (iT) ⟨leA, trivial⟩ ?_)
   refine rn0 ?_
   (first | refine al.at (lT) ⟨leA, leA, trivial⟩ ?_ | refine ai.at (lT) ⟨leA, leA, trivial⟩ ?_)
   refine rn0 ?_
   refine ak.pick [0, 1, 2] (by decide) (by decide) (.inl rfl) ?_
   simp [az, bg, ren, bc, posOf, ae, ah.oc]
 · skip
   refine Ctr.intro Tryz.mixed Tryz.func74 rfl Tryz.af1 ?_
   refine ev2 @Tryz.ntmps74 @Tryz.results74 ?_
   refine rn6 @ah.oc.eq_1 @b10 @b11 @b12 @b13 @b14 ?_
   (first | refine al.at (iS) ⟨leA, trivial⟩ ?_ | refine ai.at (iS) ⟨leA, trivial⟩ ?_)
   refine rn0 ?_
   (first | refine al.at (lS) ⟨leA, leA, trivial⟩ ?_ | refine ai.at (lS) ⟨leA, leA, trivial⟩ ?_)
   refine rn0 ?_
   refine ak.pick [0, 1, 2] (by decide) (by decide) (.inl rfl) ?_
   simp [az, bg, ren, bc, posOf, ae, ah.oc]
 · have e : (wo c.ab 14).isSome = (lgO c.ab).isSome := by
    rw [show wo c.ab 14 = (lgO c.ab).map fun p => lg [p.1, p.2] from rfl]; cases lgO c.ab <;> rfl
   rw [e]
   refine Ctr.intro Tryz.mixed Tryz.func74 rfl Tryz.af1 ?_
   refine ev2 @Tryz.ntmps74 @Tryz.results74 ?_
   refine rn6 @ah.oc.eq_1 @b10 @b11 @b12 @b13 @b14 ?_
   (first | refine al.at (iL) ⟨leA, trivial⟩ ?_ | refine ai.at (iL) ⟨leA, trivial⟩ ?_)
   refine rn0 ?_
   (first | refine al.at (lL) ⟨leA, trivial⟩ ?_ | refine ai.at (lL) ⟨leA, trivial⟩ ?_)
   refine rn0 ?_
   refine ak.pick [0, 1, 2] (by decide) (by decide) (.inl rfl) ?_
   simp [az, bg, ren, bc, posOf, ae, ah.oc]
 · have d0 : decide (q = 10) = false := decide_eq_false q1
   have d1 : decide (q = 11) = false := decide_eq_false q2
   have d2 : decide (q = 12) = false := decide_eq_false q3
   have d3 : decide (q = 13) = false := decide_eq_false q4
   have d4 : decide (q = 14) = false := decide_eq_false q5
   have e : wo c.ab q = none := by rw [wo, if_neg q1, if_neg q2, if_neg q3, if_neg q4, if_neg q5]
   rw [as1, if_neg q5, e]
   refine Ctr.intro Tryz.mixed Tryz.func74 rfl Tryz.af1 ?_
   refine ev2 @Tryz.ntmps74 @Tryz.results74 ?_
   refine rn11 @ah.oc.eq_1 @b10 @b11 @b12 @b13 @b14 @d0 @d1 @d2 @d3 @d4 ?_
   refine ak.pick [0, 1, 2] (by decide) (by decide) (.inl rfl) ?_
   simp [az, bg, ren, bc, posOf, ae, ah.oc]
end Go.Proofs
end
section
set_option maxRecDepth 100000
set_option maxHeartbeats 4000000
namespace Go.Proofs
open Go.Lv
noncomputable def y4 (w : ab) (line : ByteArray) : Option ab := match uj (gi 32 line).tail with
 | none => none
 | some ns => match jo (kwd ((gi 32 line).headD ⟨#[]⟩)) ns with
  | some (k, n, v) => fi w k n v
  | none => none
theorem ajr (w : ab) (line : ByteArray) : (fy w line).1 = (y4 w line).getD w := by
 unfold fy y4
 cases uj (gi 32 line).tail with
 | none => rfl
 | some ns =>
  dsimp only
  unfold mj
  cases jo (kwd ((gi 32 line).headD ⟨#[]⟩)) ns with
  | none => cases ns with
   | nil => rfl
   | cons a l => cases l <;> rfl
  | some p =>
   obtain ⟨k, n, v⟩ := p
   dsimp only
   unfold lj
   cases fi w k n v <;> rfl
theorem ah7 {w : ab} {q : Nat} (h : jo q [] = none) : mj w q [] = (w, (wo w q).getD wQ) := by unfold mj; rw [h]
theorem ai4 {w : ab} {q : Nat} {n : Int} (h : jo q [n] = none) : mj w q [n] = (w, if q = 9 then (zk w n).getD wQ else wQ) := by unfold mj; rw [h]
theorem acm {w : ab} {q : Nat} {a b : Int} {L : List Int} (h : jo q (a :: b :: L) = none) : mj w q (a :: b :: L) = (w, wQ) := by unfold mj; rw [h]
theorem akn (c : ah) (line : ByteArray) (hl : line.size ≤ 1000) (hw : wB c.ab = true) (hs : y4 c.ab line = none) : Ctr Tryz.prog 35 [.ptr 0 0, .str line] [some (c.oc 1 2), some (rows bf.cs c.ab.Posts), some (rows aj.cs c.ab.Shocks)] (.str (fy c.ab line).2) [some (c.oc 1 2), some (rows bf.cs c.ab.Posts), some (rows aj.cs c.ab.Shocks)] := by
 have W := eh hw
 have pl := W.plen
 have sl := W.slen
 obtain ⟨x, T, hS⟩ := aas 32 line
 have hT : (gi 32 line).tail = T := by rw [hS]; rfl
 have hx : (gi 32 line).headD ⟨#[]⟩ = x := by rw [hS]; rfl
 have hsp := aaz line 32 (by omega)
 have hlen := ac1 32 line
 have hsz : ∀ y ∈ x :: T, y.size ≤ line.size := fun y hy => n7 32 line (by rw [hS]; exact hy)
 rw [hS] at hsp hlen
 simp only [List.length_cons] at hlen
 have hr0 : (rows StringS.cs (x :: T)).take 1 = [.str x] := rfl
 have hr1 : (rows StringS.cs (x :: T)).drop 1 = rows StringS.cs T := rfl
 refine Ctr.intro Tryz.mixed Tryz.func35 rfl Tryz.aul ?_
 refine ev2 @Tryz.ntmps35 @Tryz.results35 ?_
 (first | refine al.at (hsp) ⟨leA, leA, trivial⟩ ?_ | refine ai.at (hsp) ⟨leA, leA, trivial⟩ ?_)
 refine rn1 @hr1 ?_
 refine dh.intro (fun i : Nat => i ≤ T.length ∧ (T.take i).all (fun s => (cy s).isSome) = true) (fun i => ⟨(.ptr 0 0 :: (un 4 (StringS.sl (x :: T) :: .osl 3 0 i 1 :: (un 12 (StringS.sl T :: .int .i64 T.length :: .int .i64 i :: (un 67 [])))))), [some (c.oc 1 2), some (rows bf.cs c.ab.Posts), some (rows aj.cs c.ab.Shocks), some (rows IntS.cs ((T.take i).map fun s => (cy s).getD 0))], 3⟩) (fun i => T.length - i) 0 ⟨Nat.zero_le _, rfl⟩ ?_ (fun i hi => ?_)
 · refine aq.cut (4) (by simp) (by simp) ?_ ?_
   · simp [LeC, LeV, ren, bj]
   · simp [bz, ck, ren, bj, ae, ah.oc, yn]
 refine ev0 ?_
 refine ax.split (fun h1 => ?_) (fun h1 => ?_)
 · have hi' : i < T.length := by have := of_decide_eq_true h1; omega
   have hr := bw StringS.csl hi'
   have hst : (T.take (i + 1)).map (fun s => (cy s).getD 0) = (T.take i).map (fun s => (cy s).getD 0) ++ [(cy T[i]).getD 0] := by rw [List.take_succ_eq_append_getElem hi', List.map_append]; rfl
   have hlen2 : ((T.take i).map fun s => (cy s).getD 0).length = i := by simp; omega
   have ip := y9 T[i] (by have := hsz T[i] (List.mem_cons_of_mem _ (List.getElem_mem hi')); omega)
   rw [j1] at ip
   refine rn3 @h1 @hr @StringS.cs.eq_1 ?_
   cases hread : (cy T[i]).isSome with
   | false =>
    have hno := aa9 hi' hread
    have hrun : fy c.ab line = (c.ab, wQ) := by unfold fy; rw [hT, hno]
    rw [hread] at ip
    (first | refine al.at (ip) ⟨leA, trivial⟩ ?_ | refine ai.at (ip) ⟨leA, trivial⟩ ?_)
    refine rn0 ?_
    first
     | (rw [hrun]; refine ak.pick [0, 1, 2] (by decide) (by decide) (.inl rfl) ?_; simp [az, bg, ren, bc, posOf, ae, ah.oc]; done)
     | (exfalso; unfold y4 at hs; rw [hT, hno] at hs; cases hs; done)
   | true =>
    rw [hread] at ip
    (first | refine al.at (ip) ⟨leA, trivial⟩ ?_ | refine ai.at (ip) ⟨leA, trivial⟩ ?_)
    refine rn4 @bb @bh @Nat.mul_one @hlen2 ?_
    refine ⟨i + 1, ⟨hi', by rw [List.take_succ_eq_append_getElem hi', List.all_append, hi.2]; simp [hread]⟩, ?_, by omega⟩
    refine aq.cut (4) (by simp) (by simp) ?_ ?_
    · simp [LeC, LeV, ren, bj]
    · rw [hst, ← di]
      simp [bz, ck, ren, bj, ae, dd, me, IntS.cs, ah.oc]
 have hi' : i = T.length := by have := of_decide_eq_false h1; omega
 subst hi'
 have hnum := yd hi.2
 have hbd := aam hnum
 rw [List.take_length]
 have hnl : (T.map fun s => (cy s).getD 0).length = T.length := List.length_map _
 simp only [← hnl]
 have hrun : fy c.ab line = mj c.ab (kwd x) (T.map fun s => (cy s).getD 0) := by unfold fy; rw [hT, hnum, hx]
 have hstp : y4 c.ab line = match jo (kwd x) (T.map fun s => (cy s).getD 0) with
  | some (k, n, v) => fi c.ab k n v
  | none => none := by unfold y4; rw [hT, hnum, hx]
 rw [hstp] at hs
 clear hstp hnum
 have hns : (T.map fun s => (cy s).getD 0).length ≤ 1000 := by omega
 generalize (T.map fun s => (cy s).getD 0) = ns at *
 have so := aga x ns (by omega)
 refine rn2 @h1 @hr0 ?_
 (first | refine al.at (so) ⟨leA, leA, trivial⟩ ?_ | refine ai.at (so) ⟨leA, leA, trivial⟩ ?_)
 have b9 := kwb9 x
 have ha := ays c x hw
 generalize kwd x = q at *
 cases hst : jo q ns with
 | some p =>
  obtain ⟨k, n, v⟩ := p
  rw [hst] at hs so
  have hs' : fi c.ab k n v = none := hs
  have hR : mj c.ab q ns = (c.ab, wQ) := by unfold mj; rw [hst]; show lj c.ab k n v = _; rw [lj, hs']
  rw [hrun, hR]
  simp only [abm, Option.map_some, Option.getD_some, Option.isSome_some] at so
  have hC := am5 c k n v hw hs'
  refine rn3 @abm.eq_1 @Option.map_some.{0, 0} @Option.getD_some.{0} ?_
  refine ai.df [0, 1, 2] false hC (by decide) ⟨leO, leO, trivial⟩ (by simp [az, bg, ren, bc, posOf, ae, ah.oc]) ⟨⟨rfl, rfl⟩, ⟨rfl, rfl⟩, ⟨rfl, rfl⟩, trivial⟩ (.inl rfl) ?_
  refine rn1 @ah.oc.eq_1 ?_
  refine ak.pick [0, 1, 2] (by decide) (by decide) (.inl rfl) ?_
  simp [az, bg, ren, bc, posOf, iw, ae, ah.oc]
 | none =>
  rw [hst] at so
  rw [hrun]
  clear hrun hs
  have z00 : (((0 : Nat) : Int) == 0) = true := rfl
  have z01 : (((0 : Nat) : Int) == 1) = false := rfl
  have z02 : (((0 : Nat) : Int) == 2) = false := rfl
  have z10 : (((1 : Nat) : Int) == 0) = false := rfl
  have z11 : (((1 : Nat) : Int) == 1) = true := rfl
  have z12 : (((1 : Nat) : Int) == 2) = false := rfl
  have z20 : (((2 : Nat) : Int) == 0) = false := rfl
  have z21 : (((2 : Nat) : Int) == 1) = false := rfl
  have z22 : (((2 : Nat) : Int) == 2) = true := rfl
  rcases ns with _ | ⟨n1, _ | ⟨n2, L⟩⟩
  · rw [ah7 hst]
    have c9 : decide (q = 9) = true ∨ decide (q = 9) = false := by cases decide (q = 9) <;> simp
    rcases c9 with c9 | c9
    all_goals
     refine rn15 @abm.eq_1 @Option.map_none.{0, 0} @Option.getD_none.{0} @b9 @c9 @hr0 @z00 @z01 @z02 @z10 @z11 @z12 @z20 @z21 @z22 ?_
     refine ai.df [0, 1, 2] false ha (by decide) ⟨leO, leO, trivial⟩ (by simp [az, bg, ren, bc, posOf, ae, ah.oc]) ⟨⟨rfl, rfl⟩, ⟨rfl, rfl⟩, ⟨rfl, rfl⟩, trivial⟩ (.inl rfl) ?_
     refine rn0 ?_
     cases hA : wo c.ab q with
     | none =>
      refine rn0 ?_
      refine ak.pick [0, 1, 2] (by decide) (by decide) (.inl rfl) ?_
      simp [az, bg, ren, bc, posOf, iw, ae, ah.oc]
     | some y =>
      rw [ati hA]
      refine rn0 ?_
      refine ak.pick [0, 1, 2] (by decide) (by decide) (.inl rfl) ?_
      simp [az, bg, ren, bc, posOf, iw, ae, ah.oc]
  · rw [ai4 hst]
    have hn1 := hbd n1 (by simp)
    have hr3 : rows IntS.cs [n1] = [.int .i64 n1] := rfl
    have hT9 := xj c.ab n1 (by omega) (by omega)
    rw [aaq hw] at hT9
    by_cases c9 : q = 9
    · have d9 : decide (q = 9) = true := decide_eq_true c9
      rw [if_pos c9]
      refine rn17 @abm.eq_1 @Option.map_none.{0, 0} @Option.getD_none.{0} @b9 @d9 @hr3 @hr0 @ah.oc.eq_1 @z00 @z01 @z02 @z10 @z11 @z12 @z20 @z21 @z22 ?_
      (first | refine al.at (hT9) ⟨leA, leA, trivial⟩ ?_ | refine ai.at (hT9) ⟨leA, leA, trivial⟩ ?_)
      refine rn0 ?_
      cases hA : zk c.ab n1 with
      | none =>
       refine rn0 ?_
       refine ak.pick [0, 1, 2] (by decide) (by decide) (.inl rfl) ?_
       simp [az, bg, ren, bc, posOf, iw, ae, ah.oc]
      | some y =>
       refine rn0 ?_
       refine ak.pick [0, 1, 2] (by decide) (by decide) (.inl rfl) ?_
       simp [az, bg, ren, bc, posOf, iw, ae, ah.oc]
    · have d9 : decide (q = 9) = false := decide_eq_false c9
      rw [if_neg c9]
      refine rn16 @abm.eq_1 @Option.map_none.{0, 0} @Option.getD_none.{0} @b9 @d9 @hr3 @hr0 @z00 @z01 @z02 @z10 @z11 @z12 @z20 @z21 @z22 ?_
      refine ak.pick [0, 1, 2] (by decide) (by decide) (.inl rfl) ?_
      simp [az, bg, ren, bc, posOf, iw, ae, ah.oc]
  · rw [acm hst]
    clear hst
    have c1 : (((n1 :: n2 :: L).length : Int) == 1) = false := by simp; omega
    have c0 : (((n1 :: n2 :: L).length : Int) == 0) = false := by simp; omega
    generalize n1 :: n2 :: L = ns at *
    have c9 : decide (q = 9) = true ∨ decide (q = 9) = false := by cases decide (q = 9) <;> simp
    rcases c9 with c9 | c9
    all_goals
     refine rn8 @abm.eq_1 @Option.map_none.{0, 0} @Option.getD_none.{0} @b9 @c9 @hr0 @c1 @c0 ?_
     refine ak.pick [0, 1, 2] (by decide) (by decide) (.inl rfl) ?_
     simp [az, bg, ren, bc, posOf, iw, ae, ah.oc]
theorem aj0 (c : ah) (b : ab) (line : ByteArray) (hl : line.size ≤ 1000) (hw : wB c.ab = true) (hs : y4 c.ab line = some b) : Ctr Tryz.prog 35 [.ptr 0 0, .str line] [some (c.oc 1 2), some (rows bf.cs c.ab.Posts), some (rows aj.cs c.ab.Shocks)] (.str (fy c.ab line).2) [some ((cW c b).oc 3 4), some (rows bf.cs c.ab.Posts), some (rows aj.cs c.ab.Shocks), some (rows bf.cs b.Posts), some (rows aj.cs b.Shocks)] := by
 have W := eh hw
 have pl := W.plen
 have sl := W.slen
 obtain ⟨x, T, hS⟩ := aas 32 line
 have hT : (gi 32 line).tail = T := by rw [hS]; rfl
 have hx : (gi 32 line).headD ⟨#[]⟩ = x := by rw [hS]; rfl
 have hsp := aaz line 32 (by omega)
 have hlen := ac1 32 line
 have hsz : ∀ y ∈ x :: T, y.size ≤ line.size := fun y hy => n7 32 line (by rw [hS]; exact hy)
 rw [hS] at hsp hlen
 simp only [List.length_cons] at hlen
 have hr0 : (rows StringS.cs (x :: T)).take 1 = [.str x] := rfl
 have hr1 : (rows StringS.cs (x :: T)).drop 1 = rows StringS.cs T := rfl
 refine Ctr.intro Tryz.mixed Tryz.func35 rfl Tryz.aul ?_
 refine ev2 @Tryz.ntmps35 @Tryz.results35 ?_
 (first | refine al.at (hsp) ⟨leA, leA, trivial⟩ ?_ | refine ai.at (hsp) ⟨leA, leA, trivial⟩ ?_)
 refine rn1 @hr1 ?_
 refine dh.intro (fun i : Nat => i ≤ T.length ∧ (T.take i).all (fun s => (cy s).isSome) = true) (fun i => ⟨(.ptr 0 0 :: (un 4 (StringS.sl (x :: T) :: .osl 3 0 i 1 :: (un 12 (StringS.sl T :: .int .i64 T.length :: .int .i64 i :: (un 67 [])))))), [some (c.oc 1 2), some (rows bf.cs c.ab.Posts), some (rows aj.cs c.ab.Shocks), some (rows IntS.cs ((T.take i).map fun s => (cy s).getD 0))], 3⟩) (fun i => T.length - i) 0 ⟨Nat.zero_le _, rfl⟩ ?_ (fun i hi => ?_)
 · refine aq.cut (4) (by simp) (by simp) ?_ ?_
   · simp [LeC, LeV, ren, bj]
   · simp [bz, ck, ren, bj, ae, ah.oc, yn]
 refine ev0 ?_
 refine ax.split (fun h1 => ?_) (fun h1 => ?_)
 · have hi' : i < T.length := by have := of_decide_eq_true h1; omega
   have hr := bw StringS.csl hi'
   have hst : (T.take (i + 1)).map (fun s => (cy s).getD 0) = (T.take i).map (fun s => (cy s).getD 0) ++ [(cy T[i]).getD 0] := by rw [List.take_succ_eq_append_getElem hi', List.map_append]; rfl
   have hlen2 : ((T.take i).map fun s => (cy s).getD 0).length = i := by simp; omega
   have ip := y9 T[i] (by have := hsz T[i] (List.mem_cons_of_mem _ (List.getElem_mem hi')); omega)
   rw [j1] at ip
   refine rn3 @h1 @hr @StringS.cs.eq_1 ?_
   cases hread : (cy T[i]).isSome with
   | false =>
    have hno := aa9 hi' hread
    have hrun : fy c.ab line = (c.ab, wQ) := by unfold fy; rw [hT, hno]
    rw [hread] at ip
    (first | refine al.at (ip) ⟨leA, trivial⟩ ?_ | refine ai.at (ip) ⟨leA, trivial⟩ ?_)
    refine rn0 ?_
    first
     | (rw [hrun]; refine ak.pick [0, 1, 2] (by decide) (by decide) (.inl rfl) ?_; simp [az, bg, ren, bc, posOf, ae, ah.oc]; done)
     | (exfalso; unfold y4 at hs; rw [hT, hno] at hs; cases hs; done)
   | true =>
    rw [hread] at ip
    (first | refine al.at (ip) ⟨leA, trivial⟩ ?_ | refine ai.at (ip) ⟨leA, trivial⟩ ?_)
    refine rn4 @bb @bh @Nat.mul_one @hlen2 ?_
    refine ⟨i + 1, ⟨hi', by rw [List.take_succ_eq_append_getElem hi', List.all_append, hi.2]; simp [hread]⟩, ?_, by omega⟩
    refine aq.cut (4) (by simp) (by simp) ?_ ?_
    · simp [LeC, LeV, ren, bj]
    · rw [hst, ← di]
      simp [bz, ck, ren, bj, ae, dd, me, IntS.cs, ah.oc]
 have hi' : i = T.length := by have := of_decide_eq_false h1; omega
 subst hi'
 have hnum := yd hi.2
 have hbd := aam hnum
 rw [List.take_length]
 have hnl : (T.map fun s => (cy s).getD 0).length = T.length := List.length_map _
 simp only [← hnl]
 have hrun : fy c.ab line = mj c.ab (kwd x) (T.map fun s => (cy s).getD 0) := by unfold fy; rw [hT, hnum, hx]
 have hstp : y4 c.ab line = match jo (kwd x) (T.map fun s => (cy s).getD 0) with
  | some (k, n, v) => fi c.ab k n v
  | none => none := by unfold y4; rw [hT, hnum, hx]
 rw [hstp] at hs
 clear hstp hnum
 have hns : (T.map fun s => (cy s).getD 0).length ≤ 1000 := by omega
 generalize (T.map fun s => (cy s).getD 0) = ns at *
 have so := aga x ns (by omega)
 refine rn2 @h1 @hr0 ?_
 (first | refine al.at (so) ⟨leA, leA, trivial⟩ ?_ | refine ai.at (so) ⟨leA, leA, trivial⟩ ?_)
 generalize kwd x = q at *
 cases hst : jo q ns with
 | some p =>
  obtain ⟨k, n, v⟩ := p
  rw [hst] at hs so
  have hs' : fi c.ab k n v = some b := hs
  have hR : mj c.ab q ns = (b, (jx b k n).getD wQ) := by unfold mj; rw [hst]; show lj c.ab k n v = _; rw [lj, hs']
  rw [hrun, hR]
  have hC := aln c b k n v hs'
  refine rn3 @abm.eq_1 @Option.map_some.{0, 0} @Option.getD_some.{0} ?_
  refine ai.df [0, 1, 2] false hC (by decide) ⟨leO, leO, trivial⟩ (by simp [az, bg, ren, bc, posOf, ae, ah.oc]) ⟨⟨rfl, rfl⟩, ⟨rfl, rfl⟩, ⟨rfl, rfl⟩, trivial⟩ (.inl rfl) ?_
  refine rn1 @ah.oc.eq_1 ?_
  cases hA : jx b k n with
  | none =>
   refine rn0 ?_
   refine ak.pick [0, 1, 2, 5, 6] (by decide) (by decide) (.inl rfl) ?_
   simp [az, bg, ren, bc, posOf, iw, ae, ah.oc, cW]
  | some y =>
   refine rn0 ?_
   refine ak.pick [0, 1, 2, 5, 6] (by decide) (by decide) (.inl rfl) ?_
   simp [az, bg, ren, bc, posOf, iw, ae, ah.oc, cW]
 | none =>
  rw [hst] at hs
  cases hs
end Go.Proofs
end
section
set_option maxRecDepth 100000
set_option maxHeartbeats 4000000
namespace Go.Proofs
open Go.Lv
def wNo : ByteArray := ⟨#[110, 111]⟩
def asw : ByteArray := ⟨#[98, 97, 100]⟩
def amj : ByteArray := ⟨#[102, 117, 108, 108]⟩
def agf : ByteArray := ⟨#[108, 111, 110, 103]⟩
def pg (r : ByteArray) : ByteArray := if 200 < (r.size : Int) then agf else r
def ahm (l : Log) (e : ay) : Log := if n4 l = true ∧ jc e = true then (if l.Count = 60 then l else ⟨l.Durable, l.Pending ++ fj l.Count e, l.Count + 1⟩) else l
theorem amu (l : Log) (e : ay) : ∃ z : Int, za l e = [(ahm l e).v, .int .i64 z] := by
 unfold za ahm
 split
 · split
   · exact ⟨_, rfl⟩
   · exact ⟨_, rfl⟩
 · exact ⟨_, rfl⟩
noncomputable def eo (c : ah) (line : ByteArray) : ah × ByteArray :=
 if j0 c = false then (c, wNo) else if jc ⟨line, ByteArray.empty⟩ = false then (c, asw) else if c.Log.Count = 60 then (c, amj)
 else (⟨(fy c.ab line).1, ahm c.Log ⟨line, pg (fy c.ab line).2⟩⟩, pg (fy c.ab line).2)
theorem agc {line : ByteArray} {r : ByteArray} (h : jc ⟨line, r⟩ = true) : line.size ≤ 160 := by
 simp only [jc, Bool.and_eq_true, decide_eq_true_eq] at h
 omega
theorem qe {c : ah} (h : j0 c = true) : wB c.ab = true ∧ n4 c.Log = true := by
 simpa [j0] using h
theorem aru (c : ah) (line : ByteArray) (hc : c.fits) (hl : line.size ≤ 4194304) : Ctr Tryz.prog 8 [c.v, .str line] [] (.tup [(eo c line).1.o 0 1, .str (eo c line).2]) [some (rows bf.cs (eo c line).1.ab.Posts), some (rows aj.cs (eo c line).1.ab.Shocks)] := by
 obtain ⟨f0, f1, f2, f3⟩ := hc
 have hc : c.fits := ⟨f0, f1, f2, f3⟩
 have he2 : (ByteArray.empty : ByteArray).size = 0 := rfl
 have hV := nc ⟨line, ByteArray.empty⟩ (by dsimp only; omega) (by dsimp only; omega)
 cases hb : j0 c with
 | false =>
  rw [show eo c line = (c, wNo) by rw [eo, if_pos hb]]
  refine Ctr.intro Tryz.mixed Tryz.func8 rfl Tryz.aqm ?_
  refine ev2 @Tryz.ntmps8 @Tryz.results8 ?_
  refine rn1 @ah.v.eq_1 ?_
  (have ct := dm c.ab (by omega) (by omega); (first | refine al.at ct ⟨leA, trivial⟩ ?_ | refine ai.at ct ⟨leA, trivial⟩ ?_); clear ct)
  refine rn1 @ab.o.eq_1 ?_
  (have ct := ea c hc; (first | refine al.at ct ⟨leA, trivial⟩ ?_ | refine ai.at ct ⟨leA, trivial⟩ ?_); clear ct)
  rw [hb]
  refine rn0 ?_
  refine ak.pick [2, 3] (by decide) (fun j hj => by omega) (.inl ?_) ?_
  · first | rfl | (simp [ren, bc, posOf, ah.o]; done)
  · simp only [az, List.map_cons, List.map_nil, bg, List.getElem?_cons_zero, List.getElem?_cons_succ, ae]
 | true =>
  cases hr : jc ⟨line, ByteArray.empty⟩ with
  | false =>
   rw [show eo c line = (c, asw) by rw [eo, if_neg (by simp [hb]), if_pos hr]]
   rw [hr] at hV
   refine Ctr.intro Tryz.mixed Tryz.func8 rfl Tryz.aqm ?_
   refine ev2 @Tryz.ntmps8 @Tryz.results8 ?_
   refine rn1 @ah.v.eq_1 ?_
   (have ct := dm c.ab (by omega) (by omega); (first | refine al.at ct ⟨leA, trivial⟩ ?_ | refine ai.at ct ⟨leA, trivial⟩ ?_); clear ct)
   refine rn1 @ab.o.eq_1 ?_
   (have ct := ea c hc; (first | refine al.at ct ⟨leA, trivial⟩ ?_ | refine ai.at ct ⟨leA, trivial⟩ ?_); clear ct)
   rw [hb]
   refine rn0 ?_
   (first | refine al.at (hV) ⟨leA, trivial⟩ ?_ | refine ai.at (hV) ⟨leA, trivial⟩ ?_)
   refine rn1 @ay.v.eq_1 ?_
   refine ak.pick [2, 3] (by decide) (fun j hj => by omega) (.inl ?_) ?_
   · first | rfl | (simp [ren, bc, posOf, ah.o]; done)
   · simp only [az, List.map_cons, List.map_nil, bg, List.getElem?_cons_zero, List.getElem?_cons_succ, ae]
  | true =>
   have hl2 := agc hr
   obtain ⟨hw, hlg⟩ := qe hb
   rw [hr] at hV
   by_cases hf : c.Log.Count = 60
   · have hf' : (c.Log.Count == 60) = true := by simpa using hf
     rw [show eo c line = (c, amj) by rw [eo, if_neg (by simp [hb]), if_neg (by simp [hr]), if_pos hf]]
     refine Ctr.intro Tryz.mixed Tryz.func8 rfl Tryz.aqm ?_
     refine ev2 @Tryz.ntmps8 @Tryz.results8 ?_
     refine rn1 @ah.v.eq_1 ?_
     (have ct := dm c.ab (by omega) (by omega); (first | refine al.at ct ⟨leA, trivial⟩ ?_ | refine ai.at ct ⟨leA, trivial⟩ ?_); clear ct)
     refine rn1 @ab.o.eq_1 ?_
     (have ct := ea c hc; (first | refine al.at ct ⟨leA, trivial⟩ ?_ | refine ai.at ct ⟨leA, trivial⟩ ?_); clear ct)
     rw [hb]
     refine rn0 ?_
     (first | refine al.at (hV) ⟨leA, trivial⟩ ?_ | refine ai.at (hV) ⟨leA, trivial⟩ ?_)
     refine rn2 @ay.v.eq_1 @hf' ?_
     refine ak.pick [2, 3] (by decide) (fun j hj => by omega) (.inl ?_) ?_
     · first | rfl | (simp [ren, bc, posOf, ah.o]; done)
     · simp only [az, List.map_cons, List.map_nil, bg, List.getElem?_cons_zero, List.getElem?_cons_succ, ae]
   · have hf' : (c.Log.Count == 60) = false := by simpa using hf
     rw [show eo c line = (⟨(fy c.ab line).1, ahm c.Log ⟨line, pg (fy c.ab line).2⟩⟩, pg (fy c.ab line).2) by rw [eo, if_neg (by simp [hb]), if_neg (by simp [hr]), if_neg hf]]
     rw [ajr]
     have hcap : pg (fy c.ab line).2 = if 200 < ((fy c.ab line).2.size : Int) then agf else (fy c.ab line).2 := rfl
     have hcs : (pg (fy c.ab line).2).size ≤ 200 := by
      rw [hcap]; split
      · decide
      · omega
     obtain ⟨z, hz⟩ := amu c.Log ⟨line, pg (fy c.ab line).2⟩
     have iA := aaw c.Log ⟨line, pg (fy c.ab line).2⟩ f2 f3 (by dsimp only; omega) (by dsimp only; omega)
     rw [hz] at iA
     cases hs : y4 c.ab line with
     | none =>
      have hP := akn c line (by omega) hw hs
      rw [Option.getD_none]
      refine Ctr.intro Tryz.mixed Tryz.func8 rfl Tryz.aqm ?_
      refine ev2 @Tryz.ntmps8 @Tryz.results8 ?_
      refine rn1 @ah.v.eq_1 ?_
      (have ct := dm c.ab (by omega) (by omega); (first | refine al.at ct ⟨leA, trivial⟩ ?_ | refine ai.at ct ⟨leA, trivial⟩ ?_); clear ct)
      refine rn1 @ab.o.eq_1 ?_
      (have ct := ea c hc; (first | refine al.at ct ⟨leA, trivial⟩ ?_ | refine ai.at ct ⟨leA, trivial⟩ ?_); clear ct)
      rw [hb]
      refine rn0 ?_
      (first | refine al.at (hV) ⟨leA, trivial⟩ ?_ | refine ai.at (hV) ⟨leA, trivial⟩ ?_)
      refine rn2 @ay.v.eq_1 @hf' ?_
      refine ai.df [4, 2, 3] false hP (by decide) ⟨leO, leO, trivial⟩ (by simp [az, bg, ren, bc, posOf, ae, ah.oc]) ⟨⟨rfl, rfl⟩, ⟨rfl, rfl⟩, ⟨rfl, rfl⟩, trivial⟩ (.inl rfl) ?_
      refine rn1 @ah.oc.eq_1 ?_
      refine ax.split (fun hg => ?_) (fun hg => ?_)
      · have e : pg (fy c.ab line).2 = agf := by rw [hcap, if_pos (of_decide_eq_true hg)]
        rw [e] at iA hz ⊢
        refine rn1 @hg ?_
        (first | refine al.at (iA) ⟨leA, leA, trivial⟩ ?_ | refine ai.at (iA) ⟨leA, leA, trivial⟩ ?_)
        refine rn1 @Log.v.eq_1 ?_
        refine ak.pick [2, 3] (by decide) (fun j hj => by omega) (.inl ?_) ?_
        · first | rfl | (simp [ren, bc, posOf, ah.o]; done)
        · simp only [az, List.map_cons, List.map_nil, bg, List.getElem?_cons_zero, List.getElem?_cons_succ, ae]
      · have e : pg (fy c.ab line).2 = (fy c.ab line).2 := by rw [hcap, if_neg (of_decide_eq_false hg)]
        rw [e] at iA hz ⊢
        refine rn1 @hg ?_
        (first | refine al.at (iA) ⟨leA, leA, trivial⟩ ?_ | refine ai.at (iA) ⟨leA, leA, trivial⟩ ?_)
        refine rn1 @Log.v.eq_1 ?_
        refine ak.pick [2, 3] (by decide) (fun j hj => by omega) (.inl ?_) ?_
        · first | rfl | (simp [ren, bc, posOf, ah.o]; done)
        · simp only [az, List.map_cons, List.map_nil, bg, List.getElem?_cons_zero, List.getElem?_cons_succ, ae]
     | some b =>
      have hP := aj0 c b line (by omega) hw hs
      rw [Option.getD_some]
      refine Ctr.intro Tryz.mixed Tryz.func8 rfl Tryz.aqm ?_
      refine ev2 @Tryz.ntmps8 @Tryz.results8 ?_
      refine rn1 @ah.v.eq_1 ?_
      (have ct := dm c.ab (by omega) (by omega); (first | refine al.at ct ⟨leA, trivial⟩ ?_ | refine ai.at ct ⟨leA, trivial⟩ ?_); clear ct)
      refine rn1 @ab.o.eq_1 ?_
      (have ct := ea c hc; (first | refine al.at ct ⟨leA, trivial⟩ ?_ | refine ai.at ct ⟨leA, trivial⟩ ?_); clear ct)
      rw [hb]
      refine rn0 ?_
      (first | refine al.at (hV) ⟨leA, trivial⟩ ?_ | refine ai.at (hV) ⟨leA, trivial⟩ ?_)
      refine rn2 @ay.v.eq_1 @hf' ?_
      refine ai.df [4, 2, 3] false hP (by decide) ⟨leO, leO, trivial⟩ (by simp [az, bg, ren, bc, posOf, ae, ah.oc]) ⟨⟨rfl, rfl⟩, ⟨rfl, rfl⟩, ⟨rfl, rfl⟩, trivial⟩ (.inl rfl) ?_
      refine rn3 @ah.oc.eq_1 @cW.eq_1 @List.getElem?_nil.{0} ?_
      refine ax.split (fun hg => ?_) (fun hg => ?_)
      · have e : pg (fy c.ab line).2 = agf := by rw [hcap, if_pos (of_decide_eq_true hg)]
        rw [e] at iA hz ⊢
        refine rn2 @hg @List.getElem?_nil.{0} ?_
        (first | refine al.at (iA) ⟨leA, leA, trivial⟩ ?_ | refine ai.at (iA) ⟨leA, leA, trivial⟩ ?_)
        refine rn2 @Log.v.eq_1 @List.getElem?_nil.{0} ?_
        refine ak.pick [5, 6] (by decide) (fun j hj => by omega) (.inl ?_) ?_
        · first | rfl | (simp [ren, bc, posOf, ah.o]; done)
        · simp only [az, List.map_cons, List.map_nil, bg, List.getElem?_cons_zero, List.getElem?_cons_succ, ae]
      · have e : pg (fy c.ab line).2 = (fy c.ab line).2 := by rw [hcap, if_neg (of_decide_eq_false hg)]
        rw [e] at iA hz ⊢
        refine rn2 @hg @List.getElem?_nil.{0} ?_
        (first | refine al.at (iA) ⟨leA, leA, trivial⟩ ?_ | refine ai.at (iA) ⟨leA, leA, trivial⟩ ?_)
        refine rn2 @Log.v.eq_1 @List.getElem?_nil.{0} ?_
        refine ak.pick [5, 6] (by decide) (fun j hj => by omega) (.inl ?_) ?_
        · first | rfl | (simp [ren, bc, posOf, ah.o]; done)
        · simp only [az, List.map_cons, List.map_nil, bg, List.getElem?_cons_zero, List.getElem?_cons_succ, ae]
end Go.Proofs
end
section
set_option maxRecDepth 100000
set_option maxHeartbeats 4000000
namespace Go.Proofs
open Go.Lv
def W00 : ab := ⟨0, [], [], 0, 0⟩
theorem a4z (o : Option ab) : ak 0 (ado o) (ad6 o) (.tup [(o.getD W00).v, .bool o.isSome]) [] := by
 cases o with
 | none =>
  intro w0 m0 h0 av0 W m val e1 e2 hlt hle H hx hi
  refine ⟨m, H, ?_, hi⟩
  change RV W m [] _ true val (.tup [.agg [.int .i64 0, .nilsl, .nilsl, .int .i64 0, .int .i64 0], .bool false]) at hx
  cases hx with
  | tup a vs ha hra =>
   refine .tup _ _ ha (fun i hi => ?_)
   match i, hi with
   | 0, _ => exact (hra 0 (by simp)).le (LeV.agg ⟨LeE.refl _, LeE.nil, LeE.nil, LeE.refl _, LeE.refl _, trivial⟩)
   | 1, _ => exact hra 1 (by simp)
 | some b =>
  refine ak.pick [] (by decide) (fun j hj => by omega) (.inl ?_) rfl
  have e1 := cr (cs := bf.cs) b.Posts
  have e2 := cr (cs := aj.cs) b.Shocks
  simp [ado, ad6, ab.o, ab.v, ren, bc, posOf, nj, ae] at e1 e2 ⊢
  exact ⟨e1.symm, e2.symm⟩
theorem aol (w : ab) (k n v : Int) (hp : w.Posts.length ≤ 16777216) (hs : w.Shocks.length ≤ 16777216) (hv : v ≤ 9223372036854775807) : Ctr Tryz.prog 101 [w.v, .agg [.int .i64 k, .int .i64 n, .int .i64 v]] [] (.tup [((fi w k n v).getD W00).v, .bool (fi w k n v).isSome]) [] :=
 (sk w k n v hp hs hv).uw (a4z _)
theorem ahd (s : ByteArray) (hs : s.size ≤ 281474976710656) : Ctr Tryz.prog 80 [.str s] [] (j1 s) [] := by
 have h := aou s hs
 rw [j1] at h ⊢
 refine Ctr.intro Tryz.mixed Tryz.func80 rfl Tryz.a3x ?_
 refine ev2 @Tryz.ntmps80 @Tryz.results80 ?_
 (first | refine al.at (h) ⟨leA, trivial⟩ ?_ | refine ai.at (h) ⟨leA, trivial⟩ ?_)
 refine rn0 ?_
 exact ak.au rfl (by rfl)
theorem qj (L : List Int) (b : Bool) (hL : ∀ n ∈ L, bt n ∧ -9223372036854775807 ≤ n) (hl : L.length ≤ 100000) : Ctr Tryz.prog 125 [IntS.sl L, .bool b] [] (.str (if b then lg L else wQ)) [] := by
 cases b with
 | false =>
  refine Ctr.intro Tryz.mixed Tryz.func125 rfl Tryz.aka ?_
  refine ev2 @Tryz.ntmps125 @Tryz.results125 ?_
  refine rn0 ?_
  exact ak.au rfl (by rfl)
 | true =>
  by_cases he : L = []
  · have c0 : ((L.length : Int) == 0) = true := by rw [he]; rfl
    refine Ctr.intro Tryz.mixed Tryz.func125 rfl Tryz.aka ?_
    refine ev2 @Tryz.ntmps125 @Tryz.results125 ?_
    refine rn1 @c0 ?_
    exact ak.au (by rw [lg, if_pos he]; rfl) (by rfl)
  have hpos : 0 < L.length := List.length_pos_iff.2 he
  have c0 : ((L.length : Int) == 0) = false := by simp; omega
  have hr0 : (rows IntS.cs L).take 1 = [.int .i64 L[0]] := by
   have := bw IntS.csl hpos
   rw [Nat.zero_mul, List.drop_zero] at this
   exact this
  have hsz := fun i => xu (L.take i) (fun n hn => (hL n (List.mem_of_mem_take hn)).1)
  refine Ctr.intro Tryz.mixed Tryz.func125 rfl Tryz.aka ?_
  refine ev2 @Tryz.ntmps125 @Tryz.results125 ?_
  refine rn2 @c0 @hr0 ?_
  (first | refine al.at (ed L[0] (hL _ (List.getElem_mem hpos)).2 (hL _ (List.getElem_mem hpos)).1.2) ⟨leA, trivial⟩ ?_ | refine ai.at (ed L[0] (hL _ (List.getElem_mem hpos)).2 (hL _ (List.getElem_mem hpos)).1.2) ⟨leA, trivial⟩ ?_)
  refine rn0 ?_
  refine dh.intro (fun i : Nat => 1 ≤ i ∧ i ≤ L.length) (fun i => ⟨(IntS.sl L :: (un 4 (.str (nr (L.take i)) :: .int .i64 i :: (un 24 [])))), [], 0⟩) (fun i => L.length - i) 1 ⟨Nat.le_refl _, hpos⟩ ?_ (fun i hi => ?_)
  · refine aq.cut (0) (by simp) (by simp) ?_ ?_
    · have e1 : nr (L.take 1) = num L[0] := by rw [List.take_succ_eq_append_getElem hpos]; rfl
      rw [e1]
      simp [LeC, LeV, ren, bj]
    · rfl
  refine ev0 ?_
  refine ax.split (fun h1 => ?_) (fun h1 => ?_)
  · have hi' : i < L.length := by have := of_decide_eq_true h1; omega
    have hr := bw IntS.csl hi'
    have hs1 := hsz i
    rw [List.length_take] at hs1
    have hst : nr (L.take (i + 1)) = nr (L.take i) ++ ⟨#[32]⟩ ++ num L[i] := by
     rw [List.take_succ_eq_append_getElem hi']
     exact aco _ _ (fun e => by have := congrArg List.length e; rw [List.length_take, List.length_nil] at this; omega)
    have hnz := aaa (hL _ (List.getElem_mem hi')).1
    refine rn3 @h1 @hr @IntS.cs.eq_1 ?_
    have hz32 : (#[32] : Array UInt8).size = 1 := rfl
    refine ⟨by omega, ⟨by omega, by omega⟩, ?_⟩
    (first | refine al.at (ed L[i] (hL _ (List.getElem_mem hi')).2 (hL _ (List.getElem_mem hi')).1.2) ⟨leA, trivial⟩ ?_ | refine ai.at (ed L[i] (hL _ (List.getElem_mem hi')).2 (hL _ (List.getElem_mem hi')).1.2) ⟨leA, trivial⟩ ?_)
    (repeat ((repeat1' (first | simp -implicitDefEqProofs -dsimp only [go_sem, ByteArray.size_append, cb] | simp -dsimp (disch := omega) only [wrap_i64])); repeat (with_reducible refine de ?_)))
    refine ⟨i + 1, ⟨by omega, hi'⟩, ?_, by omega⟩
    refine aq.cut (0) (by simp) (by simp) ?_ ?_
    · rw [hst]
      simp [LeC, LeV, ren, bj]
    · rfl
  · have hi' : i = L.length := by have := of_decide_eq_false h1; omega
    subst hi'
    refine rn2 @h1 @List.take_length.{0} ?_
    exact ak.au (by rw [lg, if_neg he]) (by rfl)
theorem abp (w : ab) (n : Int) (hw : wB w = true) : Ctr Tryz.prog 123 [w.v, .int .i64 n] [] (.str ((zk w n).getD wQ)) [] := by
 have W := eh hw
 have pl := W.plen
 have sl := W.slen
 have hT := ae4 w n (by omega) (by omega)
 rw [aaq hw] at hT
 refine Ctr.intro Tryz.mixed Tryz.func123 rfl Tryz.ayf ?_
 refine ev2 @Tryz.ntmps123 @Tryz.results123 ?_
 refine rn1 @ab.v.eq_1 ?_
 (first | refine al.at (hT) ⟨leA, leA, trivial⟩ ?_ | refine ai.at (hT) ⟨leA, leA, trivial⟩ ?_)
 refine rn0 ?_
 cases hA : zk w n with
 | none =>
  refine rn0 ?_
  exact ak.au rfl (by rfl)
 | some y =>
  refine rn0 ?_
  exact ak.au rfl (by rfl)
theorem aj1 (w : ab) (hw : wB w = true) : Ctr Tryz.prog 122 [w.v] [] (.str (lg (ups w))) [] := by
 have W := eh hw
 have pl := W.plen
 have sl := W.slen
 have hU := aj4 w (by omega) (by omega)
 rw [apd hw] at hU
 simp only [xc, pb] at hU
 have u := avz hw
 have hL := qj (ups w) true (fun n hn => ⟨(u.1 n hn).1, by have := (u.1 n hn).2; omega⟩) (by omega)
 refine Ctr.intro Tryz.mixed Tryz.func122 rfl Tryz.ayb ?_
 refine ev2 @Tryz.ntmps122 @Tryz.results122 ?_
 refine rn1 @ab.v.eq_1 ?_
 (first | refine al.at (hU) ⟨leA, trivial⟩ ?_ | refine ai.at (hU) ⟨leA, trivial⟩ ?_)
 refine rn0 ?_
 (first | refine al.at (hL) ⟨leA, leA, trivial⟩ ?_ | refine ai.at (hL) ⟨leA, leA, trivial⟩ ?_)
 refine rn0 ?_
 exact ak.au rfl (by rfl)
theorem akt {w : ab} {k n v : Int} (h : fi w k n v = none) : lj w k n v = (w, wQ) := by rw [lj, h]
theorem akr {w b : ab} {k n v : Int} (h : fi w k n v = some b) : lj w k n v = (b, (jx b k n).getD wQ) := by rw [lj, h]
theorem kg (c : ah) (k n v : Int) (hw : wB c.ab = true) (hv : v ≤ 999999) : Ctr Tryz.prog 81 [c.v, .agg [.int .i64 k, .int .i64 n, .int .i64 v]] [] (.tup [(cW c (lj c.ab k n v).1).v, .str (lj c.ab k n v).2]) [] := by
 have W := eh hw
 have pl := W.plen
 have sl := W.slen
 have hS := aol c.ab k n v (by omega) (by omega) (by omega)
 cases hs : fi c.ab k n v with
 | none =>
  rw [hs, Option.getD_none] at hS
  rw [akt hs]
  refine Ctr.intro Tryz.mixed Tryz.func81 rfl Tryz.z6 ?_
  refine ev2 @Tryz.ntmps81 @Tryz.results81 ?_
  refine rn2 @ah.v.eq_1 @ah.cs.eq_1 ?_
  (first | refine al.at (hS) ⟨leA, leA, trivial⟩ ?_ | refine ai.at (hS) ⟨leA, leA, trivial⟩ ?_)
  refine rn1 @ab.v.eq_1 ?_
  exact ak.au rfl (by rfl)
 | some b =>
  rw [hs, Option.getD_some] at hS
  rw [akr hs]
  obtain ⟨_, hst, _, _, hb⟩ := x7 hs
  have B := eh hb
  have bl := B.plen
  have bs := B.slen
  have bn := B.now
  have bx := B.next
  have ba := B.arch
  have hU := aj1 b hb
  rcases pn hst with ⟨rfl, h1⟩ | hk | rfl | rfl | ⟨hk, h1⟩
  · have e : jx b 1 n = some (num b.Now) := rfl
    rw [e]
    refine Ctr.intro Tryz.mixed Tryz.func81 rfl Tryz.z6 ?_
    refine ev2 @Tryz.ntmps81 @Tryz.results81 ?_
    refine rn2 @ah.v.eq_1 @ah.cs.eq_1 ?_
    (first | refine al.at (hS) ⟨leA, leA, trivial⟩ ?_ | refine ai.at (hS) ⟨leA, leA, trivial⟩ ?_)
    refine rn1 @ab.v.eq_1 ?_
    (have ct := ed b.Now (by omega) (by omega); (first | refine al.at ct ⟨leA, trivial⟩ ?_ | refine ai.at ct ⟨leA, trivial⟩ ?_); clear ct)
    refine rn0 ?_
    exact ak.au rfl (by rfl)
  · have e : jx b k n = some (lg (ups b)) := by rcases hk with rfl | rfl <;> rfl
    rw [e]
    rcases hk with rfl | rfl
    · skip
      refine Ctr.intro Tryz.mixed Tryz.func81 rfl Tryz.z6 ?_
      refine ev2 @Tryz.ntmps81 @Tryz.results81 ?_
      refine rn2 @ah.v.eq_1 @ah.cs.eq_1 ?_
      (first | refine al.at (hS) ⟨leA, leA, trivial⟩ ?_ | refine ai.at (hS) ⟨leA, leA, trivial⟩ ?_)
      refine rn1 @ab.v.eq_1 ?_
      (first | refine al.at (hU) ⟨leA, trivial⟩ ?_ | refine ai.at (hU) ⟨leA, trivial⟩ ?_)
      refine rn0 ?_
      exact ak.au rfl (by rfl)
    · skip
      refine Ctr.intro Tryz.mixed Tryz.func81 rfl Tryz.z6 ?_
      refine ev2 @Tryz.ntmps81 @Tryz.results81 ?_
      refine rn2 @ah.v.eq_1 @ah.cs.eq_1 ?_
      (first | refine al.at (hS) ⟨leA, leA, trivial⟩ ?_ | refine ai.at (hS) ⟨leA, leA, trivial⟩ ?_)
      refine rn1 @ab.v.eq_1 ?_
      (first | refine al.at (hU) ⟨leA, trivial⟩ ?_ | refine ai.at (hU) ⟨leA, trivial⟩ ?_)
      refine rn0 ?_
      exact ak.au rfl (by rfl)
  · have e : jx b 4 n = some (num (b.Next - 1)) := rfl
    rw [e]
    refine Ctr.intro Tryz.mixed Tryz.func81 rfl Tryz.z6 ?_
    refine ev2 @Tryz.ntmps81 @Tryz.results81 ?_
    refine rn2 @ah.v.eq_1 @ah.cs.eq_1 ?_
    (first | refine al.at (hS) ⟨leA, leA, trivial⟩ ?_ | refine ai.at (hS) ⟨leA, leA, trivial⟩ ?_)
    refine rn1 @ab.v.eq_1 ?_
    (have ct := ed (b.Next - 1) (by omega) (by omega); (first | refine al.at ct ⟨leA, trivial⟩ ?_ | refine ai.at ct ⟨leA, trivial⟩ ?_); clear ct)
    refine rn0 ?_
    exact ak.au rfl (by rfl)
  · have e : jx b 8 n = some (num b.Archived) := rfl
    rw [e]
    refine Ctr.intro Tryz.mixed Tryz.func81 rfl Tryz.z6 ?_
    refine ev2 @Tryz.ntmps81 @Tryz.results81 ?_
    refine rn2 @ah.v.eq_1 @ah.cs.eq_1 ?_
    (first | refine al.at (hS) ⟨leA, leA, trivial⟩ ?_ | refine ai.at (hS) ⟨leA, leA, trivial⟩ ?_)
    refine rn1 @ab.v.eq_1 ?_
    (have ct := ed b.Archived (by omega) (by omega); (first | refine al.at ct ⟨leA, trivial⟩ ?_ | refine ai.at ct ⟨leA, trivial⟩ ?_); clear ct)
    refine rn0 ?_
    exact ak.au rfl (by rfl)
  · have hT := abp b n hb
    have e : jx b k n = zk b n := by rcases hk with rfl | rfl | rfl <;> rfl
    rw [e]
    rcases hk with rfl | rfl | rfl
    · skip
      refine Ctr.intro Tryz.mixed Tryz.func81 rfl Tryz.z6 ?_
      refine ev2 @Tryz.ntmps81 @Tryz.results81 ?_
      refine rn2 @ah.v.eq_1 @ah.cs.eq_1 ?_
      (first | refine al.at (hS) ⟨leA, leA, trivial⟩ ?_ | refine ai.at (hS) ⟨leA, leA, trivial⟩ ?_)
      refine rn1 @ab.v.eq_1 ?_
      (first | refine al.at (hT) ⟨leA, leA, trivial⟩ ?_ | refine ai.at (hT) ⟨leA, leA, trivial⟩ ?_)
      refine rn0 ?_
      exact ak.au rfl (by rfl)
    · skip
      refine Ctr.intro Tryz.mixed Tryz.func81 rfl Tryz.z6 ?_
      refine ev2 @Tryz.ntmps81 @Tryz.results81 ?_
      refine rn2 @ah.v.eq_1 @ah.cs.eq_1 ?_
      (first | refine al.at (hS) ⟨leA, leA, trivial⟩ ?_ | refine ai.at (hS) ⟨leA, leA, trivial⟩ ?_)
      refine rn1 @ab.v.eq_1 ?_
      (first | refine al.at (hT) ⟨leA, leA, trivial⟩ ?_ | refine ai.at (hT) ⟨leA, leA, trivial⟩ ?_)
      refine rn0 ?_
      exact ak.au rfl (by rfl)
    · skip
      refine Ctr.intro Tryz.mixed Tryz.func81 rfl Tryz.z6 ?_
      refine ev2 @Tryz.ntmps81 @Tryz.results81 ?_
      refine rn2 @ah.v.eq_1 @ah.cs.eq_1 ?_
      (first | refine al.at (hS) ⟨leA, leA, trivial⟩ ?_ | refine ai.at (hS) ⟨leA, leA, trivial⟩ ?_)
      refine rn1 @ab.v.eq_1 ?_
      (first | refine al.at (hT) ⟨leA, leA, trivial⟩ ?_ | refine ai.at (hT) ⟨leA, leA, trivial⟩ ?_)
      refine rn0 ?_
      exact ak.au rfl (by rfl)
theorem aky (w : ab) (h : ByteArray) (hw : wB w = true) : Ctr Tryz.prog 82 [w.v, .str h] [] (.str ((wo w (kwd h)).getD wQ)) [] := by
 have W := eh hw
 have pl := W.plen
 have sl := W.slen
 have bn := W.now
 have iU := aj1 w hw
 have iT := ag1 w (by omega) (by omega)
 have iS := ab5 w (by omega) (by omega)
 have iL := ab6 w (by omega) (by omega)
 rw [acs hw] at iT
 rw [aei hw] at iS
 rw [ajx hw] at iL
 simp only [xc, pb] at iT iS
 have r := avt hw
 have s := au9 hw
 have l := lg_r hw
 have lT := qj ((ov w).map aj.Number) true (fun n hn => ⟨(r.1 n hn).1, by have := (r.1 n hn).2; omega⟩) (by omega)
 have lS := qj (cw w.Shocks) true (fun n hn => ⟨(s.1 n hn).1, by have := (s.1 n hn).2; omega⟩) (by omega)
 have b10 := av2 h
 have b11 := av5 h
 have b12 := avr h
 have b13 := auo h
 have b14 := avf h
 generalize kwd h = q at *
 have hq : q = 10 ∨ q = 11 ∨ q = 12 ∨ q = 13 ∨ q = 14 ∨ (q ≠ 10 ∧ q ≠ 11 ∧ q ≠ 12 ∧ q ≠ 13 ∧ q ≠ 14) := by omega
 rcases hq with rfl | rfl | rfl | rfl | rfl | ⟨q1, q2, q3, q4, q5⟩
 · skip
   refine Ctr.intro Tryz.mixed Tryz.func82 rfl Tryz.ad0 ?_
   refine ev2 @Tryz.ntmps82 @Tryz.results82 ?_
   refine rn6 @ab.v.eq_1 @b10 @b11 @b12 @b13 @b14 ?_
   (have ct := ed w.Now (by omega) (by omega); (first | refine al.at ct ⟨leA, trivial⟩ ?_ | refine ai.at ct ⟨leA, trivial⟩ ?_); clear ct)
   refine rn0 ?_
   exact ak.au rfl (by rfl)
 · skip
   refine Ctr.intro Tryz.mixed Tryz.func82 rfl Tryz.ad0 ?_
   refine ev2 @Tryz.ntmps82 @Tryz.results82 ?_
   refine rn6 @ab.v.eq_1 @b10 @b11 @b12 @b13 @b14 ?_
   (first | refine al.at (iU) ⟨leA, trivial⟩ ?_ | refine ai.at (iU) ⟨leA, trivial⟩ ?_)
   refine rn0 ?_
   exact ak.au rfl (by rfl)
 · skip
   refine Ctr.intro Tryz.mixed Tryz.func82 rfl Tryz.ad0 ?_
   refine ev2 @Tryz.ntmps82 @Tryz.results82 ?_
   refine rn6 @ab.v.eq_1 @b10 @b11 @b12 @b13 @b14 ?_
   (first | refine al.at (iT) ⟨leA, trivial⟩ ?_ | refine ai.at (iT) ⟨leA, trivial⟩ ?_)
   refine rn0 ?_
   (first | refine al.at (lT) ⟨leA, leA, trivial⟩ ?_ | refine ai.at (lT) ⟨leA, leA, trivial⟩ ?_)
   refine rn0 ?_
   exact ak.au rfl (by rfl)
 · skip
   refine Ctr.intro Tryz.mixed Tryz.func82 rfl Tryz.ad0 ?_
   refine ev2 @Tryz.ntmps82 @Tryz.results82 ?_
   refine rn6 @ab.v.eq_1 @b10 @b11 @b12 @b13 @b14 ?_
   (first | refine al.at (iS) ⟨leA, trivial⟩ ?_ | refine ai.at (iS) ⟨leA, trivial⟩ ?_)
   refine rn0 ?_
   (first | refine al.at (lS) ⟨leA, leA, trivial⟩ ?_ | refine ai.at (lS) ⟨leA, leA, trivial⟩ ?_)
   refine rn0 ?_
   exact ak.au rfl (by rfl)
 · have e : wo w 14 = (lgO w).map fun p => lg [p.1, p.2] := rfl
   rw [e]
   have hr : ∀ a b : Int, rows IntS.cs [a, b] = [.int .i64 a, .int .i64 b] := fun a b => rfl
   cases hl : lgO w with
   | none =>
    rw [hl] at iL
    simp only [Option.map_none, Option.getD_none, Option.isSome_none] at iL
    have lL := qj [0, 0] false (fun n hn => by simp at hn; subst hn; exact ⟨⟨by decide, by decide⟩, by decide⟩) (by simp)
    refine Ctr.intro Tryz.mixed Tryz.func82 rfl Tryz.ad0 ?_
    refine ev2 @Tryz.ntmps82 @Tryz.results82 ?_
    refine rn6 @ab.v.eq_1 @b10 @b11 @b12 @b13 @b14 ?_
    (first | refine al.at (iL) ⟨leA, trivial⟩ ?_ | refine ai.at (iL) ⟨leA, trivial⟩ ?_)
    refine rn0 ?_
    (first | refine al.at (lL) ⟨leA, leA, trivial⟩ ?_ | refine ai.at (lL) ⟨leA, leA, trivial⟩ ?_)
    refine rn0 ?_
    exact ak.au rfl (by rfl)
   | some p =>
    rw [hl] at iL l
    simp only [Option.map_some, Option.getD_some, Option.isSome_some] at iL l
    have lL := qj [p.1, p.2] true (fun n hn => by
     simp only [List.mem_cons, List.not_mem_nil, or_false] at hn
     rcases hn with rfl | rfl
     · exact ⟨⟨by omega, by omega⟩, by omega⟩
     · exact ⟨⟨by omega, by omega⟩, by omega⟩) (by simp)
    refine Ctr.intro Tryz.mixed Tryz.func82 rfl Tryz.ad0 ?_
    refine ev2 @Tryz.ntmps82 @Tryz.results82 ?_
    refine rn6 @ab.v.eq_1 @b10 @b11 @b12 @b13 @b14 ?_
    (first | refine al.at (iL) ⟨leA, trivial⟩ ?_ | refine ai.at (iL) ⟨leA, trivial⟩ ?_)
    refine rn0 ?_
    (first | refine al.at (lL) ⟨leA, leA, trivial⟩ ?_ | refine ai.at (lL) ⟨leA, leA, trivial⟩ ?_)
    refine rn0 ?_
    exact ak.au rfl (by rfl)
 · have d0 : decide (q = 10) = false := decide_eq_false q1
   have d1 : decide (q = 11) = false := decide_eq_false q2
   have d2 : decide (q = 12) = false := decide_eq_false q3
   have d3 : decide (q = 13) = false := decide_eq_false q4
   have d4 : decide (q = 14) = false := decide_eq_false q5
   have e : wo w q = none := by rw [wo, if_neg q1, if_neg q2, if_neg q3, if_neg q4, if_neg q5]
   rw [e]
   refine Ctr.intro Tryz.mixed Tryz.func82 rfl Tryz.ad0 ?_
   refine ev2 @Tryz.ntmps82 @Tryz.results82 ?_
   refine rn11 @ab.v.eq_1 @b10 @b11 @b12 @b13 @b14 @d0 @d1 @d2 @d3 @d4 ?_
   exact ak.au rfl (by rfl)
theorem ane (c : ah) (h : ByteArray) (n : Int) (hw : wB c.ab = true) (hn : -999999 ≤ n ∧ n ≤ 999999) : Ctr Tryz.prog 83 [c.v, .str h, .int .i64 n] [] (.tup [(cW c (mj c.ab (kwd h) [n]).1).v, .str (mj c.ab (kwd h) [n]).2]) [] := by
 have m1 := kg c 1 0 n hw hn.2
 have m2 := kg c 2 n 0 hw (by omega)
 have m3 := kg c 3 n 0 hw (by omega)
 have m5 := kg c 7 n 0 hw (by omega)
 have m6 := kg c 8 n 0 hw (by omega)
 have mT := abp c.ab n hw
 have b1 := kwb1 h
 have b3 := kwb3 h
 have b4 := kwb4 h
 have b5 := kwb5 h
 have b6 := kwb6 h
 have b9 := kwb9 h
 generalize kwd h = q at *
 have hq : q = 1 ∨ q = 3 ∨ q = 4 ∨ q = 5 ∨ q = 6 ∨ q = 9 ∨ (q ≠ 1 ∧ q ≠ 3 ∧ q ≠ 4 ∧ q ≠ 5 ∧ q ≠ 6 ∧ q ≠ 9) := by omega
 rcases hq with rfl | rfl | rfl | rfl | rfl | rfl | ⟨q1, q2, q3, q4, q5, q6⟩
 · rw [show mj c.ab 1 [n] = lj c.ab 1 0 n from rfl]
   refine Ctr.intro Tryz.mixed Tryz.func83 rfl Tryz.adx ?_
   refine ev2 @Tryz.ntmps83 @Tryz.results83 ?_
   refine rn7 @ah.v.eq_1 @b1 @b3 @b4 @b5 @b6 @b9 ?_
   (first | refine al.at (m1) ⟨leA, leA, trivial⟩ ?_ | refine ai.at (m1) ⟨leA, leA, trivial⟩ ?_)
   refine rn1 @ah.v.eq_1 ?_
   exact ak.au rfl (by rfl)
 · rw [show mj c.ab 3 [n] = lj c.ab 2 n 0 from rfl]
   refine Ctr.intro Tryz.mixed Tryz.func83 rfl Tryz.adx ?_
   refine ev2 @Tryz.ntmps83 @Tryz.results83 ?_
   refine rn7 @ah.v.eq_1 @b1 @b3 @b4 @b5 @b6 @b9 ?_
   (first | refine al.at (m2) ⟨leA, leA, trivial⟩ ?_ | refine ai.at (m2) ⟨leA, leA, trivial⟩ ?_)
   refine rn1 @ah.v.eq_1 ?_
   exact ak.au rfl (by rfl)
 · rw [show mj c.ab 4 [n] = lj c.ab 3 n 0 from rfl]
   refine Ctr.intro Tryz.mixed Tryz.func83 rfl Tryz.adx ?_
   refine ev2 @Tryz.ntmps83 @Tryz.results83 ?_
   refine rn7 @ah.v.eq_1 @b1 @b3 @b4 @b5 @b6 @b9 ?_
   (first | refine al.at (m3) ⟨leA, leA, trivial⟩ ?_ | refine ai.at (m3) ⟨leA, leA, trivial⟩ ?_)
   refine rn1 @ah.v.eq_1 ?_
   exact ak.au rfl (by rfl)
 · rw [show mj c.ab 5 [n] = lj c.ab 7 n 0 from rfl]
   refine Ctr.intro Tryz.mixed Tryz.func83 rfl Tryz.adx ?_
   refine ev2 @Tryz.ntmps83 @Tryz.results83 ?_
   refine rn7 @ah.v.eq_1 @b1 @b3 @b4 @b5 @b6 @b9 ?_
   (first | refine al.at (m5) ⟨leA, leA, trivial⟩ ?_ | refine ai.at (m5) ⟨leA, leA, trivial⟩ ?_)
   refine rn1 @ah.v.eq_1 ?_
   exact ak.au rfl (by rfl)
 · rw [show mj c.ab 6 [n] = lj c.ab 8 n 0 from rfl]
   refine Ctr.intro Tryz.mixed Tryz.func83 rfl Tryz.adx ?_
   refine ev2 @Tryz.ntmps83 @Tryz.results83 ?_
   refine rn7 @ah.v.eq_1 @b1 @b3 @b4 @b5 @b6 @b9 ?_
   (first | refine al.at (m6) ⟨leA, leA, trivial⟩ ?_ | refine ai.at (m6) ⟨leA, leA, trivial⟩ ?_)
   refine rn1 @ah.v.eq_1 ?_
   exact ak.au rfl (by rfl)
 · rw [show mj c.ab 9 [n] = (c.ab, (zk c.ab n).getD wQ) from rfl]
   refine Ctr.intro Tryz.mixed Tryz.func83 rfl Tryz.adx ?_
   refine ev2 @Tryz.ntmps83 @Tryz.results83 ?_
   refine rn7 @ah.v.eq_1 @b1 @b3 @b4 @b5 @b6 @b9 ?_
   (first | refine al.at (mT) ⟨leA, leA, trivial⟩ ?_ | refine ai.at (mT) ⟨leA, leA, trivial⟩ ?_)
   refine rn1 @ah.v.eq_1 ?_
   exact ak.au rfl (by rfl)
 · have d1 : decide (q = 1) = false := decide_eq_false q1
   have d2 : decide (q = 3) = false := decide_eq_false q2
   have d3 : decide (q = 4) = false := decide_eq_false q3
   have d4 : decide (q = 5) = false := decide_eq_false q4
   have d5 : decide (q = 6) = false := decide_eq_false q5
   have d6 : decide (q = 9) = false := decide_eq_false q6
   have e : jo q [n] = none := by simp only [jo]; rw [if_neg q1, if_neg q2, if_neg q3, if_neg q4, if_neg q5]
   rw [ai4 e, if_neg q6]
   refine Ctr.intro Tryz.mixed Tryz.func83 rfl Tryz.adx ?_
   refine ev2 @Tryz.ntmps83 @Tryz.results83 ?_
   refine apz @ah.v.eq_1 @b1 @b3 @b4 @b5 @b6 @b9 @d1 @d2 @d3 @d4 @d5 @d6 ?_
   exact ak.au rfl (by rfl)
theorem aog (c : ah) (h : ByteArray) (n v : Int) (hw : wB c.ab = true) (hn : -999999 ≤ v ∧ v ≤ 999999) : Ctr Tryz.prog 84 [c.v, .str h, .int .i64 n, .int .i64 v] [] (.tup [(cW c (mj c.ab (kwd h) [n, v]).1).v, .str (mj c.ab (kwd h) [n, v]).2]) [] := by
 have m5 := kg c 5 n v hw hn.2
 have m6 := kg c 6 n v hw hn.2
 have b7 := kwb7 h
 have b8 := kwb8 h
 generalize kwd h = q at *
 have hq : q = 7 ∨ q = 8 ∨ (q ≠ 7 ∧ q ≠ 8) := by omega
 rcases hq with rfl | rfl | ⟨q1, q2⟩
 · rw [show mj c.ab 7 [n, v] = lj c.ab 5 n v from rfl]
   refine Ctr.intro Tryz.mixed Tryz.func84 rfl Tryz.arl ?_
   refine ev2 @Tryz.ntmps84 @Tryz.results84 ?_
   refine rn3 @ah.v.eq_1 @b7 @b8 ?_
   (first | refine al.at (m5) ⟨leA, leA, trivial⟩ ?_ | refine ai.at (m5) ⟨leA, leA, trivial⟩ ?_)
   refine rn1 @ah.v.eq_1 ?_
   exact ak.au rfl (by rfl)
 · rw [show mj c.ab 8 [n, v] = lj c.ab 6 n v from rfl]
   refine Ctr.intro Tryz.mixed Tryz.func84 rfl Tryz.arl ?_
   refine ev2 @Tryz.ntmps84 @Tryz.results84 ?_
   refine rn3 @ah.v.eq_1 @b7 @b8 ?_
   (first | refine al.at (m6) ⟨leA, leA, trivial⟩ ?_ | refine ai.at (m6) ⟨leA, leA, trivial⟩ ?_)
   refine rn1 @ah.v.eq_1 ?_
   exact ak.au rfl (by rfl)
 · have d1 : decide (q = 7) = false := decide_eq_false q1
   have d2 : decide (q = 8) = false := decide_eq_false q2
   have e : jo q [n, v] = none := by simp only [jo]; rw [if_neg q1, if_neg q2]
   rw [acm e]
   refine Ctr.intro Tryz.mixed Tryz.func84 rfl Tryz.arl ?_
   refine ev2 @Tryz.ntmps84 @Tryz.results84 ?_
   refine rn5 @ah.v.eq_1 @b7 @b8 @d1 @d2 ?_
   exact ak.au rfl (by rfl)
end Go.Proofs
end
section
set_option maxRecDepth 100000
set_option maxHeartbeats 4000000
namespace Go.Proofs
open Go.Lv
theorem as8 {w b : ab} {line : ByteArray} (h : y4 w line = some b) : wB b = true := by
 unfold y4 at h
 split at h
 · cases h
 · split at h
   · exact (x7 h).2.2.2.2
   · cases h
theorem ahl {w : ab} {line : ByteArray} (h : wB w = true) : wB (fy w line).1 = true := by
 rw [ajr]
 cases hs : y4 w line with
 | none => exact h
 | some b => exact as8 hs
def aad : List V := [.int .i64 0, .nilsl, .nilsl, .int .i64 0, .int .i64 0, .str ByteArray.empty, .str ByteArray.empty, .int .i64 0]
theorem aoe (c : ah) (line : ByteArray) (hl : line.size ≤ 1000) (hw : wB c.ab = true) : Ctr Tryz.prog 40 [c.v, .str line] [] (.tup [(cW c (fy c.ab line).1).v, .str (fy c.ab line).2]) [] := by
 have W := eh hw
 have pl := W.plen
 have sl := W.slen
 obtain ⟨x, T, hS⟩ := aas 32 line
 have hT : (gi 32 line).tail = T := by rw [hS]; rfl
 have hx : (gi 32 line).headD ⟨#[]⟩ = x := by rw [hS]; rfl
 have hsp := wu line 32 (by omega)
 rw [show (((32 : UInt8).toNat : Nat) : Int) = 32 from rfl] at hsp
 have hlen := ac1 32 line
 have hsz : ∀ y ∈ x :: T, y.size ≤ line.size := fun y hy => n7 32 line (by rw [hS]; exact hy)
 rw [hS] at hsp hlen
 simp only [List.length_cons] at hlen
 have hr0 : (rows StringS.cs (x :: T)).take 1 = [.str x] := rfl
 refine Ctr.intro Tryz.mixed Tryz.func40 rfl Tryz.a5s ?_
 refine ev2 @Tryz.ntmps40 @Tryz.results40 ?_
 refine rn1 @ah.v.eq_1 ?_
 (first | refine al.at (hsp) ⟨leA, leA, trivial⟩ ?_ | refine ai.at (hsp) ⟨leA, leA, trivial⟩ ?_)
 refine rn0 ?_
 refine dh.intro (fun i : Nat => i ≤ T.length ∧ (T.take i).all (fun s => (cy s).isSome) = true) (fun i => ⟨(.undef :: .str line :: .ptr 0 0 :: .undef :: .ptr 1 0 :: .undef :: StringS.sl (x :: T) :: .osl 2 0 i 1 :: .int .i64 ((i : Int) + 1) :: (un 70 [])), [some c.cs, some aad, some (rows IntS.cs ((T.take i).map fun s => (cy s).getD 0))], 0⟩) (fun i => T.length - i) 0 ⟨Nat.zero_le _, rfl⟩ ?_ (fun i hi => ?_)
 · refine aq.cut (3) (by simp) (by simp) ?_ ?_
   · simp [LeC, LeV, ren, bj]
   · simp [bz, ck, ren, bj, ae, ah.cs, aad, yn]
 refine ev0 ?_
 have hll : (((x :: T).length : Nat) : Int) = (T.length : Int) + 1 := by rw [List.length_cons]; omega
 refine ax.split (fun h1 => ?_) (fun h1 => ?_)
 · have hi' : i < T.length := by have := of_decide_eq_true h1; omega
   have hr := bw StringS.csl (L := x :: T) (i := i + 1) (by rw [List.length_cons]; omega)
   rw [List.getElem_cons_succ] at hr
   have hst : (T.take (i + 1)).map (fun s => (cy s).getD 0) = (T.take i).map (fun s => (cy s).getD 0) ++ [(cy T[i]).getD 0] := by rw [List.take_succ_eq_append_getElem hi', List.map_append]; rfl
   have hlen2 : ((T.take i).map fun s => (cy s).getD 0).length = i := by simp; omega
   have ip := ahd T[i] (by have := hsz T[i] (List.mem_cons_of_mem _ (List.getElem_mem hi')); omega)
   rw [j1] at ip
   have hti : ((i : Int) + 1).toNat = i + 1 := by omega
   refine rn4 @h1 @hti @hr @StringS.cs.eq_1 ?_
   cases hread : (cy T[i]).isSome with
   | false =>
    have hno := aa9 hi' hread
    have hrun : fy c.ab line = (c.ab, wQ) := by unfold fy; rw [hT, hno]
    rw [hread] at ip
    (first | refine al.at (ip) ⟨leA, trivial⟩ ?_ | refine ai.at (ip) ⟨leA, trivial⟩ ?_)
    refine rn2 @ah.cs.eq_1 @aad.eq_1 ?_
    rw [hrun]
    exact ak.au rfl (by rfl)
   | true =>
    rw [hread] at ip
    (first | refine al.at (ip) ⟨leA, trivial⟩ ?_ | refine ai.at (ip) ⟨leA, trivial⟩ ?_)
    refine rn4 @bb @bh @Nat.mul_one @hlen2 ?_
    refine ⟨i + 1, ⟨hi', by rw [List.take_succ_eq_append_getElem hi', List.all_append, hi.2]; simp [hread]⟩, ?_, by omega⟩
    refine aq.cut (3) (by simp) (by simp) ?_ ?_
    · simp [LeC, LeV, ren, bj]
    · rw [hst, ← di]
      simp [bz, ck, ren, bj, ae, dd, me, IntS.cs, ah.cs, aad]
 have hi' : i = T.length := by have := of_decide_eq_false h1; omega
 subst hi'
 have hnum := yd hi.2
 have hbd := aam hnum
 rw [List.take_length]
 have hnl : (T.map fun s => (cy s).getD 0).length = T.length := List.length_map _
 have hrun : fy c.ab line = mj c.ab (kwd x) (T.map fun s => (cy s).getD 0) := by unfold fy; rw [hT, hnum, hx]
 rw [hrun]
 have hxl : T = [] → x = line := fun e => aoy (by rw [hS, e])
 clear hnum
 have hns : (T.map fun s => (cy s).getD 0).length ≤ 1000 := by omega
 have htn : T = [] ↔ (T.map fun s => (cy s).getD 0) = [] := by cases T <;> simp
 have h1' : decide ((T.length : Int) + 1 < ((T.length + 1 : Nat) : Int)) = false := decide_eq_false (by omega)
 refine rn2 @h1 @h1' ?_
 rw [← hnl]
 generalize (T.map fun s => (cy s).getD 0) = ns at *
 have z00 : (((0 : Nat) : Int) == 0) = true := rfl
 have z01 : (((0 : Nat) : Int) == 1) = false := rfl
 have z02 : (((0 : Nat) : Int) == 2) = false := rfl
 have z10 : (((1 : Nat) : Int) == 0) = false := rfl
 have z11 : (((1 : Nat) : Int) == 1) = true := rfl
 have z12 : (((1 : Nat) : Int) == 2) = false := rfl
 have z20 : (((2 : Nat) : Int) == 0) = false := rfl
 have z21 : (((2 : Nat) : Int) == 1) = false := rfl
 have z22 : (((2 : Nat) : Int) == 2) = true := rfl
 rcases ns with _ | ⟨n1, _ | ⟨n2, _ | ⟨n3, L⟩⟩⟩
 · have hx2 : x = line := hxl (htn.2 rfl)
   subst hx2
   have b2 := kwb2 x
   have m4 := kg c 4 0 0 hw (by omega)
   have mw := aky c.ab x hw
   by_cases q2 : kwd x = 2
   · have d2 : decide (kwd x = 2) = true := decide_eq_true q2
     have e : mj c.ab (kwd x) [] = lj c.ab 4 0 0 := by rw [q2]; rfl
     rw [e]
     refine apz @b2 @d2 @ah.cs.eq_1 @aad.eq_1 @z00 @z01 @z02 @z10 @z11 @z12 @z20 @z21 @z22 ?_
     (first | refine al.at (m4) ⟨leA, leA, trivial⟩ ?_ | refine ai.at (m4) ⟨leA, leA, trivial⟩ ?_)
     refine rn1 @ah.v.eq_1 ?_
     exact ak.au rfl (by rfl)
   · have d2 : decide (kwd x = 2) = false := decide_eq_false q2
     have e : jo (kwd x) [] = none := by simp only [jo]; rw [if_neg q2]
     rw [ah7 e]
     refine apz @b2 @d2 @ah.cs.eq_1 @aad.eq_1 @z00 @z01 @z02 @z10 @z11 @z12 @z20 @z21 @z22 ?_
     (first | refine al.at (mw) ⟨leA, leA, trivial⟩ ?_ | refine ai.at (mw) ⟨leA, leA, trivial⟩ ?_)
     refine rn1 @ah.v.eq_1 ?_
     exact ak.au rfl (by rfl)
 · have hn1 := hbd n1 (by simp)
   have hr3 : rows IntS.cs [n1] = [.int .i64 n1] := rfl
   have m1 := ane c x n1 hw hn1
   refine apz @hr3 @hr0 @ah.cs.eq_1 @aad.eq_1 @z00 @z01 @z02 @z10 @z11 @z12 @z20 @z21 @z22 ?_
   (first | refine al.at (m1) ⟨leA, leA, leA, trivial⟩ ?_ | refine ai.at (m1) ⟨leA, leA, leA, trivial⟩ ?_)
   refine rn1 @ah.v.eq_1 ?_
   exact ak.au rfl (by rfl)
 · have hn2 := hbd n2 (by simp)
   have hr3 : rows IntS.cs [n1, n2] = [.int .i64 n1, .int .i64 n2] := rfl
   have m2 := aog c x n1 n2 hw hn2
   refine apz @hr3 @hr0 @ah.cs.eq_1 @aad.eq_1 @z00 @z01 @z02 @z10 @z11 @z12 @z20 @z21 @z22 ?_
   (first | refine al.at (m2) ⟨leA, leA, leA, leA, trivial⟩ ?_ | refine ai.at (m2) ⟨leA, leA, leA, leA, trivial⟩ ?_)
   refine rn1 @ah.v.eq_1 ?_
   exact ak.au rfl (by rfl)
 · have c1 : (((n1 :: n2 :: n3 :: L).length : Int) == 1) = false := by simp; omega
   have c2 : (((n1 :: n2 :: n3 :: L).length : Int) == 2) = false := by simp; omega
   have c0 : (((n1 :: n2 :: n3 :: L).length : Int) == 0) = false := by simp; omega
   have e : jo (kwd x) (n1 :: n2 :: n3 :: L) = none := rfl
   rw [acm e]
   generalize n1 :: n2 :: n3 :: L = ns at *
   refine rn5 @c0 @c1 @c2 @ah.cs.eq_1 @aad.eq_1 ?_
   exact ak.au rfl (by rfl)
theorem a1t (c : ah) : ak 0 (c.ab.o 0 1) [some (rows bf.cs c.ab.Posts), some (rows aj.cs c.ab.Shocks)] c.ab.v [] := by
 refine ak.pick [] (by decide) (fun j hj => by omega) (.inl ?_) rfl
 have e1 := cr (cs := bf.cs) c.ab.Posts
 have e2 := cr (cs := aj.cs) c.ab.Shocks
 simp [ab.o, ab.v, ren, bc, posOf, nj, ae] at e1 e2 ⊢
 exact ⟨e1.symm, e2.symm⟩
theorem afr (c : ah) (hp : c.ab.Posts.length ≤ 16777216) (hs : c.ab.Shocks.length ≤ 16777216) : Ctr Tryz.prog 37 [c.v] [] c.v [] := by
 have h := (jv c.ab hp hs).uw (a1t c)
 refine Ctr.intro Tryz.mixed Tryz.func37 rfl Tryz.a3z ?_
 refine ev2 @Tryz.ntmps37 @Tryz.results37 ?_
 refine rn1 @ah.v.eq_1 ?_
 (first | refine al.at (h) ⟨leA, trivial⟩ ?_ | refine ai.at (h) ⟨leA, trivial⟩ ?_)
 refine rn1 @ab.v.eq_1 ?_
 exact ak.au rfl (by rfl)
theorem aiz (c : ah) (line : ByteArray) (hc : c.fits) (hl : line.size ≤ 4194304) : Ctr Tryz.prog 9 [c.v, .str line] [] (.tup [(eo c line).1.v, .str (eo c line).2]) [] := by
 obtain ⟨f0, f1, f2, f3⟩ := hc
 have hc : c.fits := ⟨f0, f1, f2, f3⟩
 have he2 : (ByteArray.empty : ByteArray).size = 0 := rfl
 have hV := ug ⟨line, ByteArray.empty⟩ (by dsimp only; omega) (by dsimp only; omega)
 have hO := afr c (by omega) (by omega)
 have hG := ly c hc
 cases hb : j0 c with
 | false =>
  rw [show eo c line = (c, wNo) by rw [eo, if_pos hb]]
  rw [hb] at hG
  refine Ctr.intro Tryz.mixed Tryz.func9 rfl Tryz.atw ?_
  refine ev2 @Tryz.ntmps9 @Tryz.results9 ?_
  refine rn1 @ah.v.eq_1 ?_
  (first | refine al.at (hO) ⟨leA, trivial⟩ ?_ | refine ai.at (hO) ⟨leA, trivial⟩ ?_)
  refine rn1 @ah.v.eq_1 ?_
  (first | refine al.at (hG) ⟨leA, trivial⟩ ?_ | refine ai.at (hG) ⟨leA, trivial⟩ ?_)
  refine rn0 ?_
  exact ak.au rfl (by rfl)
 | true =>
  rw [hb] at hG
  cases hr : jc ⟨line, ByteArray.empty⟩ with
  | false =>
   rw [show eo c line = (c, asw) by rw [eo, if_neg (by simp [hb]), if_pos hr]]
   rw [hr] at hV
   refine Ctr.intro Tryz.mixed Tryz.func9 rfl Tryz.atw ?_
   refine ev2 @Tryz.ntmps9 @Tryz.results9 ?_
   refine rn1 @ah.v.eq_1 ?_
   (first | refine al.at (hO) ⟨leA, trivial⟩ ?_ | refine ai.at (hO) ⟨leA, trivial⟩ ?_)
   refine rn1 @ah.v.eq_1 ?_
   (first | refine al.at (hG) ⟨leA, trivial⟩ ?_ | refine ai.at (hG) ⟨leA, trivial⟩ ?_)
   refine rn0 ?_
   (first | refine al.at (hV) ⟨leA, trivial⟩ ?_ | refine ai.at (hV) ⟨leA, trivial⟩ ?_)
   refine rn1 @ay.v.eq_1 ?_
   exact ak.au rfl (by rfl)
  | true =>
   have hl2 := agc hr
   obtain ⟨hw, hlg⟩ := qe hb
   rw [hr] at hV
   by_cases hf : c.Log.Count = 60
   · have hf' : (c.Log.Count == 60) = true := by simpa using hf
     rw [show eo c line = (c, amj) by rw [eo, if_neg (by simp [hb]), if_neg (by simp [hr]), if_pos hf]]
     refine Ctr.intro Tryz.mixed Tryz.func9 rfl Tryz.atw ?_
     refine ev2 @Tryz.ntmps9 @Tryz.results9 ?_
     refine rn1 @ah.v.eq_1 ?_
     (first | refine al.at (hO) ⟨leA, trivial⟩ ?_ | refine ai.at (hO) ⟨leA, trivial⟩ ?_)
     refine rn1 @ah.v.eq_1 ?_
     (first | refine al.at (hG) ⟨leA, trivial⟩ ?_ | refine ai.at (hG) ⟨leA, trivial⟩ ?_)
     refine rn0 ?_
     (first | refine al.at (hV) ⟨leA, trivial⟩ ?_ | refine ai.at (hV) ⟨leA, trivial⟩ ?_)
     refine rn2 @ay.v.eq_1 @hf' ?_
     exact ak.au rfl (by rfl)
   · have hf' : (c.Log.Count == 60) = false := by simpa using hf
     rw [show eo c line = (⟨(fy c.ab line).1, ahm c.Log ⟨line, pg (fy c.ab line).2⟩⟩, pg (fy c.ab line).2) by rw [eo, if_neg (by simp [hb]), if_neg (by simp [hr]), if_neg hf]]
     have hcap : pg (fy c.ab line).2 = if 200 < ((fy c.ab line).2.size : Int) then agf else (fy c.ab line).2 := rfl
     have hcs : (pg (fy c.ab line).2).size ≤ 200 := by
      rw [hcap]; split
      · decide
      · omega
     obtain ⟨z, hz⟩ := amu c.Log ⟨line, pg (fy c.ab line).2⟩
     have iA := tc c.Log ⟨line, pg (fy c.ab line).2⟩ f2 f3 (by dsimp only; omega) (by dsimp only; omega)
     rw [hz] at iA
     have hR := aoe c line (by omega) hw
     have hbl : (fy c.ab line).1.Posts.length ≤ 1048576 ∧ (fy c.ab line).1.Shocks.length ≤ 1048576 := by
      have h9 := eh (ahl (line := line) hw)
      have := h9.plen
      have := h9.slen
      omega
     have hO2 := afr (cW c (fy c.ab line).1) (by have := hbl.1; show (fy c.ab line).1.Posts.length ≤ _; omega) (by have := hbl.2; show (fy c.ab line).1.Shocks.length ≤ _; omega)
     refine Ctr.intro Tryz.mixed Tryz.func9 rfl Tryz.atw ?_
     refine ev2 @Tryz.ntmps9 @Tryz.results9 ?_
     refine rn1 @ah.v.eq_1 ?_
     (first | refine al.at (hO) ⟨leA, trivial⟩ ?_ | refine ai.at (hO) ⟨leA, trivial⟩ ?_)
     refine rn1 @ah.v.eq_1 ?_
     (first | refine al.at (hG) ⟨leA, trivial⟩ ?_ | refine ai.at (hG) ⟨leA, trivial⟩ ?_)
     refine rn0 ?_
     (first | refine al.at (hV) ⟨leA, trivial⟩ ?_ | refine ai.at (hV) ⟨leA, trivial⟩ ?_)
     refine rn2 @ay.v.eq_1 @hf' ?_
     (first | refine al.at (hR) ⟨leA, leA, trivial⟩ ?_ | refine ai.at (hR) ⟨leA, leA, trivial⟩ ?_)
     refine rn1 @ah.v.eq_1 ?_
     (first | refine al.at (hO2) ⟨leA, trivial⟩ ?_ | refine ai.at (hO2) ⟨leA, trivial⟩ ?_)
     refine rn1 @ah.v.eq_1 ?_
     refine ax.split (fun hg => ?_) (fun hg => ?_)
     · have e : pg (fy c.ab line).2 = agf := by rw [hcap, if_pos (of_decide_eq_true hg)]
       rw [e] at iA hz ⊢
       refine rn1 @hg ?_
       (first | refine al.at (iA) ⟨leA, leA, trivial⟩ ?_ | refine ai.at (iA) ⟨leA, leA, trivial⟩ ?_)
       refine rn1 @Log.v.eq_1 ?_
       exact ak.au rfl (by rfl)
     · have e : pg (fy c.ab line).2 = (fy c.ab line).2 := by rw [hcap, if_neg (of_decide_eq_false hg)]
       rw [e] at iA hz ⊢
       refine rn1 @hg ?_
       (first | refine al.at (iA) ⟨leA, leA, trivial⟩ ?_ | refine ai.at (iA) ⟨leA, leA, trivial⟩ ?_)
       refine rn1 @Log.v.eq_1 ?_
       exact ak.au rfl (by rfl)
end Go.Proofs
end
section
set_option maxRecDepth 100000
set_option maxHeartbeats 4000000
namespace Go.Proofs
open Go.Lv
theorem frzC (c : ah) (r : ByteArray) : ak 0 (.tup [c.o 0 1, .str r]) [some (rows bf.cs c.ab.Posts), some (rows aj.cs c.ab.Shocks)] (.tup [c.v, .str r]) [] := by
 refine ak.pick [] (by decide) (fun j hj => by omega) (.inl ?_) rfl
 have e1 := cr (cs := bf.cs) c.ab.Posts
 have e2 := cr (cs := aj.cs) c.ab.Shocks
 simp [ah.o, ah.v, ren, bc, posOf, nj, ae] at e1 e2 ⊢
 exact ⟨e1.symm, e2.symm⟩
theorem ana (c : ah) (line : ByteArray) (hc : c.fits) (hl : line.size ≤ 4194304) : Ctr Tryz.prog 8 [c.v, .str line] [] (.tup [(eo c line).1.v, .str (eo c line).2]) [] :=
 (aru c line hc hl).uw (frzC _ _)
def ah.sz (c : ah) (n : Nat) : Prop := c.ab.Posts.length ≤ 1048576 ∧ c.ab.Shocks.length ≤ 1048576 ∧ c.Log.Durable.size ≤ 1048576 ∧ c.Log.Pending.size ≤ 1048576 + 500 * n
theorem ah.ace {c : ah} {n : Nat} (h : c.sz n) (hn : n ≤ 5000) : c.fits := by
 obtain ⟨h0, h1, h2, h3⟩ := h
 exact ⟨h0, h1, by omega, by omega⟩
theorem yz {k : Int} {e : ay} (hk : 0 ≤ k ∧ k ≤ 59) (h : jc e = true) : (fj k e).size ≤ 500 := by
 have h1 := gn hk h
 have h2 := ix (dn k e)
 rw [fj, ByteArray.size_append]
 have : (⟨#[10]⟩ : ByteArray).size = 1 := rfl
 omega
theorem ans (l : Log) (e : ay) : (ahm l e).Durable = l.Durable ∧ (ahm l e).Pending.size ≤ l.Pending.size + 500 := by
 unfold ahm
 split
 · rename_i h
   split
   · exact ⟨rfl, by omega⟩
   · rename_i h60
     have hc := rf h.1
     refine ⟨rfl, ?_⟩
     have := yz (k := l.Count) (by omega) h.2
     rw [ByteArray.size_append]; omega
 · exact ⟨rfl, by omega⟩
theorem api {c : ah} {line : ByteArray} {n : Nat} (h : c.sz n) : (eo c line).1.sz (n + 1) := by
 obtain ⟨h0, h1, h2, h3⟩ := h
 have hk : c.sz (n + 1) := ⟨h0, h1, h2, by omega⟩
 unfold eo
 split
 · exact hk
 · rename_i hb
   split
   · exact hk
   · split
     · exact hk
     · have W := eh (ahl (line := line) (qe (c := c) (by simpa using hb)).1)
       have p := W.plen
       have s := W.slen
       obtain ⟨d, q⟩ := ans c.Log ⟨line, pg (fy c.ab line).2⟩
       exact ⟨by dsimp only; omega, by dsimp only; omega, by dsimp only; rw [d]; exact h2, by dsimp only; omega⟩
noncomputable def xk (p : ah × List ByteArray) (l : ByteArray) : ah × List ByteArray := ((eo p.1 l).1, p.2 ++ [(eo p.1 l).2])
noncomputable def scr (c : ah) (L : List ByteArray) : ah × List ByteArray := L.foldl xk (c, [])
theorem zz {c : ah} {L : List ByteArray} {i : Nat} (h : i < L.length) : scr c (L.take (i + 1)) = xk (scr c (L.take i)) L[i] := by
 rw [List.take_succ_eq_append_getElem h, scr, List.foldl_append]; rfl
theorem w5 (c : ah) (L : List ByteArray) : ∀ i, i ≤ L.length → (scr c (L.take i)).2.length = i
 | 0, _ => rfl
 | i + 1, h => by
  rw [zz (show i < L.length by omega), xk, List.length_append, w5 c L i (by omega)]; rfl
theorem alb {c : ah} {L : List ByteArray} (h : c.sz 0) : ∀ i, i ≤ L.length → (scr c (L.take i)).1.sz i
 | 0, _ => h
 | i + 1, hi => by
  rw [zz (show i < L.length by omega)]
  exact api (alb h i (by omega))
noncomputable def anq (c : ah) (text : ByteArray) : Bool := j0 c && (decide ((gi 10 text).length ≤ 30) && decide (text.size ≤ 4000))
noncomputable def js (c : ah) (text : ByteArray) : Option (List ByteArray) := if anq c text = true then some (scr c (gi 10 text)).2 else none
theorem wy {c : ah} {text : ByteArray} (h1 : j0 c = true) (h2 : (gi 10 text).length ≤ 30) (h3 : text.size ≤ 4000) : js c text = some (scr c (gi 10 text)).2 := by
 rw [js, anq, h1, decide_eq_true h2, decide_eq_true h3]; rfl
theorem adg {c : ah} {text : ByteArray} (h : j0 c = false ∨ ¬ (gi 10 text).length ≤ 30 ∨ ¬ text.size ≤ 4000) : js c text = none := by
 rw [js, anq]
 rcases h with h | h | h
 · rw [h]; rfl
 · rw [decide_eq_false h]; simp
 · rw [decide_eq_false h]; simp
theorem xg (c : ah) (text : ByteArray) (hc : c.sz 0) (hl : text.size ≤ 4194304) : Ctr Tryz.prog 15 [c.v, .str text] [] (sw 1 (js c text)) (k9 StringS.cs (js c text)) := by
 have hcf := ah.ace hc (by omega)
 have hG := ea c hcf
 have hsp := aaz text 10 (by omega)
 have hsz : ∀ y ∈ gi 10 text, y.size ≤ text.size := fun y hy => n7 10 text hy
 have hno := adg (c := c) (text := text)
 have hyes := wy (c := c) (text := text)
 generalize gi 10 text = L at *
 cases h1 : j0 c with
 | false =>
  rw [hno (.inl h1)]
  rw [h1] at hG
  refine Ctr.intro Tryz.mixed Tryz.func15 rfl Tryz.am0 ?_
  refine ev2 @Tryz.ntmps15 @Tryz.results15 ?_
  refine rn1 @ah.v.eq_1 ?_
  (first | refine al.at (hsp) ⟨leA, leA, trivial⟩ ?_ | refine ai.at (hsp) ⟨leA, leA, trivial⟩ ?_)
  refine rn0 ?_
  (first | refine al.at (hG) ⟨leA, trivial⟩ ?_ | refine ai.at (hG) ⟨leA, trivial⟩ ?_)
  refine rn0 ?_
  exact ak.au rfl (by rfl)
 | true =>
  rw [h1] at hG
  by_cases h2 : L.length ≤ 30
  rotate_left
  · have d2 : decide (30 < (L.length : Int)) = true := decide_eq_true (by omega)
    rw [hno (.inr (.inl h2))]
    refine Ctr.intro Tryz.mixed Tryz.func15 rfl Tryz.am0 ?_
    refine ev2 @Tryz.ntmps15 @Tryz.results15 ?_
    refine rn1 @ah.v.eq_1 ?_
    (first | refine al.at (hsp) ⟨leA, leA, trivial⟩ ?_ | refine ai.at (hsp) ⟨leA, leA, trivial⟩ ?_)
    refine rn0 ?_
    (first | refine al.at (hG) ⟨leA, trivial⟩ ?_ | refine ai.at (hG) ⟨leA, trivial⟩ ?_)
    refine rn1 @d2 ?_
    exact ak.au rfl (by rfl)
  have d2 : decide (30 < (L.length : Int)) = false := decide_eq_false (by omega)
  by_cases h3 : text.size ≤ 4000
  rotate_left
  · have d3 : decide (4000 < (text.size : Int)) = true := decide_eq_true (by omega)
    rw [hno (.inr (.inr h3))]
    refine Ctr.intro Tryz.mixed Tryz.func15 rfl Tryz.am0 ?_
    refine ev2 @Tryz.ntmps15 @Tryz.results15 ?_
    refine rn1 @ah.v.eq_1 ?_
    (first | refine al.at (hsp) ⟨leA, leA, trivial⟩ ?_ | refine ai.at (hsp) ⟨leA, leA, trivial⟩ ?_)
    refine rn0 ?_
    (first | refine al.at (hG) ⟨leA, trivial⟩ ?_ | refine ai.at (hG) ⟨leA, trivial⟩ ?_)
    refine rn2 @d2 @d3 ?_
    exact ak.au rfl (by rfl)
  have d3 : decide (4000 < (text.size : Int)) = false := decide_eq_false (by omega)
  rw [hyes h1 h2 h3]
  refine Ctr.intro Tryz.mixed Tryz.func15 rfl Tryz.am0 ?_
  refine ev2 @Tryz.ntmps15 @Tryz.results15 ?_
  refine rn1 @ah.v.eq_1 ?_
  (first | refine al.at (hsp) ⟨leA, leA, trivial⟩ ?_ | refine ai.at (hsp) ⟨leA, leA, trivial⟩ ?_)
  refine rn0 ?_
  (first | refine al.at (hG) ⟨leA, trivial⟩ ?_ | refine ai.at (hG) ⟨leA, trivial⟩ ?_)
  refine rn2 @d2 @d3 ?_
  refine dh.intro (fun i : Nat => i ≤ L.length) (fun i => ⟨(.undef :: .undef :: .ptr 0 0 :: (un 4 (.osl 1 0 i 1 :: (un 19 (StringS.sl L :: .int .i64 L.length :: .int .i64 i :: (un 15 [])))))), [some (scr c (L.take i)).1.cs, some (rows StringS.cs (scr c (L.take i)).2)], 0⟩) (fun i => L.length - i) 0 (Nat.zero_le _) ?_ (fun i hi => ?_)
  · refine aq.cut (2) (by simp) (by simp) ?_ ?_
    · simp [LeC, LeV, ren, bj]
    · rfl
  refine ev0 ?_
  refine ax.split (fun g1 => ?_) (fun g1 => ?_)
  · have hi' : i < L.length := by have := of_decide_eq_true g1; omega
    have hr := bw StringS.csl hi'
    have hst := zz (c := c) hi'
    have hlen := w5 c L i hi
    have hszi := alb hc i hi
    have hx := ana (scr c (L.take i)).1 L[i] (ah.ace hszi (by omega)) (by have := hsz _ (List.getElem_mem hi'); omega)
    generalize scr c (L.take i) = p at *
    refine rn4 @g1 @hr @StringS.cs.eq_1 @ah.cs.eq_1 ?_
    (first | refine al.at (hx) ⟨leA, leA, trivial⟩ ?_ | refine ai.at (hx) ⟨leA, leA, trivial⟩ ?_)
    refine rn5 @ah.v.eq_1 @bb @bh @Nat.mul_one @hlen ?_
    refine ⟨i + 1, hi', ?_, by omega⟩
    rw [hst]
    refine aq.cut (2) (by simp) (by simp) ?_ ?_
    · simp [LeC, LeV, ren, bj]
    · rw [xk, ← di]
      simp [bz, ck, ren, bj, ae, dd, me, StringS.cs, ah.cs]
  · have hi' : i = L.length := by have := of_decide_eq_false g1; omega
    subst hi'
    have hlen := w5 c L L.length hi
    rw [List.take_length] at hlen
    refine rn2 @g1 @List.take_length.{0} ?_
    refine ak.pick [1] (by decide) (fun j hj => by omega) (.inl ?_) ?_
    · simp only [sw, hlen]; rfl
    · simp [az, bg, k9, ae]
theorem ae2 (c : ah) (text : ByteArray) (hc : c.sz 0) (hl : text.size ≤ 4194304) : Ctr Tryz.prog 16 [c.v, .str text] [] (xc 1 (js c text)) (pb StringS.cs (js c text)) := by
 have hcf := ah.ace hc (by omega)
 have hG := ly c hcf
 have hsp := wu text 10 (by omega)
 rw [show (((10 : UInt8).toNat : Nat) : Int) = 10 from rfl] at hsp
 have hsz : ∀ y ∈ gi 10 text, y.size ≤ text.size := fun y hy => n7 10 text hy
 have hno := adg (c := c) (text := text)
 have hyes := wy (c := c) (text := text)
 generalize gi 10 text = L at *
 cases h1 : j0 c with
 | false =>
  rw [hno (.inl h1)]
  rw [h1] at hG
  refine Ctr.intro Tryz.mixed Tryz.func16 rfl Tryz.al4 ?_
  refine ev2 @Tryz.ntmps16 @Tryz.results16 ?_
  refine rn1 @ah.v.eq_1 ?_
  (first | refine al.at (hsp) ⟨leA, leA, trivial⟩ ?_ | refine ai.at (hsp) ⟨leA, leA, trivial⟩ ?_)
  refine rn0 ?_
  (first | refine al.at (hG) ⟨leA, trivial⟩ ?_ | refine ai.at (hG) ⟨leA, trivial⟩ ?_)
  refine rn0 ?_
  refine ak.pick [1] (by decide) (fun j hj => by omega) (.inl rfl) rfl
 | true =>
  rw [h1] at hG
  by_cases h3 : text.size ≤ 4000
  rotate_left
  · have d3 : decide (4000 < (text.size : Int)) = true := decide_eq_true (by omega)
    rw [hno (.inr (.inr h3))]
    refine Ctr.intro Tryz.mixed Tryz.func16 rfl Tryz.al4 ?_
    refine ev2 @Tryz.ntmps16 @Tryz.results16 ?_
    refine rn1 @ah.v.eq_1 ?_
    (first | refine al.at (hsp) ⟨leA, leA, trivial⟩ ?_ | refine ai.at (hsp) ⟨leA, leA, trivial⟩ ?_)
    refine rn0 ?_
    (first | refine al.at (hG) ⟨leA, trivial⟩ ?_ | refine ai.at (hG) ⟨leA, trivial⟩ ?_)
    refine rn1 @d3 ?_
    refine ak.pick [1] (by decide) (fun j hj => by omega) (.inl rfl) rfl
  have d3 : decide (4000 < (text.size : Int)) = false := decide_eq_false (by omega)
  by_cases h2 : L.length ≤ 30
  rotate_left
  · have d2 : decide (30 < (L.length : Int)) = true := decide_eq_true (by omega)
    rw [hno (.inr (.inl h2))]
    refine Ctr.intro Tryz.mixed Tryz.func16 rfl Tryz.al4 ?_
    refine ev2 @Tryz.ntmps16 @Tryz.results16 ?_
    refine rn1 @ah.v.eq_1 ?_
    (first | refine al.at (hsp) ⟨leA, leA, trivial⟩ ?_ | refine ai.at (hsp) ⟨leA, leA, trivial⟩ ?_)
    refine rn0 ?_
    (first | refine al.at (hG) ⟨leA, trivial⟩ ?_ | refine ai.at (hG) ⟨leA, trivial⟩ ?_)
    refine rn2 @d2 @d3 ?_
    refine ak.pick [1] (by decide) (fun j hj => by omega) (.inl rfl) rfl
  have d2 : decide (30 < (L.length : Int)) = false := decide_eq_false (by omega)
  rw [hyes h1 h2 h3]
  refine Ctr.intro Tryz.mixed Tryz.func16 rfl Tryz.al4 ?_
  refine ev2 @Tryz.ntmps16 @Tryz.results16 ?_
  refine rn1 @ah.v.eq_1 ?_
  (first | refine al.at (hsp) ⟨leA, leA, trivial⟩ ?_ | refine ai.at (hsp) ⟨leA, leA, trivial⟩ ?_)
  refine rn0 ?_
  (first | refine al.at (hG) ⟨leA, trivial⟩ ?_ | refine ai.at (hG) ⟨leA, trivial⟩ ?_)
  refine rn2 @d2 @d3 ?_
  refine dh.intro (fun i : Nat => i ≤ L.length) (fun i => ⟨(.undef :: .undef :: .ptr 0 0 :: (un 3 (.osl 1 0 i 1 :: StringS.sl L :: .undef :: .int .i64 i :: (un 37 [])))), [some (scr c (L.take i)).1.cs, some (rows StringS.cs (scr c (L.take i)).2)], 0⟩) (fun i => L.length - i) 0 (Nat.zero_le _) ?_ (fun i hi => ?_)
  · refine aq.cut (2) (by simp) (by simp) ?_ ?_
    · simp [LeC, LeV, ren, bj]
    · rfl
  refine ev0 ?_
  refine ax.split (fun g1 => ?_) (fun g1 => ?_)
  · have hi' : i < L.length := by have := of_decide_eq_true g1; omega
    have hr := bw StringS.csl hi'
    have hst := zz (c := c) hi'
    have hlen := w5 c L i hi
    have hszi := alb hc i hi
    have hx := aiz (scr c (L.take i)).1 L[i] (ah.ace hszi (by omega)) (by have := hsz _ (List.getElem_mem hi'); omega)
    generalize scr c (L.take i) = p at *
    refine rn4 @g1 @hr @StringS.cs.eq_1 @ah.cs.eq_1 ?_
    (first | refine al.at (hx) ⟨leA, leA, trivial⟩ ?_ | refine ai.at (hx) ⟨leA, leA, trivial⟩ ?_)
    refine rn5 @ah.v.eq_1 @bb @bh @Nat.mul_one @hlen ?_
    refine ⟨i + 1, hi', ?_, by omega⟩
    rw [hst]
    refine aq.cut (2) (by simp) (by simp) ?_ ?_
    · simp [LeC, LeV, ren, bj]
    · rw [xk, ← di]
      simp [bz, ck, ren, bj, ae, dd, me, StringS.cs, ah.cs]
  · have hi' : i = L.length := by have := of_decide_eq_false g1; omega
    subst hi'
    have hlen := w5 c L L.length hi
    rw [List.take_length] at hlen
    refine rn2 @g1 @List.take_length.{0} ?_
    refine ak.pick [1] (by decide) (fun j hj => by omega) (.inl ?_) ?_
    · simp only [xc, hlen]; rfl
    · simp [az, bg, pb, ae]
end Go.Proofs
end
section
set_option maxRecDepth 100000
set_option maxHeartbeats 1000000
namespace Go.Proofs
open Go.Lv
theorem s8 (p : UInt8 → Bool) (x y : ByteArray) : dv p (x ++ y) = (dv p x && dv p y) := by simp only [dv, l5, List.all_append]
theorem aof {b : UInt8} (h : gj b = true) : br b = true := by
 simp only [gj, Bool.and_eq_true, decide_eq_true_eq] at h
 simp only [br, kf, Bool.and_eq_true, decide_eq_true_eq, Bool.not_eq_true', beq_eq_false_iff_ne, ne_eq]
 refine ⟨⟨by omega, by omega⟩, fun e => ?_⟩
 rw [e] at h
 simp at h
theorem afk (u : Nat) : (Lib.decDigits u).all br = true := by
 have h := (rv (u + 1) u (by omega)).1
 rw [List.all_eq_true] at h ⊢
 exact fun b hb => aof (h b hb)
theorem sb (n : Int) : dv br (num n) = true := by
 rcases Int.lt_or_le n 0 with hn | hn
 · obtain ⟨u, rfl⟩ : ∃ u : Nat, n = -(u : Int) := ⟨n.natAbs, by omega⟩
   have e : Lib.itoa (-(u : Int)) = 45 :: Lib.decDigits u := by unfold Lib.itoa; rw [if_pos (by omega)]; simp
   show (Lib.itoa (-(u : Int))).toArray.toList.all br = true
   rw [e]
   simp only [List.all_cons, afk, Bool.and_true]
   decide
 · obtain ⟨u, rfl⟩ : ∃ u : Nat, n = u := ⟨n.toNat, by omega⟩
   show (Lib.itoa (u : Int)).toArray.toList.all br = true
   rw [qk]
   simpa using afk u
theorem adb : ∀ L : List Int, dv br (nr L) = true
 | [] => rfl
 | [a] => sb a
 | a :: b :: l => by
  have ih := adb (b :: l)
  rw [nr, s8, s8, sb, ih]
  decide
theorem qq (L : List Int) : dv br (lg L) = true := by
 unfold lg
 split
 · decide
 · exact adb L
theorem ak7 (s : Int) : dv br (od s) = true := by
 unfold od
 split
 · decide
 · split
   · decide
   · split <;> decide
theorem aj6 (x : aj) : dv br (jk x) = true := by
 have h1 : dv br (ny x) = true := by
  rw [ny, s8, s8, sb, ak7]; decide
 unfold jk
 split
 · exact h1
 · rw [s8, s8, sb, h1]; decide
theorem acy (w : ab) (n : Int) : dv br ((zk w n).getD wQ) = true := by
 unfold zk
 cases w.Shocks.find? (dt n) with
 | none => exact (by decide : dv br wQ = true)
 | some x => exact aj6 x
theorem aj7 (w : ab) (k n : Int) : dv br ((jx w k n).getD wQ) = true := by
 unfold jx
 split
 · exact sb _
 · split
   · exact qq _
   · split
     · exact sb _
     · split
       · exact sb _
       · exact acy w n
theorem anh (w : ab) (q : Nat) : dv br ((wo w q).getD wQ) = true := by
 have hq : dv br wQ = true := by decide
 unfold wo
 split
 · exact sb _
 · split
   · exact qq _
   · split
     · exact qq _
     · split
       · exact qq _
       · split
         · cases lgO w with
           | none => exact hq
           | some p => exact qq _
         · exact hq
theorem alk (w : ab) (q : Nat) (ns : List Int) : dv br (mj w q ns).2 = true := by
 have hq : dv br wQ = true := by decide
 unfold mj
 split
 · rename_i k n v _
   unfold lj
   split
   · exact hq
   · exact aj7 _ _ _
 · split
   · exact anh _ _
   · dsimp only
     split
     · exact acy _ _
     · exact hq
   · exact hq
theorem akk (w : ab) (line : ByteArray) : dv br (fy w line).2 = true := by
 unfold fy
 split
 · exact (by decide : dv br wQ = true)
 · exact alk _ _ _
theorem anj {r : ByteArray} (h : dv br r = true) : dv br (pg r) = true ∧ (pg r).size ≤ 200 := by
 unfold pg
 split
 · exact ⟨by decide, by decide⟩
 · exact ⟨h, by omega⟩
theorem aon {line r r' : ByteArray} (h : jc ⟨line, r⟩ = true) (h1 : dv br r' = true) (h2 : r'.size ≤ 200) : jc ⟨line, r'⟩ = true := by
 simp only [jc, Bool.and_eq_true, decide_eq_true_eq] at h ⊢
 exact ⟨h.1, h2, h1⟩
theorem ako (c : ah) (line : ByteArray) : ((eo c line).1 = c ∧ ((eo c line).2 = wNo ∨ (eo c line).2 = asw ∨ (eo c line).2 = amj)) ∨
 (j0 c = true ∧ jc ⟨line, (eo c line).2⟩ = true ∧ c.Log.Count ≠ 60 ∧ wB (eo c line).1.ab = true ∧ (eo c line).1.ab = (fy c.ab line).1 ∧ (eo c line).1.Log = ⟨c.Log.Durable, c.Log.Pending ++ fj c.Log.Count ⟨line, (eo c line).2⟩, c.Log.Count + 1⟩) := by
 unfold eo
 split
 · exact .inl ⟨rfl, .inl rfl⟩
 · rename_i h1
   split
   · exact .inl ⟨rfl, .inr (.inl rfl)⟩
   · rename_i h2
     split
     · exact .inl ⟨rfl, .inr (.inr rfl)⟩
     · rename_i h3
       have hc : j0 c = true := by simpa using h1
       have hr : jc ⟨line, ByteArray.empty⟩ = true := by simpa using h2
       obtain ⟨p1, p2⟩ := anj (akk c.ab line)
       have hrr := aon hr p1 p2
       refine .inr ⟨hc, hrr, h3, ahl (qe hc).1, rfl, ?_⟩
       dsimp only
       rw [ahm, if_pos ⟨(qe hc).2, hrr⟩, if_neg h3]
end Go.Proofs
end
section
set_option maxRecDepth 100000
set_option maxHeartbeats 4000000
namespace Go.Proofs
open Go.Lv
def dC (m : Nat) (s : ah) : Prop := (s.ab.ok ∧ s.ab.sm) ∧ (s.ab.Posts.length ≤ 100 ∧ s.ab.Shocks.length ≤ 100) ∧ s.Log.Durable.size ≤ 100000 ∧ s.Log.Pending.size ≤ 100000 + 500 * m ∧ bt s.Log.Count
theorem dC.fits {m : Nat} {s : ah} (h : dC m s) (hm : m ≤ 1000) : s.fits := by
 obtain ⟨_, ⟨h1, h2⟩, h3, h4, _⟩ := h
 exact ⟨by omega, by omega, by omega, by omega⟩
theorem dC.exec {m : Nat} {s : ah} (h : dC m s) (line : ByteArray) : dC (m + 1) (eo s line).1 := by
 obtain ⟨h1, h2, h3, h4, h5⟩ := h
 rcases ako s line with ⟨e, _⟩ | ⟨hc, hr, hn, hw, _, hl⟩
 · rw [e]; exact ⟨h1, h2, h3, by omega, h5⟩
 · obtain ⟨g1, g2, g3⟩ := akx hw
   have hlc := rf (qe hc).2
   have hz := yz (k := s.Log.Count) (by omega) hr
   refine ⟨⟨g1, avp hw⟩, ⟨by omega, by omega⟩, ?_⟩
   rw [hl]
   refine ⟨h3, by simp only [ByteArray.size_append]; omega, ⟨by simp only []; omega, by simp only []; omega⟩⟩
theorem dC.log {m : Nat} {s : ah} (h : dC m s) {l : Log} (h1 : l.Durable.size ≤ 100000) (h2 : l.Pending.size ≤ 100000) (h3 : bt l.Count) : dC m ⟨s.ab, l⟩ := ⟨h.1, h.2.1, h1, by simp only []; omega, h3⟩
theorem sR.i64 {x : Int} (h : sR x) : -9223372036854775807 ≤ x ∧ x ≤ 9223372036854775807 := by
 obtain ⟨h1, h2⟩ := h; omega
theorem yb {B : List Int} (hB : CB B) {k : Int} (hk : k ≤ 900000) {c : Cur} (hc : c.le k) (s : ah) {m : Nat} (hs : dC m s) : ml Tryz.prog 31 [.ptr 0 0, s.v] [some (c.cs B)] (ap7 B 100 (k + 60)) := by
 have hcb : ∀ {c' : Cur} {k' : Int}, c'.le k' → k' ≤ 4000000 → c'.le 4611686018427387903 := fun h h' => ⟨h.1, by have := h.2; omega⟩
 obtain ⟨⟨_, hsm⟩, ⟨hp, hq⟩, _⟩ := hs
 refine ml.intro Tryz.mixed Tryz.func31 rfl Tryz.a3b ?_
 refine ev2 @Tryz.ntmps31 @Tryz.results31 ?_
 refine rs1 @ah.v.eq_1 ?_
 refine ai.rel [0] (aaj hB (by omega) hc s.ab hsm (by omega) (by omega)) (by decide) ⟨leO, leO, trivial⟩ (dp rfl) rfl (fun r hout hΦ => ?_)
 obtain ⟨x, c1, hx, hc1, rfl, rfl⟩ := hΦ
 refine ⟨⟨⟨rfl, rfl⟩, trivial⟩, ?_⟩
 refine rs2 @Cur.ren @cm.v.eq_1 ?_
 obtain ⟨K, n, v⟩ := x
 obtain ⟨_, hn, hv⟩ := hx
 dsimp only at hn hv ⊢
 (have ct := ed n hn.i64.1 hn.i64.2; (first | refine al.at ct ⟨leA, trivial⟩ ?_ | refine ai.at ct ⟨leA, trivial⟩ ?_); clear ct)
 refine rs1 @Cur.ren ?_
 (have ct := ed v hv.i64.1 hv.i64.2; (first | refine al.at ct ⟨leA, trivial⟩ ?_ | refine ai.at ct ⟨leA, trivial⟩ ?_); clear ct)
 refine rs1 @Cur.ren ?_
 refine gy hB hc1 (by omega) 6 (by omega) rfl (fun vc2 c2 pvc2 hc2 => ?_)
 refine rs1 @Cur.ren ?_
 have sn := dz (n := n) (by have := hn.i64; omega) (by have := hn.i64; omega)
 have sv := dz (n := v) (by have := hv.i64; omega) (by have := hv.i64; omega)
 have hcases : vc2 = 4 ∨ vc2 = 5 ∨ (vc2 = 0 ∨ vc2 = 1 ∨ vc2 = 2 ∨ vc2 = 3) := by omega
 have hcc : ∀ {x : ByteArray} {y : ByteArray} {h : Hp}, h[0]? = some (some (c2.cs B)) → x.size ≤ 10 → y.size ≤ 21 → x9 1 (.str (x ++ y)) h (ap7 B 100 (k + 60)) := fun h0 hx hy => po h0 (by rw [ByteArray.size_append]; omega) (fp hc2 (by omega))
 have hcd : ∀ {x y z w : ByteArray} {h : Hp}, h[0]? = some (some (c2.cs B)) → x.size ≤ 10 → y.size ≤ 21 → z.size ≤ 10 → w.size ≤ 21 → x9 1 (.str (x ++ y ++ z ++ w)) h (ap7 B 100 (k + 60)) := fun h0 hx hy hz hw => po h0 (by simp only [ByteArray.size_append]; omega) (fp hc2 (by omega))
 rcases hcases with rfl | rfl | hv4
 · refine rs0 ?_
   have pc3 := af3 hB (hcb hc2 (by omega)) [⟨#[110, 111, 119]⟩, ⟨#[112, 111, 115, 116, 115]⟩, ⟨#[116, 111, 100, 111]⟩, ⟨#[115, 116, 97, 116, 101, 115]⟩, ⟨#[108, 111, 110, 103, 101, 115, 116]⟩, ⟨#[116, 101, 120, 116, 32]⟩ ++ num n] (by simp) (by simp); have hc3 := dk (B := B) (n := (([⟨#[110, 111, 119]⟩, ⟨#[112, 111, 115, 116, 115]⟩, ⟨#[116, 111, 100, 111]⟩, ⟨#[115, 116, 97, 116, 101, 115]⟩, ⟨#[108, 111, 110, 103, 101, 115, 116]⟩, ⟨#[116, 101, 120, 116, 32]⟩ ++ num n] : List ByteArray).length : Int)) hc2; have pvc3 := xa hB (K := [⟨#[110, 111, 119]⟩, ⟨#[112, 111, 115, 116, 115]⟩, ⟨#[116, 111, 100, 111]⟩, ⟨#[115, 116, 97, 116, 101, 115]⟩, ⟨#[108, 111, 110, 103, 101, 115, 116]⟩, ⟨#[116, 101, 120, 116, 32]⟩ ++ num n]) (by simp) hc2.1; generalize ofV B [⟨#[110, 111, 119]⟩, ⟨#[112, 111, 115, 116, 115]⟩, ⟨#[116, 111, 100, 111]⟩, ⟨#[115, 116, 97, 116, 101, 115]⟩, ⟨#[108, 111, 110, 103, 101, 115, 116]⟩, ⟨#[116, 101, 120, 116, 32]⟩ ++ num n] c2 = vc3 at pc3 pvc3; generalize ff B (([⟨#[110, 111, 119]⟩, ⟨#[112, 111, 115, 116, 115]⟩, ⟨#[116, 111, 100, 111]⟩, ⟨#[115, 116, 97, 116, 101, 115]⟩, ⟨#[108, 111, 110, 103, 101, 115, 116]⟩, ⟨#[116, 101, 120, 116, 32]⟩ ++ num n] : List ByteArray).length : Int) c2 = c3 at pc3 hc3; (first | refine ai.df [0, 1] false pc3 (by decide) ⟨leO, leO, trivial⟩ (bq rfl rfl) (bp B _ _) (.inl rfl) ?_ | refine ai.df [0, 2] false pc3 (by decide) ⟨leO, leO, trivial⟩ (bq rfl rfl) (bp B _ _) (.inl rfl) ?_ | refine ai.df [0, 3] false pc3 (by decide) ⟨leO, leO, trivial⟩ (bq rfl rfl) (bp B _ _) (.inl rfl) ?_ | refine ai.df [0, 4] false pc3 (by decide) ⟨leO, leO, trivial⟩ (bq rfl rfl) (bp B _ _) (.inl rfl) ?_ | refine ai.df [0, 5] false pc3 (by decide) ⟨leO, leO, trivial⟩ (bq rfl rfl) (bp B _ _) (.inl rfl) ?_ | refine ai.df [0, 6] false pc3 (by decide) ⟨leO, leO, trivial⟩ (bq rfl rfl) (bp B _ _) (.inl rfl) ?_ | refine ai.df [0, 7] false pc3 (by decide) ⟨leO, leO, trivial⟩ (bq rfl rfl) (bp B _ _) (.inl rfl) ?_ | refine ai.df [0, 8] false pc3 (by decide) ⟨leO, leO, trivial⟩ (bq rfl rfl) (bp B _ _) (.inl rfl) ?_)
   refine rs1 @Cur.ren ?_
   have hz : vc3.size ≤ 100 := by
    simp only [List.mem_cons, List.mem_nil_iff, or_false] at pvc3
    rcases pvc3 with rfl | rfl | rfl | rfl | rfl | rfl
    · decide
    · decide
    · decide
    · decide
    · decide
    · rw [ByteArray.size_append]
      have : (⟨#[116, 101, 120, 116, 32]⟩ : ByteArray).size = 5 := rfl
      omega
   exact po rfl hz (fp hc3 (by omega))
 · refine rs0 ?_
   have pc3 := af3 hB (hcb hc2 (by omega)) [⟨#[]⟩, ⟨#[119, 104, 97, 116]⟩, ⟨#[108, 111, 99, 97, 116, 101, 32, 49]⟩, ⟨#[119, 97, 105, 116, 32, 120]⟩, ⟨#[119, 97, 105, 116, 32, 48]⟩, ⟨#[100, 111, 119, 110, 32, 48]⟩, ⟨#[114, 101, 118, 105, 101, 119]⟩, ⟨#[97, 64, 98]⟩, ⟨#[115, 104, 111, 99, 107, 32, 49]⟩, ⟨#[112, 117, 98, 108, 105, 115, 104, 32, 49, 32, 50]⟩, ⟨#[116, 101, 120, 116, 32, 45, 49]⟩] (by simp) (by simp); have hc3 := dk (B := B) (n := (([⟨#[]⟩, ⟨#[119, 104, 97, 116]⟩, ⟨#[108, 111, 99, 97, 116, 101, 32, 49]⟩, ⟨#[119, 97, 105, 116, 32, 120]⟩, ⟨#[119, 97, 105, 116, 32, 48]⟩, ⟨#[100, 111, 119, 110, 32, 48]⟩, ⟨#[114, 101, 118, 105, 101, 119]⟩, ⟨#[97, 64, 98]⟩, ⟨#[115, 104, 111, 99, 107, 32, 49]⟩, ⟨#[112, 117, 98, 108, 105, 115, 104, 32, 49, 32, 50]⟩, ⟨#[116, 101, 120, 116, 32, 45, 49]⟩] : List ByteArray).length : Int)) hc2; have pvc3 := xa hB (K := [⟨#[]⟩, ⟨#[119, 104, 97, 116]⟩, ⟨#[108, 111, 99, 97, 116, 101, 32, 49]⟩, ⟨#[119, 97, 105, 116, 32, 120]⟩, ⟨#[119, 97, 105, 116, 32, 48]⟩, ⟨#[100, 111, 119, 110, 32, 48]⟩, ⟨#[114, 101, 118, 105, 101, 119]⟩, ⟨#[97, 64, 98]⟩, ⟨#[115, 104, 111, 99, 107, 32, 49]⟩, ⟨#[112, 117, 98, 108, 105, 115, 104, 32, 49, 32, 50]⟩, ⟨#[116, 101, 120, 116, 32, 45, 49]⟩]) (by simp) hc2.1; generalize ofV B [⟨#[]⟩, ⟨#[119, 104, 97, 116]⟩, ⟨#[108, 111, 99, 97, 116, 101, 32, 49]⟩, ⟨#[119, 97, 105, 116, 32, 120]⟩, ⟨#[119, 97, 105, 116, 32, 48]⟩, ⟨#[100, 111, 119, 110, 32, 48]⟩, ⟨#[114, 101, 118, 105, 101, 119]⟩, ⟨#[97, 64, 98]⟩, ⟨#[115, 104, 111, 99, 107, 32, 49]⟩, ⟨#[112, 117, 98, 108, 105, 115, 104, 32, 49, 32, 50]⟩, ⟨#[116, 101, 120, 116, 32, 45, 49]⟩] c2 = vc3 at pc3 pvc3; generalize ff B (([⟨#[]⟩, ⟨#[119, 104, 97, 116]⟩, ⟨#[108, 111, 99, 97, 116, 101, 32, 49]⟩, ⟨#[119, 97, 105, 116, 32, 120]⟩, ⟨#[119, 97, 105, 116, 32, 48]⟩, ⟨#[100, 111, 119, 110, 32, 48]⟩, ⟨#[114, 101, 118, 105, 101, 119]⟩, ⟨#[97, 64, 98]⟩, ⟨#[115, 104, 111, 99, 107, 32, 49]⟩, ⟨#[112, 117, 98, 108, 105, 115, 104, 32, 49, 32, 50]⟩, ⟨#[116, 101, 120, 116, 32, 45, 49]⟩] : List ByteArray).length : Int) c2 = c3 at pc3 hc3; (first | refine ai.df [0, 1] false pc3 (by decide) ⟨leO, leO, trivial⟩ (bq rfl rfl) (bp B _ _) (.inl rfl) ?_ | refine ai.df [0, 2] false pc3 (by decide) ⟨leO, leO, trivial⟩ (bq rfl rfl) (bp B _ _) (.inl rfl) ?_ | refine ai.df [0, 3] false pc3 (by decide) ⟨leO, leO, trivial⟩ (bq rfl rfl) (bp B _ _) (.inl rfl) ?_ | refine ai.df [0, 4] false pc3 (by decide) ⟨leO, leO, trivial⟩ (bq rfl rfl) (bp B _ _) (.inl rfl) ?_ | refine ai.df [0, 5] false pc3 (by decide) ⟨leO, leO, trivial⟩ (bq rfl rfl) (bp B _ _) (.inl rfl) ?_ | refine ai.df [0, 6] false pc3 (by decide) ⟨leO, leO, trivial⟩ (bq rfl rfl) (bp B _ _) (.inl rfl) ?_ | refine ai.df [0, 7] false pc3 (by decide) ⟨leO, leO, trivial⟩ (bq rfl rfl) (bp B _ _) (.inl rfl) ?_ | refine ai.df [0, 8] false pc3 (by decide) ⟨leO, leO, trivial⟩ (bq rfl rfl) (bp B _ _) (.inl rfl) ?_)
   refine rs1 @Cur.ren ?_
   exact po rfl (vy pvc3 (by rfl)) (fp hc3 (by omega))
 · rcases hv4 with rfl | rfl | rfl | rfl <;> refine rs0 ?_
   all_goals repeat' (refine ax.split (fun h6 => ?_) (fun h6 => ?_) <;> refine rs1 @h6 ?_)
   all_goals first
    | exact hcc rfl (by decide) sn
    | exact hcc rfl (by decide) sv
    | exact hcd rfl (by decide) sn (by decide) sv
    | exact po rfl (by decide) (fp hc2 (by omega))
end Go.Proofs
end
section
set_option maxRecDepth 100000
set_option maxHeartbeats 4000000
namespace Go.Proofs
open Go.Lv
def ah.zs : List V := [.int .i64 0, .nilsl, .nilsl, .int .i64 0, .int .i64 0, .str ByteArray.empty, .str ByteArray.empty, .int .i64 0]
def av8 (B : List Int) (k : Int) (r : V) (hout : Hp) : Prop := ∃ (s : ah) (c : Cur), dC 7 s ∧ c.le k ∧ r = s.v ∧ hout = [some (c.cs B)]
theorem zy {B : List Int} {k : Int} {h : Hp} {s : ah} {c : Cur} (h0 : h[0]? = some (some (c.cs B))) (hs : dC 7 s) (hc : c.le k) : x9 1 (.agg s.cs) h (av8 B k) := by
 refine ⟨_, _, ⟨s, c, hs, hc, rfl, rfl⟩, ak.pick [0] (by decide) (fun j hj => by cases j <;> simp_all) (.inl ?_) ?_⟩
 · simp [ren, ah.v, ah.cs]
 · simp only [az, List.map_cons, List.map_nil, bg, h0, Cur.ren]
theorem dC.mono {m n : Nat} {s : ah} (h : dC m s) (hmn : m ≤ n) : dC n s := by
 obtain ⟨h1, h2, h3, h4, h5⟩ := h
 exact ⟨h1, h2, h3, by omega, h5⟩
theorem akv {B : List Int} (hB : CB B) {k : Int} (hk : k ≤ 90000) {c : Cur} (hc : c.le k) : ml Tryz.prog 27 [.ptr 0 0] [some (c.cs B)] (av8 B (k + 4000)) := by
 have hcb : ∀ {c' : Cur} {k' : Int}, c'.le k' → k' ≤ 4000000 → c'.le 4611686018427387903 := fun h h' => ⟨h.1, by have := h.2; omega⟩
 refine ml.intro Tryz.mixed Tryz.func27 rfl Tryz.a3g ?_
 refine ev2 @Tryz.ntmps27 @Tryz.results27 ?_
 refine rs0 ?_
 refine ai.rel [0] (aq9 hB (by omega) hc) (by decide) ⟨leO, trivial⟩ (dp rfl) rfl (fun r hout hΦ => ?_)
 obtain ⟨w, c1, hw, hwp, hws, hc1, rfl, rfl⟩ := hΦ
 refine ⟨⟨⟨rfl, rfl⟩, trivial⟩, ?_⟩
 refine rs2 @Cur.ren @ab.v.eq_1 ?_
 refine gy hB hc1 (by omega) 7 (by omega) rfl (fun vc2 c2 pvc2 hc2 => ?_)
 refine rs1 @Cur.ren ?_
 obtain ⟨n0, hn0⟩ : ∃ n : Nat, vc2 = n := ⟨vc2.toNat, by omega⟩
 subst hn0
 have hs0 : dC 0 ⟨w, ⟨ByteArray.empty, ByteArray.empty, 0⟩⟩ := ⟨hw, ⟨hwp, hws⟩, by simp, by simp, by simp [bt]⟩
 refine dh.intro (fun x : Nat × ah × Cur => x.1 ≤ 7 ∧ dC (7 - x.1) x.2.1 ∧ x.2.2.le (k + 2002 + 100 * (7 - (x.1 : Int)))) (fun x => ⟨(.ptr 0 0 :: .undef :: .ptr 1 0 :: .ptr 2 0 :: .int .i64 x.1 :: (un 27 [])), [some (x.2.2.cs B), some ah.zs, some x.2.1.cs], 1⟩) (fun x => x.1) (n0, ⟨w, ⟨ByteArray.empty, ByteArray.empty, 0⟩⟩, c2) ⟨by simp only []; omega, hs0.mono (by omega), cf hc2 (by simp only []; omega)⟩ ?_ (fun x hx => ?_)
 · refine aq.cut (3) (by simp) (by simp) ?_ ?_
   · simp [LeC, LeV, ren, bj]
   · simp [bz, ck, Cur.ren, ren, ah.zs, ah.cs]
 obtain ⟨n, s, c3⟩ := x
 obtain ⟨x1, hs, hc3⟩ := hx
 dsimp only at x1 hs hc3
 have hg := ly s (hs.fits (by omega))
 refine ev1 @ah.cs.eq_1 ?_
 by_cases hn : n = 0
 · subst hn
   have hd : decide ((0 : Int) < ((0 : Nat) : Int)) = false := rfl
   refine rs2 @hd @ah.cs.eq_1 ?_
   refine dy hB hc3 (by omega) 24 (by omega) rfl (fun vc5 c5 hc5 => ?_)
   refine rs2 @Cur.ren @ah.cs.eq_1 ?_
   refine ax.split (fun h6 => ?_) (fun h6 => ?_)
   · refine rs2 @h6 @ah.cs.eq_1 ?_
     refine ai.rel [0] (agd hB (by omega) hc5) (by decide) ⟨leO, trivial⟩ (dp rfl) rfl (fun r hout hΦ => ?_)
     obtain ⟨l, c6, y1, y2, y3, hc6, rfl, rfl⟩ := hΦ
     refine ⟨⟨⟨rfl, rfl⟩, trivial⟩, ?_⟩
     refine rs3 @Cur.ren @ah.cs.eq_1 @Log.v.eq_1 ?_
     exact ⟨by decide, zy rfl ((hs.log y1 y2 y3).mono (by omega)) (fp hc6 (by omega))⟩
   · refine rs2 @h6 @ah.cs.eq_1 ?_
     exact ⟨by decide, zy rfl (hs.mono (by omega)) (fp hc5 (by omega))⟩
 · have hd : decide ((0 : Int) < (n : Int)) = true := decide_eq_true (by omega)
   refine rs2 @hd @ah.cs.eq_1 ?_
   (first | refine al.at (hg) ⟨leA, trivial⟩ ?_ | refine ai.at (hg) ⟨leA, trivial⟩ ?_)
   refine rs0 ?_
   cases hb : j0 s with
   | false =>
    refine rs0 ?_
    refine dy hB hc3 (by omega) 24 (by omega) rfl (fun vc5 c5 hc5 => ?_)
    refine rs2 @Cur.ren @ah.cs.eq_1 ?_
    refine ax.split (fun h6 => ?_) (fun h6 => ?_)
    · refine rs2 @h6 @ah.cs.eq_1 ?_
      refine ai.rel [0] (agd hB (by omega) hc5) (by decide) ⟨leO, trivial⟩ (dp rfl) rfl (fun r hout hΦ => ?_)
      obtain ⟨l, c6, y1, y2, y3, hc6, rfl, rfl⟩ := hΦ
      refine ⟨⟨⟨rfl, rfl⟩, trivial⟩, ?_⟩
      refine rs3 @Cur.ren @ah.cs.eq_1 @Log.v.eq_1 ?_
      exact ⟨by decide, zy rfl ((hs.log y1 y2 y3).mono (by omega)) (fp hc6 (by omega))⟩
    · refine rs2 @h6 @ah.cs.eq_1 ?_
      exact ⟨by decide, zy rfl (hs.mono (by omega)) (fp hc5 (by omega))⟩
   | true =>
    refine rs0 ?_
    have hfs := hs.fits (by omega)
    refine clT.tree (fun s2 => ∃ (s' : ah) (c4 : Cur), dC (7 - n + 1) s' ∧ c4.le (k + 2002 + 100 * (7 - (n : Int)) + 60) ∧ s2 = ⟨(.ptr 0 0 :: .undef :: .ptr 1 0 :: .ptr 2 0 :: .int .i64 n :: (un 27 [])), [some (c4.cs B), some ah.zs, some s'.cs], 1⟩) (.take 1 (.alt 0 (.alt 2 (.alt 3 (.alt 4 (.take 5 (.take 6 (.take 7 (.alt 8 .done .stop)))) .stop) .stop) .stop) (.alt 2 (.alt 0 (.alt 3 (.alt 4 (.take 5 (.take 6 (.take 7 (.alt 8 .done .stop)))) .stop) .stop) (.alt 3 (.alt 0 (.alt 4 (.take 5 (.take 6 (.take 7 (.alt 8 .done .stop)))) .stop) .stop) .stop)) .stop))) (by kernel_rfl) (fun s2 hs2 => ?_) ?_
    · obtain ⟨s', c4, hs', hc4, rfl⟩ := hs2
      have hn1 : ((n - 1 : Nat) : Int) = (n : Int) - 1 := by omega
      refine rs1 @ah.cs.eq_1 ?_
      refine ⟨(n - 1, s', c4), ⟨by simp only []; omega, hs'.mono (by simp only []; omega), fp hc4 (by simp only []; omega)⟩, ?_, by simp only []; omega⟩
      refine aq.cut (3) (by simp) (by simp) ?_ ?_
      · simp [LeC, LeV, ren, bj, hn1]
      · simp [bz, ck, bj, Cur.ren, ren, ah.zs, ah.cs]
    · refine rs1 @ah.cs.eq_1 ?_
      repeat' (first | (refine ai.rel [0] (yb hB (by omega) hc3 s hs) (by decide) ⟨leO, leO, trivial⟩ (dp rfl) rfl (fun r hout hΦ => ?_); obtain ⟨line, c4, hl, hc4, rfl, rfl⟩ := hΦ; refine ⟨⟨⟨rfl, rfl⟩, trivial⟩, ?_⟩; have cs := aiz s line hfs (by omega); refine rs3 @Cur.ren @ah.v.eq_1 @ah.cs.eq_1 ?_) | ((first | refine al.at (cs) ⟨leA, leA, trivial⟩ ?_ | refine ai.at (cs) ⟨leA, leA, trivial⟩ ?_); refine rs3 @Cur.ren @ah.v.eq_1 @ah.cs.eq_1 ?_) | (refine And.intro ?_ ?_) | exact trivial)
      all_goals
       refine ⟨_, ⟨(eo s line).1, c4, hs.exec line, fp hc4 (by omega), rfl⟩, ?_⟩
       refine aq.cut (3) (by simp) (by simp) ?_ ?_
       · simp [LeC, LeV, ren, bj]
       · simp [bz, ck, bj, Cur.ren, ren, ah.zs, ah.cs]
end Go.Proofs
end
