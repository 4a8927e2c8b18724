/-
  A part of the proof: texts put together by a program of the prover. Conditions: none.
-/
import Derived.Test.YtfpkiomipjmabaaGreatDoorZC9
import Derived.Test.YtfpkiomipjmabaaGreatDoorZC11
import Derived.Lib.AtoiAllCases
import Derived.Lib.AtoiTie
import Derived.Lib.Join
import Derived.Lib.SplitLaws
set_option linter.unusedSimpArgs false
set_option linter.unusedVariables false
section
set_option maxRecDepth 100000
namespace Go.Proofs
open Go.Lv
def fq (c : UInt8) : Bool := decide (48 ≤ c.toNat) && decide (c.toNat ≤ 57)
def adz (n : Nat) (c : UInt8) : Nat := n * 10 + (c.toNat - 48)
def jl (n : Nat) (l : List UInt8) : Nat := l.foldl adz n
theorem kh (n : Nat) : jl n [] = n := rfl
theorem kz (n : Nat) (c : UInt8) (l : List UInt8) : jl n (c :: l) = jl (adz n c) l := List.foldl_cons ..
theorem nj (n : Nat) (c : UInt8) : adz n c = n * 10 + (c.toNat - 48) := rfl
theorem yn (x y : List UInt8) (n : Nat) : jl n (x ++ y) = jl (jl n x) y := List.foldl_append ..
theorem atn (l : List UInt8) : ∀ n : Nat, n ≤ jl n l := by
 induction l with
 | nil => intro n; rw [kh]; exact Nat.le_refl n
 | cons c l ih =>
   intro n
   have h := ih (adz n c)
   rw [kz]
   rw [nj] at h ⊢
   omega
theorem ag8 {u : Nat} (h : u < 10) : Lib.decDigits u = [UInt8.ofNat (48 + u)] := by rw [Lib.decDigits, dif_pos h]
theorem aid {u : Nat} (h : ¬ u < 10) : Lib.decDigits u = Lib.decDigits (u / 10) ++ [UInt8.ofNat (48 + u % 10)] := by rw [Lib.decDigits, dif_neg h]
theorem ahv {d : Nat} (h : d < 10) : (UInt8.ofNat (48 + d)).toNat = 48 + d := by
 rw [UInt8.toNat_ofNat']; omega
theorem tt : ∀ k u, u < k → (Lib.decDigits u).all fq = true ∧ jl 0 (Lib.decDigits u) = u ∧ Lib.decDigits u ≠ []
 | 0, u, h => by omega
 | k + 1, u, h => by
   by_cases hu : u < 10
   · rw [ag8 hu]
     refine ⟨?_, ?_, by simp⟩
     · simp only [List.all_cons, List.all_nil, fq, ahv hu, Bool.and_true, Bool.and_eq_true, decide_eq_true_eq]; omega
     · rw [kz, kh, nj, ahv hu]; omega
   · obtain ⟨h1, h2, h3⟩ := tt k (u / 10) (by omega)
     have hd : u % 10 < 10 := by omega
     rw [aid hu]
     refine ⟨?_, ?_, by simp⟩
     · rw [List.all_append, h1]
       simp only [List.all_cons, List.all_nil, fq, ahv hd, Bool.and_true, Bool.true_and, Bool.and_eq_true, decide_eq_true_eq]; omega
     · rw [yn, h2]
       rw [kz, kh, nj, ahv hd]; omega
theorem ai4 : ∀ (l : List UInt8) (n : Nat), l.all fq = true → jl n l < 1000000000000000000 → Lib.parseUint10 n l = .ok (jl n l)
 | [], n, _, _ => rfl
 | c :: l, n, h, hb => by
   simp only [List.all_cons, Bool.and_eq_true, fq, decide_eq_true_eq] at h
   have hle := atn l (adz n c)
   rw [kz] at hb ⊢
   have hst := nj n c
   rw [Lib.parseUint10, if_pos h.1, if_neg (by omega), if_neg (by omega)]
   rw [← hst]
   exact ai4 l _ (by simpa [fq] using h.2) hb
theorem yr {n : Int} (h0 : -999999999 ≤ n) (h1 : n ≤ 999999999) : Lib.atoiAll (num n).data.toList = .ok n := by
 have key : ∀ u : Nat, u ≤ 999999999 → Lib.parseMag (Lib.decDigits u) = .ok u := by
   intro u hu
   obtain ⟨d1, d2, d3⟩ := tt (u + 1) u (by omega)
   rw [Lib.parseMag, if_neg d3, ai4 _ _ d1 (by omega), d2]
 rcases Int.lt_or_le n 0 with hn | hn
 · obtain ⟨u, rfl⟩ : ∃ u : Nat, n = -(u : Int) := ⟨n.natAbs, by omega⟩
   have e : Lib.itoa (-(u : Int)) = 45 :: Lib.decDigits u := by unfold Lib.itoa; rw [if_pos (by omega)]; simp
   show Lib.atoiAll (Lib.itoa (-(u : Int))) = _
   rw [e, Lib.atoiAll_minus, key u (by omega), Lib.signed, if_neg (by omega)]
 · obtain ⟨u, rfl⟩ : ∃ u : Nat, n = u := ⟨n.toNat, by omega⟩
   show Lib.atoiAll (Lib.itoa (u : Int)) = _
   rw [sd]
   obtain ⟨d1, d2, d3⟩ := tt (u + 1) u (by omega)
   cases hd : Lib.decDigits u with
   | nil => exact absurd hd d3
   | cons c l =>
     have hk := key u (by omega)
     rw [hd] at hk d1
     simp only [List.all_cons, Bool.and_eq_true, fq, decide_eq_true_eq] at d1
     rw [Lib.atoiAll_plain c l (by omega) (by omega), hk, Lib.signless, if_neg (by omega)]
theorem asm {a b : Int} (ha : -999999999 ≤ a ∧ a ≤ 999999999) (hb : -999999999 ≤ b ∧ b ≤ 999999999) (h : num a = num b) : a = b := by
 have h1 := yr ha.1 ha.2
 rw [h, yr hb.1 hb.2] at h1
 injection h1 with h1
 exact h1.symm
def x5 (s : ByteArray) (n : Int) : Prop := -999999 ≤ n ∧ n ≤ 999999 ∧ num n = s
open Classical in
noncomputable def cq (s : ByteArray) : Option Int := if h : ∃ n, x5 s n then some h.choose else none
theorem ac2 {s : ByteArray} {n : Int} (h : x5 s n) : cq s = some n := by
 have hx : ∃ n, x5 s n := ⟨n, h⟩
 rw [cq, dif_pos hx]
 have h2 := hx.choose_spec
 congr 1
 exact asm ⟨by have := h2.1; omega, by have := h2.2.1; omega⟩ ⟨by have := h.1; omega, by have := h.2.1; omega⟩ (h2.2.2.trans h.2.2.symm)
theorem po {s : ByteArray} (h : ∀ n, ¬ x5 s n) : cq s = none := by
 rw [cq, dif_neg (fun ⟨n, hn⟩ => h n hn)]
theorem xf {s : ByteArray} {n : Int} (h : cq s = some n) : x5 s n := by
 unfold cq at h
 split at h
 · rename_i hx
   simp only [Option.some.injEq] at h
   rw [← h]; exact hx.choose_spec
 · cases h
theorem ab4 : ∀ (k u : Nat), u < 10 ^ (k + 1) → (Lib.decDigits u).length ≤ k + 1
 | 0, u, h => by rw [ag8 (by omega)]; simp
 | k + 1, u, h => by
   by_cases hu : u < 10
   · rw [ag8 hu]; simp
   · have h2 : u / 10 < 10 ^ (k + 1) := by rw [Nat.pow_succ] at h; omega
     have := ab4 k (u / 10) h2
     rw [aid hu, List.length_append]
     simp only [List.length_cons, List.length_nil]; omega
theorem an1 {n : Int} (h0 : -999999 ≤ n) (h1 : n ≤ 999999) : (num n).size ≤ 7 := by
 rcases Int.lt_or_le n 0 with hn | hn
 · obtain ⟨u, rfl⟩ : ∃ u : Nat, n = -(u : Int) := ⟨n.natAbs, by omega⟩
   have e : Lib.itoa (-(u : Int)) = 45 :: Lib.decDigits u := by unfold Lib.itoa; rw [if_pos (by omega)]; simp
   have := ab4 5 u (by omega)
   show (Lib.itoa (-(u : Int))).toArray.size ≤ 7
   rw [e]; simp; omega
 · obtain ⟨u, rfl⟩ : ∃ u : Nat, n = u := ⟨n.toNat, by omega⟩
   have := ab4 5 u (by omega)
   show (Lib.itoa (u : Int)).toArray.size ≤ 7
   rw [sd]; simp; omega
theorem akc {s : ByteArray} {n : Int} (h : cq s = some n) : s.size ≤ 7 := by
 obtain ⟨h1, h2, h3⟩ := xf h
 rw [← h3]; exact an1 h1 h2
theorem w5 {c : UInt8} {s : ByteArray} {j : Nat} : ∀ (m : Nat), j ≤ m → m ≤ s.size → (∀ t (ht : t < s.size), j ≤ t → t < m → (s[t]'ht == c) = false) → fm c s m = fm c s j
 | 0, h1, _, _ => by rw [show j = 0 by omega]
 | m + 1, h1, h2, h => by
   by_cases e : j = m + 1
   · rw [e]
   · rw [r3 (show m < s.size by omega) (h m (by omega) (by omega) (by omega))]
     exact w5 m (by omega) (by omega) (fun t ht h3 h4 => h t ht h3 (by omega))
theorem ext_get {s : ByteArray} {j t : Nat} (ht : j + t < s.size) : (s.extract j s.size).data.toList[t]? = some (s[j + t]'ht) := by
 have hl : s.data.toList.length = s.size := e8 s
 rw [dx, ← hl, List.take_length, List.getElem?_drop, List.getElem?_eq_getElem (by rw [hl]; exact ht), lj s ht]
theorem ain (c : UInt8) (s : ByteArray) : ∀ (k j : Nat), j ≤ s.size → (fm c s j).2 = j → Lib.countB (s.extract j s.size) ⟨#[c]⟩ = k → gw c s = (fm c s j).1 ++ Lib.splitB ⟨#[c]⟩ 0 k (s.extract j s.size)
 | k, j, hj, h2, hk => by
   have hx : Lib.indexB (s.extract j s.size) ⟨#[c]⟩ = Lib.indexByte (s.extract j s.size).data.toList c := Lib.index_one _ _
   have hsz : (s.extract j s.size).size = s.size - j := by rw [ByteArray.size_extract]; omega
   rcases Lib.indexB_cases (s.extract j s.size) ⟨#[c]⟩ with hm | ⟨i, hm, hroom⟩
   · have hnone := Lib.indexByte_none (hx.symm.trans hm)
     rw [Lib.splitB_miss _ _ _ _ hm, gw, w5 s.size hj (Nat.le_refl _) (fun t ht h3 _ => by
       have h4 := hnone (t - j)
       rw [ext_get (by omega)] at h4
       have e : j + (t - j) = t := by omega
       simp only [e] at h4
       simpa using h4), h2]
   · have h1 : (⟨#[c]⟩ : ByteArray).size = 1 := rfl
     obtain ⟨g1, g2⟩ := Lib.indexByte_some (hx.symm.trans hm)
     rw [h1, hsz] at hroom
     have hi : j + i < s.size := by omega
     rw [ext_get hi] at g1
     have hc : (s[j + i]'hi == c) = true := by simpa using g1
     have hsk : fm c s (j + i) = fm c s j := w5 (j + i) (by omega) (by omega) (fun t ht h3 h4 => by
       have h5 := g2 (t - j) (by omega)
       rw [ext_get (by omega)] at h5
       have e : j + (t - j) = t := by omega
       simp only [e] at h5
       simpa using h5)
     have hst := ow hi hc
     rw [hsk, h2] at hst
     have hcount := Lib.countB_hit (s.extract j s.size) ⟨#[c]⟩ i (by rw [h1]; omega) hm
     match k, hk with
     | 0, hk => rw [hk] at hcount; omega
     | k + 1, hk =>
       have hee : (s.extract j s.size).extract (i + (⟨#[c]⟩ : ByteArray).size) (s.extract j s.size).size = s.extract (j + i + 1) s.size := by
         rw [h1, hsz]
         apply ra
         rw [dx, dx, dx]
         have hl : s.data.toList.length = s.size := e8 s
         rw [← hl, List.take_length, List.take_of_length_le (by simp), List.drop_drop]
         congr 1
       have he0 : (s.extract j s.size).extract 0 (i + 0) = s.extract j (j + i) := by
         apply ra
         rw [dx, dx, dx, List.drop_zero]
         have hl : s.data.toList.length = s.size := e8 s
         rw [← hl, List.take_length, List.drop_take, Nat.add_zero, Nat.add_sub_cancel_left]
       have ih := ain c s k (j + i + 1) (by omega) (by rw [hst]) (by rw [← hee]; omega)
       rw [Lib.splitB_hit _ _ _ _ _ hm, ih, hst, hee, he0, List.append_assoc]
       rfl
theorem aj7 (c : UInt8) (s : ByteArray) : Lib.splitB ⟨#[c]⟩ 0 (Lib.countB s ⟨#[c]⟩) s = gw c s := by
 have h := ain c s (Lib.countB (s.extract 0 s.size) ⟨#[c]⟩) 0 (Nat.zero_le _) rfl rfl
 have e : s.extract 0 s.size = s := by simp
 rw [e] at h
 rw [h]; rfl
def n5 : List Int → ByteArray
 | [] => ⟨#[]⟩
 | [n] => num n
 | n :: m :: l => num n ++ (⟨#[32]⟩ ++ n5 (m :: l))
def a4c : ByteArray := ⟨#[110, 111, 110, 101]⟩
def wQ : ByteArray := ⟨#[63]⟩
def l7 (L : List Int) : ByteArray := if L = [] then a4c else n5 L
theorem aei : ∀ (L : List Int) (n : Int), L ≠ [] → n5 (L ++ [n]) = n5 L ++ ⟨#[32]⟩ ++ num n
 | [], n, h => absurd rfl h
 | [a], n, _ => by
   show num a ++ (⟨#[32]⟩ ++ num n) = num a ++ ⟨#[32]⟩ ++ num n
   rw [ByteArray.append_assoc]
 | a :: b :: l, n, _ => by
   have ih := aei (b :: l) n (by simp)
   show num a ++ (⟨#[32]⟩ ++ n5 ((b :: l) ++ [n])) = num a ++ (⟨#[32]⟩ ++ n5 (b :: l)) ++ ⟨#[32]⟩ ++ num n
   rw [ih]
   simp only [ByteArray.append_assoc]
theorem afc : ∀ L : List Int, (n5 L).data.toList = Lib.join ((L.map num).map (·.data.toList)) [32]
 | [] => rfl
 | [a] => by simp [n5, Lib.join]
 | a :: b :: l => by
   have ih := afc (b :: l)
   rw [n5, lu, lu, ih]
   simp [Lib.join, List.intercalate, List.intersperse]
theorem xw : ∀ L : List Int, (∀ n ∈ L, iq n) → (n5 L).size ≤ 22 * L.length
 | [], _ => Nat.le_refl _
 | [a], h => by
   have := yl (h a (by simp))
   simp only [n5, List.length_cons, List.length_nil]; omega
 | a :: b :: l, h => by
   have ih := xw (b :: l) (fun n hn => h n (by simp at hn ⊢; exact .inr hn))
   have h1 := yl (h a (by simp))
   have h2 : (⟨#[32]⟩ : ByteArray).size = 1 := rfl
   rw [n5, ByteArray.size_append, ByteArray.size_append]
   simp only [List.length_cons] at ih ⊢; omega
end Go.Proofs
end
section
set_option maxRecDepth 100000
namespace Go.Proofs
open Go.Lv
theorem Ctr.raw {P : Program} {f : FuncId} {args : List V} {hin : Hp} {r : V} {hout : Hp} (hok : okF P f = true)
   (h : ∀ (w : World) (vs : Array Value) (m : Nat → Nat) (av : Nat → Prop), Inv w m hin av ⟨args, hin, hin.length⟩ { tmps := vs, defers := [] } w m → vs.size = args.length →
     Calls P f vs w fun e w' => ∃ v m' s a, e = .returned v ∧ s.h = hout ∧ Inv w m hin av s a w' m' ∧ RV w' m' hout (avm av m' hout) true v r) : Ctr P f args hin r hout := by
 refine ⟨hok, fun w vs m av hH hav hgl hs ha => ?_⟩
 have hav' : ∀ b, avm av m hin b → av b := fun b hb => by
   rcases hb with hb | ⟨id, cs, h1, rfl⟩
   · exact hb
   · exact hH.avd id cs h1
 have hstep : ∀ {o : Bool} {v : Value} {x : V}, RV w m hin av o v x → RV w m hin (avm av m hin) o v x :=
   fun {o v x} hx => RV.step (w := w) (w' := w) (m := m) (m' := m) (h := hin) (h' := hin) (av := av) (av' := avm av m hin) (fun b off v hb hc => ⟨fun h => hb (hav' b h), hc⟩) (fun id c hid => ⟨c, hid, Nat.le_refl _, rfl, Nat.le_refl _, rfl⟩) hx
 have I : Inv w m hin av ⟨args, hin, hin.length⟩ { tmps := vs, defers := [] } w m := by
   refine ⟨⟨hH.inj, fun id cs h => .inr ⟨id, cs, h, rfl⟩, fun id cs h => ?_⟩, hs, fun i hi => hstep (ha i hi), rfl, Ext.refl _ _, fun id cs h => .inl ⟨dy h, cs, h, Nat.le_refl _, .inl rfl⟩, hav, fun b ⟨id, cs, h1, h2⟩ => h2 ▸ hH.avd id cs h1, hgl, rfl, Nat.le_refl _⟩
   exact (hH.blk id cs h).step rfl (fun v x => hstep)
 refine (h w vs m av I hs).mono ?_
 rintro e w' ⟨v, m', s, a, rfl, rfl, I', hv⟩
 exact ⟨v, m', rfl, I'.ext, I'.rh, hv, I'.ids⟩
end Go.Proofs
end
