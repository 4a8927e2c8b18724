/-
  A part of the proof: texts put together by a program of the prover. Conditions: none.
-/
import Derived.Test.YtfdikfpnkgglkaaDoorZParseQuake4
import Derived.Test.YtfdikfpnkgglkaaDoorZParseQuake6
import Derived.Lib.AtoiAllCases
import Derived.Lib.AtoiTie
import Derived.Lib.Join
import Derived.Lib.SplitLaws
set_option linter.unusedSimpArgs false
set_option linter.unusedVariables false
section
set_option maxRecDepth 100000
namespace Go.Proofs
open Go.Lv
def isDig (c : UInt8) : Bool := decide (48 ≤ c.toNat) && decide (c.toNat ≤ 57)
def stepD (n : Nat) (c : UInt8) : Nat := n * 10 + (c.toNat - 48)
def valD (n : Nat) (l : List UInt8) : Nat := l.foldl stepD n
theorem valD_nil (n : Nat) : valD n [] = n := rfl
theorem valD_cons (n : Nat) (c : UInt8) (l : List UInt8) : valD n (c :: l) = valD (stepD n c) l := List.foldl_cons ..
theorem stepD_eq (n : Nat) (c : UInt8) : stepD n c = n * 10 + (c.toNat - 48) := rfl
theorem valD_app (x y : List UInt8) (n : Nat) : valD n (x ++ y) = valD (valD n x) y := List.foldl_append ..
theorem valD_le (l : List UInt8) : ∀ n : Nat, n ≤ valD n l := by
 induction l with
 | nil => intro n; rw [valD_nil]; exact Nat.le_refl n
 | cons c l ih =>
   intro n
   have h := ih (stepD n c)
   rw [valD_cons]
   rw [stepD_eq] at h ⊢
   omega
theorem dec_one {u : Nat} (h : u < 10) : Lib.decDigits u = [UInt8.ofNat (48 + u)] := by rw [Lib.decDigits, dif_pos h]
theorem dec_more {u : Nat} (h : ¬ u < 10) : Lib.decDigits u = Lib.decDigits (u / 10) ++ [UInt8.ofNat (48 + u % 10)] := by rw [Lib.decDigits, dif_neg h]
theorem of_dig {d : Nat} (h : d < 10) : (UInt8.ofNat (48 + d)).toNat = 48 + d := by
 rw [UInt8.toNat_ofNat']; omega
theorem dec_val : ∀ k u, u < k → (Lib.decDigits u).all isDig = true ∧ valD 0 (Lib.decDigits u) = u ∧ Lib.decDigits u ≠ []
 | 0, u, h => by omega
 | k + 1, u, h => by
   by_cases hu : u < 10
   · rw [dec_one hu]
     refine ⟨?_, ?_, by simp⟩
     · simp only [List.all_cons, List.all_nil, isDig, of_dig hu, Bool.and_true, Bool.and_eq_true, decide_eq_true_eq]; omega
     · rw [valD_cons, valD_nil, stepD_eq, of_dig hu]; omega
   · obtain ⟨h1, h2, h3⟩ := dec_val k (u / 10) (by omega)
     have hd : u % 10 < 10 := by omega
     rw [dec_more hu]
     refine ⟨?_, ?_, by simp⟩
     · rw [List.all_append, h1]
       simp only [List.all_cons, List.all_nil, isDig, of_dig hd, Bool.and_true, Bool.true_and, Bool.and_eq_true, decide_eq_true_eq]; omega
     · rw [valD_app, h2]
       rw [valD_cons, valD_nil, stepD_eq, of_dig hd]; omega
theorem uint_val : ∀ (l : List UInt8) (n : Nat), l.all isDig = true → valD n l < 1000000000000000000 → Lib.parseUint10 n l = .ok (valD n l)
 | [], n, _, _ => rfl
 | c :: l, n, h, hb => by
   simp only [List.all_cons, Bool.and_eq_true, isDig, decide_eq_true_eq] at h
   have hle := valD_le l (stepD n c)
   rw [valD_cons] at hb ⊢
   have hst := stepD_eq n c
   rw [Lib.parseUint10, if_pos h.1, if_neg (by omega), if_neg (by omega)]
   rw [← hst]
   exact uint_val l _ (by simpa [isDig] using h.2) hb
theorem atoi_num {n : Int} (h0 : -999999999 ≤ n) (h1 : n ≤ 999999999) : Lib.atoiAll (num n).data.toList = .ok n := by
 have key : ∀ u : Nat, u ≤ 999999999 → Lib.parseMag (Lib.decDigits u) = .ok u := by
   intro u hu
   obtain ⟨d1, d2, d3⟩ := dec_val (u + 1) u (by omega)
   rw [Lib.parseMag, if_neg d3, uint_val _ _ d1 (by omega), d2]
 rcases Int.lt_or_le n 0 with hn | hn
 · obtain ⟨u, rfl⟩ : ∃ u : Nat, n = -(u : Int) := ⟨n.natAbs, by omega⟩
   have e : Lib.itoa (-(u : Int)) = 45 :: Lib.decDigits u := by unfold Lib.itoa; rw [if_pos (by omega)]; simp
   show Lib.atoiAll (Lib.itoa (-(u : Int))) = _
   rw [e, Lib.atoiAll_minus, key u (by omega), Lib.signed, if_neg (by omega)]
 · obtain ⟨u, rfl⟩ : ∃ u : Nat, n = u := ⟨n.toNat, by omega⟩
   show Lib.atoiAll (Lib.itoa (u : Int)) = _
   rw [itoa_nat]
   obtain ⟨d1, d2, d3⟩ := dec_val (u + 1) u (by omega)
   cases hd : Lib.decDigits u with
   | nil => exact absurd hd d3
   | cons c l =>
     have hk := key u (by omega)
     rw [hd] at hk d1
     simp only [List.all_cons, Bool.and_eq_true, isDig, decide_eq_true_eq] at d1
     rw [Lib.atoiAll_plain c l (by omega) (by omega), hk, Lib.signless, if_neg (by omega)]
theorem dec_len : ∀ (k u : Nat), u < 10 ^ (k + 1) → (Lib.decDigits u).length ≤ k + 1
 | 0, u, h => by rw [dec_one (by omega)]; simp
 | k + 1, u, h => by
   by_cases hu : u < 10
   · rw [dec_one hu]; simp
   · have h2 : u / 10 < 10 ^ (k + 1) := by rw [Nat.pow_succ] at h; omega
     have := dec_len k (u / 10) h2
     rw [dec_more hu, List.length_append]
     simp only [List.length_cons, List.length_nil]; omega
theorem splTo_skip {c : UInt8} {s : ByteArray} {j : Nat} : ∀ (m : Nat), j ≤ m → m ≤ s.size → (∀ t (ht : t < s.size), j ≤ t → t < m → (s[t]'ht == c) = false) → splTo c s m = splTo c s j
 | 0, h1, _, _ => by rw [show j = 0 by omega]
 | m + 1, h1, h2, h => by
   by_cases e : j = m + 1
   · rw [e]
   · rw [splTo_no (show m < s.size by omega) (h m (by omega) (by omega) (by omega))]
     exact splTo_skip m (by omega) (by omega) (fun t ht h3 h4 => h t ht h3 (by omega))
theorem ext_get {s : ByteArray} {j t : Nat} (ht : j + t < s.size) : (s.extract j s.size).data.toList[t]? = some (s[j + t]'ht) := by
 have hl : s.data.toList.length = s.size := ba_len s
 rw [ba_ext_list, ← hl, List.take_length, List.getElem?_drop, List.getElem?_eq_getElem (by rw [hl]; exact ht), ba_get s ht]
theorem split_at (c : UInt8) (s : ByteArray) : ∀ (k j : Nat), j ≤ s.size → (splTo c s j).2 = j → Lib.countB (s.extract j s.size) ⟨#[c]⟩ = k → splS c s = (splTo c s j).1 ++ Lib.splitB ⟨#[c]⟩ 0 k (s.extract j s.size)
 | k, j, hj, h2, hk => by
   have hx : Lib.indexB (s.extract j s.size) ⟨#[c]⟩ = Lib.indexByte (s.extract j s.size).data.toList c := Lib.index_one _ _
   have hsz : (s.extract j s.size).size = s.size - j := by rw [ByteArray.size_extract]; omega
   rcases Lib.indexB_cases (s.extract j s.size) ⟨#[c]⟩ with hm | ⟨i, hm, hroom⟩
   · have hnone := Lib.indexByte_none (hx.symm.trans hm)
     rw [Lib.splitB_miss _ _ _ _ hm, splS, splTo_skip s.size hj (Nat.le_refl _) (fun t ht h3 _ => by
       have h4 := hnone (t - j)
       rw [ext_get (by omega)] at h4
       have e : j + (t - j) = t := by omega
       simp only [e] at h4
       simpa using h4), h2]
   · have h1 : (⟨#[c]⟩ : ByteArray).size = 1 := rfl
     obtain ⟨g1, g2⟩ := Lib.indexByte_some (hx.symm.trans hm)
     rw [h1, hsz] at hroom
     have hi : j + i < s.size := by omega
     rw [ext_get hi] at g1
     have hc : (s[j + i]'hi == c) = true := by simpa using g1
     have hsk : splTo c s (j + i) = splTo c s j := splTo_skip (j + i) (by omega) (by omega) (fun t ht h3 h4 => by
       have h5 := g2 (t - j) (by omega)
       rw [ext_get (by omega)] at h5
       have e : j + (t - j) = t := by omega
       simp only [e] at h5
       simpa using h5)
     have hst := splTo_yes hi hc
     rw [hsk, h2] at hst
     have hcount := Lib.countB_hit (s.extract j s.size) ⟨#[c]⟩ i (by rw [h1]; omega) hm
     match k, hk with
     | 0, hk => rw [hk] at hcount; omega
     | k + 1, hk =>
       have hee : (s.extract j s.size).extract (i + (⟨#[c]⟩ : ByteArray).size) (s.extract j s.size).size = s.extract (j + i + 1) s.size := by
         rw [h1, hsz]
         apply ba_ext
         rw [ba_ext_list, ba_ext_list, ba_ext_list]
         have hl : s.data.toList.length = s.size := ba_len s
         rw [← hl, List.take_length, List.take_of_length_le (by simp), List.drop_drop]
         congr 1
       have he0 : (s.extract j s.size).extract 0 (i + 0) = s.extract j (j + i) := by
         apply ba_ext
         rw [ba_ext_list, ba_ext_list, ba_ext_list, List.drop_zero]
         have hl : s.data.toList.length = s.size := ba_len s
         rw [← hl, List.take_length, List.drop_take, Nat.add_zero, Nat.add_sub_cancel_left]
       have ih := split_at c s k (j + i + 1) (by omega) (by rw [hst]) (by rw [← hee]; omega)
       rw [Lib.splitB_hit _ _ _ _ _ hm, ih, hst, hee, he0, List.append_assoc]
       rfl
theorem split_eq (c : UInt8) (s : ByteArray) : Lib.splitB ⟨#[c]⟩ 0 (Lib.countB s ⟨#[c]⟩) s = splS c s := by
 have h := split_at c s (Lib.countB (s.extract 0 s.size) ⟨#[c]⟩) 0 (Nat.zero_le _) rfl rfl
 have e : s.extract 0 s.size = s := by simp
 rw [e] at h
 rw [h]; rfl
end Go.Proofs
end
section
set_option maxRecDepth 100000
namespace Go.Proofs
open Go.Lv
theorem splS_app {c : UInt8} {a y : ByteArray} (h : noB c a = true) : splS c (a ++ (⟨#[c]⟩ ++ y)) = a :: splS c y := by
 obtain ⟨h1, h2, h3, h4⟩ := cut_at (y := y) h
 have hm : Lib.indexB (a ++ (⟨#[c]⟩ ++ y)) ⟨#[c]⟩ = (a.size : Int) := (Lib.index_one _ _).trans h1
 have hs : (⟨#[c]⟩ : ByteArray).size = 1 := rfl
 have hc := Lib.countB_hit (a ++ (⟨#[c]⟩ ++ y)) ⟨#[c]⟩ a.size (by rw [hs]; omega) hm
 have hp : (0 : Int) ≤ a.size := by omega
 have hex : (a ++ (⟨#[c]⟩ ++ y)).extract (a.size + (⟨#[c]⟩ : ByteArray).size) (a ++ (⟨#[c]⟩ ++ y)).size = y := by
   rw [aft, h1, if_pos hp] at h3
   exact h3
 have he0 : (a ++ (⟨#[c]⟩ ++ y)).extract 0 (a.size + 0) = a := by
   rw [bef, h1, if_pos hp] at h2
   exact h2
 rw [hex] at hc
 rw [← split_eq, hc, Nat.add_comm 1, Lib.splitB_hit _ _ _ _ _ hm, hex, he0, split_eq]
theorem splS_last {c : UInt8} {a : ByteArray} (h : noB c a = true) : splS c a = [a] := by
 obtain ⟨l, h1, h2⟩ := splS_spec c a
 obtain ⟨_, g2, _, g4⟩ := cut_none (c := c) (x := a) h
 rw [h1, h2.2 g4, g2]
theorem noB_app {c : UInt8} {a b : ByteArray} : noB c (a ++ b) = (noB c a && noB c b) := by
 simp only [noB, allS, ba_app, List.all_append]
theorem dec_noB {c : UInt8} (hc : isDig c = false) (u : Nat) : (Lib.decDigits u).all (fun b => !(b == c)) = true := by
 have h := (dec_val (u + 1) u (by omega)).1
 rw [List.all_eq_true] at h ⊢
 intro b hb
 have h1 := h b hb
 simp only [Bool.not_eq_true', beq_eq_false_iff_ne, ne_eq]
 rintro rfl
 rw [hc] at h1
 cases h1
theorem num_list (u : Nat) : (num (u : Int)).data.toList = Lib.decDigits u := by
 show Lib.itoa (u : Int) = _
 rw [itoa_nat]
theorem num_noB {c : UInt8} (hc : isDig c = false) {n : Int} (h : 0 ≤ n) : noB c (num n) = true := by
 obtain ⟨u, rfl⟩ : ∃ u : Nat, n = u := ⟨n.toNat, by omega⟩
 rw [noB, allS, num_list]
 exact dec_noB hc _
def qW6 (r : QuakeRow) : ByteArray := ⟨#[77]⟩ ++ (qSign r ++ (num ((r.Size.natAbs / 100 : Nat) : Int) ++ (⟨#[46]⟩ ++ qHund r.Size.natAbs)))
def qWords (r : QuakeRow) : List ByteArray := [⟨#[35]⟩ ++ num r.Id, ⟨#[116]⟩ ++ num r.Tick, ⟨#[97, 116]⟩, num r.X ++ (⟨#[44]⟩ ++ num r.Y), ⟨#[100, 101, 101, 112]⟩, num r.Deep, qW6 r, qGrade r.Grade]
theorem line_eq (r : QuakeRow) : quakeLine r = (⟨#[35]⟩ ++ num r.Id) ++ (⟨#[32]⟩ ++ ((⟨#[116]⟩ ++ num r.Tick) ++ (⟨#[32]⟩ ++ (⟨#[97, 116]⟩ ++ (⟨#[32]⟩ ++ ((num r.X ++ (⟨#[44]⟩ ++ num r.Y)) ++ (⟨#[32]⟩ ++ (⟨#[100, 101, 101, 112]⟩ ++ (⟨#[32]⟩ ++ (num r.Deep ++ (⟨#[32]⟩ ++ (qW6 r ++ (⟨#[32]⟩ ++ qGrade r.Grade))))))))))))) := by
 apply ba_ext
 simp only [quakeLine, qHead, qW6, ba_app, List.append_assoc]
 rfl
theorem qSign_noB {c : UInt8} (hc : (45 == c) = false) (r : QuakeRow) : noB c (qSign r) = true := by
 unfold qSign
 split
 · simp [noB, allS, hc]
 · rfl
theorem qHund_noB {c : UInt8} (hc : isDig c = false) (n : Nat) : noB c (qHund n) = true := by
 rw [qHund_eq, noB_app, num_noB hc (by omega), num_noB hc (by omega)]; rfl
theorem line_words {r : QuakeRow} (h : qrB r = true) : splS 32 (quakeLine r) = qWords r := by
 have hq := qrB_iff.1 h
 have d : isDig 32 = false := by decide
 have n0 := num_noB d (n := r.Id) (by omega)
 have n1 := num_noB d (n := r.Tick) (by omega)
 have n2 := num_noB d (n := r.X) (by omega)
 have n3 := num_noB d (n := r.Y) (by omega)
 have n4 := num_noB d (n := r.Deep) (by omega)
 have n5 := num_noB d (n := ((r.Size.natAbs / 100 : Nat) : Int)) (by omega)
 have n6 := qSign_noB (c := 32) (by decide) r
 have n7 := qHund_noB d r.Size.natAbs
 have n8 : noB 32 (qGrade r.Grade) = true := by
   obtain ⟨_, _, _, _, _, g⟩ := hq
   have : r.Grade = 1 ∨ r.Grade = 2 ∨ r.Grade = 3 ∨ r.Grade = 4 := by omega
   rcases this with e | e | e | e <;> rw [e] <;> decide
 have k0 : noB 32 ⟨#[35]⟩ = true := by decide
 have k1 : noB 32 ⟨#[116]⟩ = true := by decide
 have k2 : noB 32 ⟨#[97, 116]⟩ = true := by decide
 have k3 : noB 32 ⟨#[44]⟩ = true := by decide
 have k4 : noB 32 ⟨#[100, 101, 101, 112]⟩ = true := by decide
 have k5 : noB 32 ⟨#[77]⟩ = true := by decide
 have k6 : noB 32 ⟨#[46]⟩ = true := by decide
 rw [line_eq, splS_app (by rw [noB_app, k0, n0]; rfl), splS_app (by rw [noB_app, k1, n1]; rfl), splS_app k2, splS_app (by rw [noB_app, noB_app, n2, k3, n3]; rfl), splS_app k4, splS_app n4, splS_app (by rw [qW6, noB_app, noB_app, noB_app, noB_app, k5, n6, n5, k6, n7]; rfl), splS_last n8]
 rfl
def digL (l : List UInt8) : Nat := valD 0 (l.filter isDig)
def digs (s : ByteArray) : Nat := digL s.data.toList
theorem dec_filter (u : Nat) : (Lib.decDigits u).filter isDig = Lib.decDigits u := by
 have h := (dec_val (u + 1) u (by omega)).1
 exact List.filter_eq_self.2 (List.all_eq_true.1 h)
theorem digs_num (u : Nat) : digs (num (u : Int)) = u := by
 rw [digs, num_list, digL, dec_filter, (dec_val (u + 1) u (by omega)).2.1]
theorem digs_pre {c : UInt8} (hc : isDig c = false) (s : ByteArray) : digs (⟨#[c]⟩ ++ s) = digs s := by
 have e : (⟨#[c]⟩ ++ s).data.toList = c :: s.data.toList := by rw [ba_app]; rfl
 rw [digs, e, digL, List.filter_cons, hc]
 rfl
theorem digs_num' {n : Int} (h : 0 ≤ n) : (digs (num n) : Int) = n := by
 obtain ⟨u, rfl⟩ : ∃ u : Nat, n = u := ⟨n.toNat, by omega⟩
 rw [digs_num]
theorem qHund_list (n : Nat) : (qHund n).data.toList = [UInt8.ofNat (48 + n / 10 % 10), UInt8.ofNat (48 + n % 10)] := by
 rw [qHund_eq, ba_app, num_list, num_list, dec_one (by omega), dec_one (by omega)]
 rfl
theorem dig_of {d : Nat} (h : d < 10) : isDig (UInt8.ofNat (48 + d)) = true := by
 have := of_dig h
 simp [isDig, this]; omega
theorem val_two (n : Nat) : valD 0 (Lib.decDigits (n / 100) ++ [UInt8.ofNat (48 + n / 10 % 10), UInt8.ofNat (48 + n % 10)]) = n := by
 rw [valD_app, (dec_val (n / 100 + 1) (n / 100) (by omega)).2.1, valD_cons, valD_cons, valD_nil, stepD_eq, stepD_eq, of_dig (by omega), of_dig (by omega)]
 omega
theorem digs_W6 (r : QuakeRow) : digs (qW6 r) = r.Size.natAbs := by
 have h1 : (qSign r).data.toList.filter isDig = [] := by unfold qSign; split <;> rfl
 rw [qW6, digs_pre (by decide), digs, digL, ba_app, ba_app, ba_app, num_list, qHund_list, List.filter_append, List.filter_append, List.filter_append, h1, dec_filter]
 rw [show (⟨#[46]⟩ : ByteArray).data.toList.filter isDig = [] from rfl, List.nil_append, List.nil_append, List.filter_eq_self.2 (by
   intro b hb
   simp only [List.mem_cons, List.not_mem_nil, or_false] at hb
   rcases hb with rfl | rfl <;> exact dig_of (by omega))]
 exact val_two _
def rdQ (W P : List ByteArray) (g : Int) : QuakeRow := ⟨digs (W.getD 0 ⟨#[]⟩), digs (W.getD 1 ⟨#[]⟩), digs (P.getD 0 ⟨#[]⟩), digs (P.getD 1 ⟨#[]⟩), digs (W.getD 5 ⟨#[]⟩), if (W.getD 6 ⟨#[]⟩).data.toList[1]? = some 45 then -(digs (W.getD 6 ⟨#[]⟩) : Int) else digs (W.getD 6 ⟨#[]⟩), g⟩
theorem W6_sign {r : QuakeRow} : (qW6 r).data.toList[1]? = some 45 ↔ r.Size < 0 := by
 have e : (qW6 r).data.toList = 77 :: ((qSign r).data.toList ++ (Lib.decDigits (r.Size.natAbs / 100) ++ (⟨#[46]⟩ ++ qHund r.Size.natAbs).data.toList)) := by
   rw [qW6, ba_app, ba_app, ba_app, num_list]; rfl
 rw [e, List.getElem?_cons_succ]
 unfold qSign
 split
 · rename_i h; simp [h]
 · rename_i h
   obtain ⟨c, l, hc⟩ : ∃ c l, Lib.decDigits (r.Size.natAbs / 100) = c :: l := by
     cases hd : Lib.decDigits (r.Size.natAbs / 100) with
     | nil => exact absurd hd (dec_val (r.Size.natAbs / 100 + 1) _ (by omega)).2.2
     | cons c l => exact ⟨c, l, rfl⟩
   have hg := (dec_val (r.Size.natAbs / 100 + 1) (r.Size.natAbs / 100) (by omega)).1
   rw [hc] at hg ⊢
   simp only [List.all_cons, Bool.and_eq_true] at hg
   constructor
   · intro h45
     have : c = 45 := by simpa using h45
     rw [this] at hg
     exact absurd hg.1 (by decide)
   · intro h2; exact absurd h2 h
theorem place_words {r : QuakeRow} (h : qrB r = true) : splS 44 (num r.X ++ (⟨#[44]⟩ ++ num r.Y)) = [num r.X, num r.Y] := by
 have hq := qrB_iff.1 h
 have d : isDig 44 = false := by decide
 rw [splS_app (num_noB d (by omega)), splS_last (num_noB d (by omega))]
theorem rdQ_line {r : QuakeRow} (h : qrB r = true) : rdQ (qWords r) [num r.X, num r.Y] r.Grade = r := by
 have hq := qrB_iff.1 h
 simp only [rdQ, qWords, List.getD_cons_zero, List.getD_cons_succ]
 rw [digs_pre (by decide), digs_pre (by decide), digs_num' (by omega), digs_num' (by omega), digs_num' (by omega), digs_num' (by omega), digs_num' (by omega), digs_W6]
 have hs : (if (qW6 r).data.toList[1]? = some 45 then -((r.Size.natAbs : Nat) : Int) else (r.Size.natAbs : Nat)) = r.Size := by
   by_cases hn : r.Size < 0
   · rw [if_pos (W6_sign.2 hn)]; omega
   · rw [if_neg (fun h => hn (W6_sign.1 h))]; omega
 rw [hs]
end Go.Proofs
end
