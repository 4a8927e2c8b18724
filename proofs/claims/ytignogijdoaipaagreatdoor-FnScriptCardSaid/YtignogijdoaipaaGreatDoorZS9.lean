/-
  A part of the proof: texts put together by a program of the prover. Conditions: none.
-/
import Derived.Test.YtignogijdoaipaaGreatDoorZS3
import Derived.Test.YtignogijdoaipaaGreatDoorZS4
import Derived.Test.YtignogijdoaipaaGreatDoorZS5
import Derived.Test.YtignogijdoaipaaGreatDoorZS7
import Derived.Test.YtignogijdoaipaaGreatDoorZS8
import Derived.ProofKit
import Derived.Deep.Slices
set_option linter.unusedSimpArgs false
set_option linter.unusedVariables false
section
set_option maxRecDepth 100000
set_option maxHeartbeats 4000000
namespace Go.Proofs
open Go.Lv
def a55 (r : V) (hout : Hp) : Prop := ∃ (c : ah) (text : ByteArray), dC 7 c ∧ text.size ≤ 1000 ∧ r = .tup [c.v, .str text] ∧ hout = []
theorem abe {B : List Int} (hB : CB B) : ml Tryz.prog 14 [ByteS.sl B] [] a55 := by
 have hcb : ∀ {c' : Cur} {k' : Int}, c'.le k' → k' ≤ 4000000 → c'.le 4611686018427387903 := fun h h' => ⟨h.1, by have := h.2; omega⟩
 obtain ⟨c, hcd⟩ : ∃ c : Cur, c = ⟨0, 0⟩ := ⟨_, rfl⟩
 have hc : c.le 0 := by rw [hcd]; exact ⟨Int.le_refl 0, Int.le_refl 0⟩
 have hcc : c.cs B = [ByteS.sl B, .int .i64 0, .int .u64 0] := by rw [hcd]; rfl
 refine ml.intro Tryz.mixed Tryz.func14 rfl Tryz.a2z ?_
 refine ev2 @Tryz.ntmps14 @Tryz.results14 ?_
 refine rs1 @ByteS.sl.eq_1 ?_
 rw [← ByteS.sl, ← hcc]
 refine ai.rel [1] (akv hB (by omega) hc) (by decide) ⟨leO, trivial⟩ (dp rfl) rfl (fun r hout hΦ => ?_)
 obtain ⟨s, c1, hs, hc1, rfl, rfl⟩ := hΦ
 refine ⟨⟨⟨rfl, rfl⟩, trivial⟩, ?_⟩
 refine rs2 @Cur.ren @ah.v.eq_1 ?_
 refine ai.rel [1] (yb hB (by omega) hc1 s hs) (by decide) ⟨leO, leO, trivial⟩ (dp rfl) rfl (fun r hout hΦ => ?_)
 obtain ⟨t0, c2, ht0, hc2, rfl, rfl⟩ := hΦ
 refine ⟨⟨⟨rfl, rfl⟩, trivial⟩, ?_⟩
 refine rs2 @Cur.ren @ah.v.eq_1 ?_
 refine gy hB hc2 (by omega) 5 (by omega) rfl (fun vc3 c3 pvc3 hc3 => ?_)
 refine rs1 @Cur.ren ?_
 obtain ⟨n0, hn0⟩ : ∃ n : Nat, vc3 = n := ⟨vc3.toNat, by omega⟩
 subst hn0
 refine dh.intro (fun x : Nat × ByteArray × Cur => x.1 ≤ 5 ∧ x.2.1.size + 101 * x.1 ≤ 605 ∧ x.2.2.le (4062 + 60 * (5 - (x.1 : Int)))) (fun x => ⟨(.undef :: .undef :: .ptr 0 0 :: .undef :: .ptr 1 0 :: .ptr 2 0 :: .str x.2.1 :: .int .i64 x.1 :: (un 34 [])), [some ah.zs, some (x.2.2.cs B), some s.cs], 0⟩) (fun x => x.1) (n0, t0, c3) ⟨by simp only []; omega, by simp only []; omega, fp hc3 (by simp only []; omega)⟩ ?_ (fun x hx => ?_)
 · refine aq.cut (3) (by simp) (by simp) ?_ ?_
   · simp [LeC, LeV, ren, bj]
   · simp [bz, ck, Cur.ren, ren, ah.zs, ah.cs]
 obtain ⟨n, tx, c4⟩ := x
 obtain ⟨x1, x2, hc4⟩ := hx
 dsimp only at x1 x2 hc4
 refine ev0 ?_
 refine ax.split (fun h1 => ?_) (fun h1 => ?_)
 · have hn : 0 < n := by have := of_decide_eq_true h1; omega
   refine rs2 @h1 @ah.cs.eq_1 ?_
   refine ai.rel [1] (yb hB (by omega) hc4 s hs) (by decide) ⟨leO, leO, trivial⟩ (dp rfl) rfl (fun r hout hΦ => ?_)
   obtain ⟨t1, c5, ht1, hc5, rfl, rfl⟩ := hΦ
   refine ⟨⟨⟨rfl, rfl⟩, trivial⟩, ?_⟩
   refine rs1 @Cur.ren ?_
   have hn1 : ((n - 1 : Nat) : Int) = (n : Int) - 1 := by omega
   have hsz : (tx ++ (⟨#[10]⟩ : ByteArray) ++ t1).size = tx.size + 1 + t1.size := by simp only [ByteArray.size_append]; rfl
   refine ⟨(n - 1, tx ++ ⟨#[10]⟩ ++ t1, c5), ⟨by simp only []; omega, by simp only [hsz]; omega, fp hc5 (by simp only []; omega)⟩, ?_, by simp only []; omega⟩
   refine aq.cut (3) (by simp) (by simp) ?_ ?_
   · simp [LeC, LeV, ren, bj, hn1]
   · simp [bz, ck, Cur.ren, ren, ah.zs, ah.cs]
 · refine rs1 @h1 ?_
   refine dy hB hc4 (by omega) 20 (by omega) rfl (fun vc5 c5 hc5 => ?_)
   refine rs1 @Cur.ren ?_
   refine ax.split (fun h6 => ?_) (fun h6 => ?_)
   · refine rs1 @h6 ?_
     refine gy hB hc5 (by omega) 2 (by omega) rfl (fun vc6 c6 pvc6 hc6 => ?_)
     refine rs1 @Cur.ren ?_
     obtain ⟨j, hj⟩ : ∃ j : Nat, vc6 = j := ⟨vc6.toNat, by omega⟩
     subst hj
     have hw : IntKind.i64.wrap (29 + (j : Int)) = ((29 + j : Nat) : Int) := by rw [wrap_i64 (by omega) (by omega)]; omega
     try rw [show (29 : Int) + (j : Int) = ((29 + j : Nat) : Int) by omega]
     refine dh.intro (fun x : Nat × ByteArray => x.2.size + x.1 ≤ 31) (fun x => ⟨(.undef :: .undef :: .ptr 0 0 :: .undef :: .undef :: .ptr 2 0 :: .str x.2 :: .undef :: .int .i64 x.1 :: (un 33 [])), [some ah.zs, some (c6.cs B), some s.cs], 0⟩) (fun x => x.1) (29 + j, ⟨#[]⟩) (by show 0 + (29 + j) ≤ 31; omega) ?_ (fun x hx => ?_)
     · refine aq.cut (3) (by simp) (by simp) ?_ ?_
       · simp [LeC, LeV, ren, bj]
       · simp [bz, ck, Cur.ren, ren, ah.zs, ah.cs]
     obtain ⟨m, tm⟩ := x
     dsimp only at hx
     refine ev0 ?_
     refine ax.split (fun h7 => ?_) (fun h7 => ?_)
     · have hm : 0 < m := by have := of_decide_eq_true h7; omega
       refine rs1 @h7 ?_
       have hm1 : ((m - 1 : Nat) : Int) = (m : Int) - 1 := by omega
       have hsz : (tm ++ (⟨#[10]⟩ : ByteArray)).size = tm.size + 1 := by simp only [ByteArray.size_append]; rfl
       refine ⟨(m - 1, tm ++ ⟨#[10]⟩), by simp only [hsz]; omega, ?_, by simp only []; omega⟩
       refine aq.cut (3) (by simp) (by simp) ?_ ?_
       · simp [LeC, LeV, ren, bj, hm1]
       · simp [bz, ck, Cur.ren, ren, ah.zs, ah.cs]
     · refine rs3 @h7 @ah.zs.eq_1 @ah.cs.eq_1 ?_
       exact ⟨_, _, ⟨s, tm, hs, by omega, rfl, rfl⟩, ak.au rfl (by rfl)⟩
   · refine rs3 @h6 @ah.zs.eq_1 @ah.cs.eq_1 ?_
     exact ⟨_, _, ⟨s, tx, hs, by omega, rfl, rfl⟩, ak.au rfl (by rfl)⟩
end Go.Proofs
end
section
set_option maxRecDepth 100000
set_option maxHeartbeats 2000000
namespace Go.Proofs
open Go.Lv
theorem al5 (L : List Int) : Ctr Tryz.prog 6 [ByteS.sl L] [] (.bool (decide (65536 < (L.length : Int)))) [] := by
 refine Ctr.intro Tryz.mixed Tryz.func6 rfl Tryz.okF6 ?_
 refine ev2 @Tryz.ntmps6 @Tryz.results6 ?_
 refine rn0 ?_
 exact ak.au rfl (by rfl)
end Go.Proofs
end
section
set_option maxRecDepth 100000
set_option maxHeartbeats 2000000
namespace Go.Proofs
open Go.Lv
theorem abz (s : ByteArray) (hs : s.size ≤ 2000) : Ctr Tryz.prog 17 [.str s, .str ⟨#[10]⟩] [] (.tup [StringS.sl (gi 10 s), .bool true]) [] := by
 have h1 : decide ((4000 : Int) < (s.size : Int)) = false := decide_eq_false (by omega)
 have hz : ((((#[10] : Array UInt8).size : Nat) : Int) != 1) = false := rfl
 have hc := wu s 10 (by omega)
 refine Ctr.intro Tryz.mixed Tryz.func17 rfl Tryz.a5w ?_
 refine ev2 @Tryz.ntmps17 @Tryz.results17 ?_
 refine rs2 @h1 @hz ?_
 refine ⟨by decide, ?_⟩
 (first | refine al.at (hc) ⟨leA, leA, trivial⟩ ?_ | refine ai.at (hc) ⟨leA, leA, trivial⟩ ?_)
 refine rs0 ?_
 exact ak.refl _ _ _
end Go.Proofs
end
section
set_option maxRecDepth 100000
set_option maxHeartbeats 1000000
namespace Go.Proofs
open Go.Lv
theorem amv {c : UInt8} {s : ByteArray} {j i : Nat} (hi : i ≤ s.size) (h : ∀ t (ht : t < s.size), j ≤ t → t < i → (s[t]'ht == c) = false) : noB c (s.extract j i) = true := by
 rw [noB, dv, ec, List.all_eq_true]
 intro b hb
 obtain ⟨k, hk, rfl⟩ := List.mem_iff_getElem.1 hb
 rw [List.length_drop, List.length_take] at hk
 have hl : s.data.toList.length = s.size := gf s
 rw [List.getElem_drop, List.getElem_take, l6 s (by omega), h (j + k) (by omega) (by omega) (by omega)]
 rfl
theorem afc (c : UInt8) (s : ByteArray) : ∀ i, i ≤ s.size → (∀ x ∈ (gb c s i).1, noB c x = true) ∧ (∀ t (ht : t < s.size), (gb c s i).2 ≤ t → t < i → (s[t]'ht == c) = false)
 | 0, _ => ⟨fun x h => by simp [gb] at h, fun t ht _ h => by omega⟩
 | i + 1, hi => by
  obtain ⟨h1, h2⟩ := afc c s i (by omega)
  have hlt : i < s.size := by omega
  cases hc : (s[i]'hlt == c) with
  | true =>
   rw [ob hlt hc]
   refine ⟨fun x hx => ?_, fun t ht ha hb => by simp only [] at ha; omega⟩
   rcases List.mem_append.1 hx with hx | hx
   · exact h1 x hx
   · rw [List.mem_singleton.1 hx]
     exact amv (by omega) h2
  | false =>
   rw [q8 hlt hc]
   refine ⟨h1, fun t ht ha hb => ?_⟩
   rcases Nat.lt_or_ge t i with h | h
   · exact h2 t ht ha h
   · obtain rfl : t = i := by omega
     exact hc
theorem apq {c : UInt8} {s x : ByteArray} (h : x ∈ gi c s) : noB c x = true := by
 obtain ⟨h1, h2⟩ := afc c s s.size (Nat.le_refl _)
 rw [gi] at h
 rcases List.mem_append.1 h with h | h
 · exact h1 x h
 · rw [List.mem_singleton.1 h]
   exact amv (Nat.le_refl _) h2
theorem akc {c : UInt8} {a : ByteArray} (h : noB c a = true) : gi c a = [a] := by
 obtain ⟨l, h1, h2⟩ := qd c a
 obtain ⟨_, g2, _, g4⟩ := ajq (c := c) (x := a) h
 rw [h1, h2.2 g4, g2]
theorem ahh : ∀ (L : List ByteArray) (d : ah) (acc : List ByteArray), (L.foldl xk (d, acc)).2 = acc ++ (L.foldl xk (d, [])).2
 | [], d, acc => by simp
 | a :: L, d, acc => by
  rw [List.foldl_cons, List.foldl_cons, xk, xk, ahh L _ (acc ++ _), ahh L _ ([] ++ _)]
  simp
theorem agr {c : ah} {text a : ByteArray} {l list : List ByteArray} (h : js c text = some list) (hs : gi 10 text = a :: l) : js c a = some [(eo c a).2] ∧ ∃ m, list = (eo c a).2 :: m := by
 have hb : anq c text = true := by
  unfold js at h
  split at h
  · rename_i hb; exact hb
  · cases h
 have hma : a ∈ gi 10 text := by rw [hs]; simp
 have ha := akc (apq hma)
 have hz := n7 10 text hma
 have hl : list = (scr c (gi 10 text)).2 := by
  unfold js at h
  rw [if_pos hb] at h
  exact (Option.some.inj h).symm
 simp only [anq, Bool.and_eq_true, decide_eq_true_eq] at hb
 refine ⟨?_, ?_⟩
 · rw [wy hb.1 (by rw [ha]; simp) (by omega), ha]
   rfl
 · rw [hl, hs, scr, List.foldl_cons, xk, ahh]
   exact ⟨_, rfl⟩
end Go.Proofs
end
section
set_option maxRecDepth 100000
set_option maxHeartbeats 4000000
namespace Go.Proofs
open Go.Lv
theorem dC.sz0 {m : Nat} {c : ah} (h : dC m c) (hm : m ≤ 1000) : c.sz 0 := by
 obtain ⟨_, ⟨h1, h2⟩, h3, h4, _⟩ := h
 exact ⟨by omega, by omega, by omega, by omega⟩
theorem ale {c : ah} {text : ByteArray} {M : List ByteArray} (h : js c text = some M) : M.length ≤ 30 := by
 unfold js at h
 split at h
 · rename_i hb
   simp only [Option.some.injEq] at h
   subst h
   have := w5 c (gi 10 text) _ (Nat.le_refl _)
   rw [List.take_length] at this
   simp only [anq, Bool.and_eq_true, decide_eq_true_eq] at hb
   omega
 · cases h
theorem ac3 (L : List Int) (hL : aes ByteS.ok L) : Ctr Tryz.prog 4 [ByteS.sl L] [] (.bool true) [] := by
 have hB : CB L := hL
 refine Ctr.intro Tryz.mixed Tryz.func4 rfl Tryz.okF4 ?_
 refine ev2 @Tryz.ntmps4 @Tryz.results4 ?_
 refine rn0 ?_
 (first | refine al.at (al5 L) ⟨leA, trivial⟩ ?_ | refine ai.at (al5 L) ⟨leA, trivial⟩ ?_)
 refine rn0 ?_
 refine ax.split (fun h1 => ?_) (fun h1 => ?_) <;> refine rn1 @h1 ?_
 · exact ak.au rfl (by rfl)
 refine ai.rel [] (abe hB) (by decide) ⟨leO, trivial⟩ rfl rfl (fun r hout hΦ => ?_)
 obtain ⟨c, text, hc, ht, rfl, rfl⟩ := hΦ
 refine ⟨trivial, ?_⟩
 have hf := hc.fits (by omega)
 have hz := hc.sz0 (by omega)
 have hi := (xg c text hz (by omega)).uw (frzN _)
 have hs := (ae2 c text hz (by omega)).uw (frzO _)
 have hsp := abz text (by omega)
 have hfi := aac c hf
 have hfs := yl c hf
 obtain ⟨R, hR⟩ : ∃ R, R = js c text := ⟨_, rfl⟩
 rw [← hR] at hi hs
 have hA : ∃ A : List ByteArray, R.getD [] = A := ⟨_, rfl⟩
 obtain ⟨A, hA⟩ := hA
 simp only [ake, hA] at hi hs
 have hA30 : A.length ≤ 30 := by
  rw [← hA]
  cases h : R with
  | none => simp
  | some M =>
   rw [h] at hR
   exact ale hR.symm
 refine rn1 @ah.v.eq_1 ?_
 (first | refine al.at (hi) ⟨leA, leA, trivial⟩ ?_ | refine ai.at (hi) ⟨leA, leA, trivial⟩ ?_)
 refine rn1 @ah.v.eq_1 ?_
 (first | refine al.at (hs) ⟨leA, leA, trivial⟩ ?_ | refine ai.at (hs) ⟨leA, leA, trivial⟩ ?_)
 refine rn1 @bne_self_eq_false.{0} ?_
 refine dh.intro (fun i : Nat => i ≤ A.length) (fun i => ⟨(un 3 (.ptr 0 0 :: .str text :: .sl A.length 1 (rows StringS.cs A) :: .bool R.isSome :: .sl A.length 1 (rows StringS.cs A) :: .undef :: .int .i64 i :: (un 113 []))), [some c.cs], 0⟩) (fun i => A.length - i) 0 (Nat.zero_le _) ?_ (fun i hi2 => ?_)
 · refine aq.cut (1) (by simp) (by simp) ?_ ?_
   · simp [LeC, LeV, ren, bj]
   · simp [bz, ck, ren, ah.cs]
 refine ev0 ?_
 refine ax.split (fun h2 => ?_) (fun h2 => ?_)
 · have hi3 : i < A.length := by have := of_decide_eq_true h2; omega
   have hr := bw StringS.csl hi3
   refine rn4 @h2 @hr @StringS.cs.eq_1 @bne_self_eq_false.{0} ?_
   refine ⟨i + 1, hi3, ?_, by omega⟩
   have hw : IntKind.i64.wrap ((i : Int) + 1) = (i : Int) + 1 := wrap_i64 (by omega) (by omega)
   refine aq.cut (1) (by simp) (by simp) ?_ ?_
   · simp [LeC, LeV, ren, bj, hw]
   · simp [bz, ck, ren, ah.cs]
 · refine rn1 @h2 ?_
   (first | refine al.at (hsp) ⟨leA, leA, trivial⟩ ?_ | refine ai.at (hsp) ⟨leA, leA, trivial⟩ ?_)
   refine rn0 ?_
   obtain ⟨S, hS⟩ : ∃ S, S = gi 10 text := ⟨_, rfl⟩
   rw [← hS]
   cases R with
   | none =>
    have hA0 : A = [] := hA.symm
    subst hA0
    refine rn0 ?_
    exact ak.au rfl (by rfl)
   | some A' =>
    have hA0 : A' = A := hA
    subst hA0
    refine rn0 ?_
    refine ax.split (fun h4 => ?_) (fun h4 => ?_)
    · refine rn1 @h4 ?_
      exact ak.au rfl (by rfl)
    · have h5 : 2 ≤ S.length := by have := of_decide_eq_false h4; omega
      obtain ⟨a, l, hal⟩ : ∃ a l, S = a :: l := by
       match S, h5 with
       | a :: l, _ => exact ⟨a, l, rfl⟩
      obtain ⟨g1, M, g2⟩ := agr hR.symm (hS.symm.trans hal)
      have has : a.size ≤ text.size := n7 10 text (by rw [← hS, hal]; simp)
      have hi5 := (xg c a hz (by omega)).uw (frzN _)
      rw [g1] at hi5
      simp only [ake] at hi5
      have hrS : (rows StringS.cs S).take 1 = [.str a] := by rw [hal, e8]; rfl
      have hrA : (rows StringS.cs A').take 1 = [.str (eo c a).2] := by rw [g2, e8]; rfl
      have hrF : rows StringS.cs [(eo c a).2] = [.str (eo c a).2] := rfl
      have hAl : decide ((0 : Int) < (A'.length : Int)) = true := by rw [g2]; simp
      have hAp : (0 : Int) < (A'.length : Int) := of_decide_eq_true hAl
      have hSl : (0 : Int) < (S.length : Int) := by omega
      simp only [Option.getD_some, Option.isSome_some, hrF, List.length_cons, List.length_nil] at hi5
      refine rn4 @h4 @hrS @hSl @ah.cs.eq_1 ?_
      (first | refine al.at (hi5) ⟨leA, leA, trivial⟩ ?_ | refine ai.at (hi5) ⟨leA, leA, trivial⟩ ?_)
      refine rn1 @ah.cs.eq_1 ?_
      obtain ⟨x, b, hx⟩ : ∃ (x : ByteArray) (b : Bool), fu c = .tup [.str x, .bool b] := by
       unfold fu
       split <;> exact ⟨_, _, rfl⟩
      rw [hx] at hfi hfs
      (first | refine al.at (hfi) ⟨leA, trivial⟩ ?_ | refine ai.at (hfi) ⟨leA, trivial⟩ ?_)
      refine rn1 @ah.cs.eq_1 ?_
      (first | refine al.at (hfs) ⟨leA, trivial⟩ ?_ | refine ai.at (hfs) ⟨leA, trivial⟩ ?_)
      have h11 : (((1 : Nat) : Int) == 1) = true := rfl
      have h01 : (0 : Int) < ((1 : Nat) : Int) := by omega
      refine rn6 @ah.cs.eq_1 @h11 @h01 @hrA @hAp @beq_self_eq_true.{0} ?_
      exact ak.au rfl (by rfl)
end Go.Proofs
end
section
open Go.ChangeShapes Go.WideShapes
namespace Go.Lv

def ShC (P : Program) : Nat → TypeId → List V → Prop
 | 0, _, _ => False
 | n + 1, t, xs =>
  match P.underlying t with
  | some .bool => ∃ b, xs = [.bool b]
  | some (.int k) => ∃ z, xs = [.int k z] ∧ (Lit.int k z).wf = true
  | some .string => ∃ s : ByteArray, xs = [.str s] ∧ s.size ≤ maxLen
  | some (.slice e) => ∃ l cs, xs = [.sl l (P.cellsOf e) cs] ∧ l ≤ maxLen ∧ cs.length = l * P.cellsOf e ∧ ∀ i, i < l → ShC P n e ((cs.drop (i * P.cellsOf e)).take (P.cellsOf e))
  | some (.struct fs) => xs.length = P.cellsOf t ∧ ∀ f ∈ fs.toList, ShC P n f.type ((xs.drop f.offset).take (P.cellsOf f.type))
  | _ => False

def tiled (P : Program) : List Field → Nat → Nat → Bool
 | [], off, n => off == n
 | f :: fs, off, n => f.offset == off && tiled P fs (off + P.cellsOf f.type) n

def aa8 (P : Program) : Nat → TypeId → Bool
 | 0, _ => false
 | n + 1, t =>
  match P.underlying t with
  | some .bool => true
  | some (.int _) => true
  | some .string => true
  | some (.slice e) => decide (0 < P.cellsOf e) && aa8 P n e
  | some (.struct fs) => tiled P fs.toList 0 (P.cellsOf t) && fs.toList.all fun f => aa8 P n f.type
  | _ => false

section
variable {P : Program} {w : World} {m : Nat → Nat}

def Rds (w : World) (m : Nat → Nat) (cs : List Value) (xs : List V) : Prop :=
 cs.length = xs.length ∧ ∀ i (hi : i < xs.length), RV w m [] (fun _ => False) false (cs.getD i Go.undef) xs[i]

theorem Rds.append {a b : List Value} {x y : List V} (h : Rds w m a x) (k : Rds w m b y) : Rds w m (a ++ b) (x ++ y) := by
 refine ⟨by simp [h.1, k.1], fun i hi => ?_⟩
 by_cases hlt : i < x.length
 · rw [List.getElem_append_left hlt]
   have := h.2 i hlt
   rw [List.getD_eq_getElem?_getD, List.getElem?_append_left (by rw [h.1]; exact hlt), ← List.getD_eq_getElem?_getD]
   exact this
 · rw [List.getElem_append_right (by omega)]
   have := k.2 (i - x.length) (by simp at hi; omega)
   rw [List.getD_eq_getElem?_getD, List.getElem?_append_right (by rw [h.1]; omega), ← List.getD_eq_getElem?_getD, h.1]
   exact this

theorem Rds.one {v : Value} {x : V} (h : RV w m [] (fun _ => False) false v x) : Rds w m [v] [x] :=
 ⟨rfl, fun i hi => by have : i = 0 := by simp at hi; omega
                      subst this; exact h⟩

theorem Rds.nil : Rds w m [] [] := ⟨rfl, fun i hi => by simp at hi⟩

theorem afy {n : Nat} {cs : List Value} : ∀ (fs : List Field) (off : Nat), tiled P fs off cs.length = true → off ≤ cs.length →
 (∀ f ∈ fs, ∃ xs, Rds w m ((cs.drop f.offset).take (P.cellsOf f.type)) xs ∧ ShC P n f.type xs) →
 ∃ ys, Rds w m (cs.drop off) ys ∧ ∀ f ∈ fs, off ≤ f.offset ∧ ShC P n f.type ((ys.drop (f.offset - off)).take (P.cellsOf f.type))
 | [], off, ht, _, _ => by
  simp [tiled] at ht
  subst ht
  refine ⟨[], ?_, fun f hf => by simp at hf⟩
  rw [List.drop_of_length_le (Nat.le_refl _)]
  exact Rds.nil
 | f :: fs, off, ht, hle, h => by
  simp only [tiled, Bool.and_eq_true, beq_iff_eq] at ht
  obtain ⟨rfl, ht⟩ := ht
  have hlen : ∀ (fs : List Field) (o : Nat), tiled P fs o cs.length = true → o ≤ cs.length := by
   intro fs
   induction fs with
   | nil => intro o ht; simp [tiled] at ht; omega
   | cons g fs ih =>
    intro o ht
    simp only [tiled, Bool.and_eq_true, beq_iff_eq] at ht
    have := ih _ ht.2; omega
  have hk := hlen fs _ ht
  obtain ⟨x, hx1, hx2⟩ := h f (by simp)
  obtain ⟨ys, hy1, hy2⟩ := afy fs _ ht hk (fun g hg => h g (by simp [hg]))
  have hxl : x.length = P.cellsOf f.type := by rw [← hx1.1]; simp; omega
  refine ⟨x ++ ys, ?_, fun g hg => ?_⟩
  · have : cs.drop f.offset = (cs.drop f.offset).take (P.cellsOf f.type) ++ cs.drop (f.offset + P.cellsOf f.type) := by
     rw [← List.drop_drop, List.take_append_drop]
    rw [this]
    exact hx1.append hy1
  · rcases List.mem_cons.1 hg with rfl | hg
    · refine ⟨Nat.le_refl _, ?_⟩
      rw [Nat.sub_self, List.drop_zero, List.take_append_of_le_length (by omega), List.take_of_length_le (by omega)]
      exact hx2
    · obtain ⟨h1, h2⟩ := hy2 g hg
      refine ⟨by omega, ?_⟩
      have : (x ++ ys).drop (g.offset - f.offset) = ys.drop (g.offset - (f.offset + P.cellsOf f.type)) := by
       rw [List.drop_append, List.drop_of_length_le (by omega), List.nil_append]
       congr 1
       omega
      rw [this]
      exact h2

theorem aje {n e : Nat} {b off len : Nat} (h : ∀ i, i < len → ∃ cs xs, cs.length = P.cellsOf e ∧ (∀ j, j < P.cellsOf e → w.cell? ⟨b, off + (i * P.cellsOf e + j), none⟩ = cs[j]?) ∧ Rds w m cs xs ∧ ShC P n e xs) :
 ∀ k, k ≤ len → ∃ xs : List V, xs.length = k * P.cellsOf e ∧ (∀ j (hj : j < xs.length), ∃ v, w.cell? ⟨b, off + j, none⟩ = some v ∧ RV w m [] (fun _ => False) false v xs[j]) ∧
  ∀ i, i < k → ShC P n e ((xs.drop (i * P.cellsOf e)).take (P.cellsOf e))
 | 0, _ => ⟨[], by simp, fun j hj => by simp at hj, fun i hi => by omega⟩
 | k + 1, hk => by
  obtain ⟨xs, h1, h2, h3⟩ := aje h k (by omega)
  obtain ⟨cs, ys, g1, g2, g3, g4⟩ := h k (by omega)
  have hyl : ys.length = P.cellsOf e := by rw [← g3.1, g1]
  refine ⟨xs ++ ys, by simp [h1, hyl, Nat.add_mul], fun j hj => ?_, fun i hi => ?_⟩
  · by_cases hlt : j < xs.length
    · rw [List.getElem_append_left hlt]
      exact h2 j hlt
    · rw [List.getElem_append_right (by omega)]
      have hj' : j - xs.length < ys.length := by simp at hj; omega
      have hr := g3.2 _ hj'
      have hc := g2 (j - xs.length) (by omega)
      have e1 : off + (k * P.cellsOf e + (j - xs.length)) = off + j := by omega
      rw [e1] at hc
      have hcl : j - xs.length < cs.length := by omega
      rw [List.getElem?_eq_getElem hcl] at hc
      refine ⟨_, hc, ?_⟩
      simpa [List.getD_eq_getElem?_getD, hcl] using hr
  · by_cases e2 : i = k
    · subst e2
      rw [← h1, List.drop_left, List.take_of_length_le (by omega)]
      exact g4
    · have hm : i * P.cellsOf e + P.cellsOf e ≤ xs.length := ac6 (n := k) (by omega) h1
      rw [List.drop_append_of_le_length (by omega), List.take_append_of_le_length (by simp; omega)]
      exact h3 i (by omega)

theorem ahi {H : Type} {enc : TypeId × Value → H} {spare : Nat → Bool} {held : Bool} : ∀ (n : Nat) (fuel : Nat) (t : TypeId) (cs : List Value) (x : DataW H × List MemPlace),
 DataW.trod enc P w 0 spare held fuel t cs = some x → aa8 P n t = true → ∃ xs, Rds w m cs xs ∧ ShC P n t xs
 | 0, fuel, t, cs, x, _, hp => by simp [aa8] at hp
 | n + 1, fuel, t, cs, x, hx, hp => by
  unfold aa8 at hp
  split at hp
  · rename_i hu
    obtain ⟨b, rfl, _⟩ := DataW.trod_bool hu hx
    exact ⟨[.bool b], Rds.one (.bool b), by unfold ShC; rw [hu]; exact ⟨b, rfl⟩⟩
  · rename_i k hu
    obtain ⟨z, rfl, _, hw⟩ := DataW.trod_int hu hx
    exact ⟨[.int k z], Rds.one (.int k z), by unfold ShC; rw [hu]; exact ⟨z, rfl, hw⟩⟩
  · rename_i hu
    obtain ⟨s, rfl, _, hs⟩ := DataW.trod_string hu hx
    exact ⟨[.str s], Rds.one (.str s), by unfold ShC; rw [hu]; exact ⟨s, rfl, hs⟩⟩
  · rename_i e hu
    simp only [Bool.and_eq_true, decide_eq_true_eq] at hp
    obtain ⟨hpos, hp⟩ := hp
    rcases Deep.open_slice hu hx with ⟨rfl, _⟩ | ⟨a, len, cap, mm, f, D, Pl, rfl, _, hle, hcap, hmm, _, hel⟩
    · refine ⟨[.sl 0 (P.cellsOf e) []], Rds.one (.slz _ _ _), ?_⟩
      unfold ShC; rw [hu]
      exact ⟨0, [], rfl, Nat.zero_le _, by simp, fun i hi => by omega⟩
    · by_cases h0 : len = 0
      · subst h0
        refine ⟨[.sl 0 (P.cellsOf e) []], Rds.one (.slz _ _ _), ?_⟩
        unfold ShC; rw [hu]
        exact ⟨0, [], rfl, Nat.zero_le _, by simp, fun i hi => by omega⟩
      · have hml : len ≤ mm := by rw [hmm]; split <;> omega
        obtain ⟨b, off, spot⟩ := a
        have hspot : spot = none := by
         obtain ⟨cs', hc, _⟩ := hel 0 (by omega)
         obtain ⟨_, hcl, hat⟩ := World.cells?_some hc
         have h1 := hat 0 hpos
         rw [List.getElem?_eq_getElem (by omega)] at h1
         simpa [Addr.add] using World.cell?_spot h1
        subst hspot
        have hall : ∀ i, i < len → ∃ cs xs, cs.length = P.cellsOf e ∧ (∀ j, j < P.cellsOf e → w.cell? ⟨b, off + (i * P.cellsOf e + j), none⟩ = cs[j]?) ∧ Rds w m cs xs ∧ ShC P n e xs := by
         intro i hi
         obtain ⟨cs', hc, ht⟩ := hel i (by omega)
         obtain ⟨_, hcl, hat⟩ := World.cells?_some hc
         obtain ⟨xs, h1, h2⟩ := ahi n _ e cs' _ ht hp
         refine ⟨cs', xs, hcl, fun j hj => ?_, h1, h2⟩
         have := hat j hj
         rw [Addr.add_lit, Addr.add_lit] at this
         rw [← this, Nat.add_assoc]
        obtain ⟨xs, h1, h2, h3⟩ := aje hall len (Nat.le_refl _)
        refine ⟨[.sl len (P.cellsOf e) xs], Rds.one (.sl b off len cap (P.cellsOf e) xs (fun j => (w.cell? ⟨b, off + j, none⟩).getD Go.undef) h1 (fun _ h => h) hle (fun j hj => ?_) (fun j hj => ?_)), ?_⟩
        · obtain ⟨v, hv, _⟩ := h2 j hj
          simp [hv]
        · obtain ⟨v, hv, hr⟩ := h2 j hj
          simpa [hv] using hr
        · unfold ShC; rw [hu]
          exact ⟨len, xs, rfl, by omega, h1, h3⟩
  · rename_i fs hu
    simp only [Bool.and_eq_true, List.all_eq_true] at hp
    obtain ⟨xs, f, _, _, hl, hxl, hf⟩ := DataW.trod_struct hu hx
    have hfs : ∀ g ∈ fs.toList, ∃ ys, Rds w m ((cs.drop g.offset).take (P.cellsOf g.type)) ys ∧ ShC P n g.type ys := by
     intro g hg
     obtain ⟨i, hi, rfl⟩ := List.getElem_of_mem hg
     have hi' : i < fs.size := by simpa using hi
     have h1 := hf i fs[i] (Array.getElem?_eq_getElem hi')
     rw [List.getElem?_eq_getElem (by omega)] at h1
     exact ahi n _ _ _ _ (by simpa using h1) (hp.2 _ hg)
    obtain ⟨ys, h1, h2⟩ := afy fs.toList 0 (by rw [hl]; exact hp.1) (Nat.zero_le _) hfs
    rw [List.drop_zero] at h1
    refine ⟨ys, h1, ?_⟩
    unfold ShC; rw [hu]
    exact ⟨by rw [← h1.1, hl], fun g hg => by simpa using (h2 g hg).2⟩
  · cases hp

end
section
variable {P : Program} {W : World}

theorem Rds.get {m : Nat → Nat} {a : List Value} {x : List V} (h : Rds W m a x) : a.length = x.length := h.1

theorem asi {H : Type} {enc : TypeId × Value → H} {spare : Nat → Bool} {held : Bool} {n : Nat} {t : TypeId} {v : Value} {d : DataW H} {p : List MemPlace} (m : Nat → Nat)
 (hv : v.cells = #[v]) (h : DataW.Trod enc P W 0 spare held t v d p) (hp : aa8 P n t = true) : ∃ x, RV W m [] (fun _ => False) true v x ∧ ShC P n t [x] := by
 obtain ⟨fuel, hf⟩ := h
 rw [hv] at hf
 obtain ⟨xs, h1, h2⟩ := ahi (m := m) n fuel t _ _ hf hp
 match xs, h1 with
 | [x], h1 => exact ⟨x, by have := h1.2 0 (by simp); exact this.uw, h2⟩
 | [], h1 => simp [Rds] at h1
 | _ :: _ :: _, h1 => simp [Rds] at h1

theorem law_walk {f : FuncId} {xs : List V} {vs : Array Value} (m : Nat → Nat) (hc : Ctr P f xs [] (.bool true) []) (hgl : GL W (fun _ => False)) (hsz : vs.size = xs.length)
 (hr : ∀ i (hi : i < xs.length), RV W m [] (fun _ => False) true (vs.getD i Go.undef) xs[i]) :
 Calls P f vs W fun e w' => e = .returned (.bool true) ∧ RowKit.Below W.heap.size W w' := by
 refine (hc.2 W vs m (fun _ => False) ⟨fun i j ci cj h => by simp at h, fun id cs h => by simp at h, fun id cs h => by simp at h⟩ (fun b h => h.elim) hgl hsz hr).mono ?_
 rintro e w' ⟨v, m', rfl, hE, _, hv, _⟩
 refine ⟨by cases hv; rfl, hE.os, hE.tape, hE.output, hE.size, fun k hk => hE.block k hk (fun ⟨id, cs, h, _⟩ => by simp at h)⟩

end
end Go.Lv
end
section
namespace Go.Lv

theorem awl {P : Program} {t : TypeId} {n : Nat} {xs : List V} (hs : P.underlying t = some (.int .u8)) (h : ShC P (n + 1) t xs) : ∃ z, xs = [.int .u8 z] ∧ 0 ≤ z ∧ z ≤ 255 := by
 simp only [ShC, hs] at h
 obtain ⟨z, h1, h2⟩ := h
 refine ⟨z, h1, ?_⟩
 simp [Lit.wf, IntKind.min, IntKind.max, IntKind.signed, IntKind.bits] at h2
 exact h2

theorem ao1 {P : Program} {t e : TypeId} {n : Nat} {xs : List V} (hs : P.underlying t = some (.slice e)) {α : Type} {cs : α → List V} {w : Nat} (hw : P.cellsOf e = w) {ok : α → Prop}
 (he : ∀ ys, ShC P n e ys → ∃ a, ys = cs a ∧ ok a) (h : ShC P (n + 1) t xs) : ∃ L : List α, xs = [.sl L.length w (rows cs L)] ∧ aes ok L := by
 simp only [ShC, hs, hw] at h
 obtain ⟨l, ys, rfl, hl, hlen, hel⟩ := h
 suffices ∀ (l : Nat) (ys : List V), ys.length = l * w → (∀ i, i < l → ShC P n e ((ys.drop (i * w)).take w)) → ∃ L : List α, L.length = l ∧ rows cs L = ys ∧ ∀ x ∈ L, ok x by
  obtain ⟨L, h1, h2, h3⟩ := this l ys hlen hel
  exact ⟨L, by rw [h1, h2], by rw [h1]; exact hl, h3⟩
 intro l
 induction l with
 | zero => intro ys h1 _; exact ⟨[], rfl, by simp at h1; simp [rows, h1], fun x hx => by simp at hx⟩
 | succ l ih =>
  intro ys h1 h2
  obtain ⟨a, ha, hoa⟩ := he _ (h2 0 (by omega))
  rw [Nat.zero_mul, List.drop_zero] at ha
  obtain ⟨L, h3, h4, h5⟩ := ih (ys.drop w) (by rw [List.length_drop, h1, Nat.succ_mul]; omega) (fun i hi => by
   have := h2 (i + 1) (by omega)
   rw [List.drop_drop]
   rwa [Nat.succ_mul, Nat.add_comm] at this)
  refine ⟨a :: L, by simp [h3], ?_, ?_⟩
  · rw [e8, h4, ← ha, List.take_append_drop]
  · intro x hx
    rcases List.mem_cons.1 hx with rfl | hx
    · exact hoa
    · exact h5 x hx

end Go.Lv
end
