/-
  A part of the proof: texts put together by a program of the prover. Conditions: none.
-/
import Derived.Test.YtfpkiomipjmabaaGreatDoorZC9
import Derived.Test.YtfpkiomipjmabaaGreatDoorZC11
import Derived.Test.YtfpkiomipjmabaaGreatDoorZC12
import Derived.WalkKit
set_option linter.unusedSimpArgs false
set_option linter.unusedVariables false
section
set_option maxRecDepth 100000
set_option maxHeartbeats 4000000
namespace Go.Proofs
open Go.Lv Go.RowKit
theorem att {w : World} {m : Nat → Nat} {h : Hp} {av : Nat → Prop} {vs : Array Value} {s t : ByteArray} (hsz : vs.size = [V.str s, V.str t].length)
   (ha : ∀ i (hi : i < [V.str s, V.str t].length), RV w m h av true (vs.getD i Go.undef) [V.str s, V.str t][i]) : vs = #[.string s, .string t] := by
 obtain ⟨v, u, rfl⟩ : ∃ v u, vs = #[v, u] := by
   match vs, hsz with
   | ⟨[v, u]⟩, _ => exact ⟨v, u, rfl⟩
 have h0 := ha 0 (by simp)
 have h1 := ha 1 (by simp)
 simp only [List.getElem_cons_zero, List.getElem_cons_succ] at h0 h1
 obtain rfl : v = .string s := by
   simp at h0; cases h0; rfl
 obtain rfl : u = .string t := by
   simp at h1; cases h1; rfl
 rfl
theorem acn {w : World} {m : Nat → Nat} {av : Nat → Prop} : RH w m [] av := ⟨fun i j ci cj h => by simp at h, fun id cs h => by simp at h, fun id cs h => by simp at h⟩
theorem aam {O : Nat → Prop} {w w' : World} (hb : Below w.heap.size w w') : Ext O w w' :=
 ⟨hb.os, hb.tape, hb.output, hb.size, fun g hg _ => hb.block g hg, fun g hg => Nat.le_of_eq (gk (hb.block g hg)).symm⟩
theorem apb (s : ByteArray) (c : UInt8) (hs : s.size ≤ 16777216) : Ctr Tryz.prog 66 [.str s, .str ⟨#[c]⟩] [] (.osl 0 0 (gw c s).length 1) [some (rows StringS.cs (gw c s))] := by
 refine ⟨Tryz.a3w, fun w vs m av hH hav hgl hsz ha => ?_⟩
 obtain rfl := att hsz ha
 obtain ⟨mv, hm, m0, rfl⟩ := hgl.var (g := 0) (e := false) (by simp [afo])
 refine (Tryz.strings_Split s ⟨#[c]⟩ m0 w (by omega) hm (Nat.le_refl 1)).mono ?_
 rintro e w' ⟨rfl, rfl⟩
 rw [aj7]
 have hl : Lib.countB s ⟨#[c]⟩ + 1 = (gw c s).length := by
   rw [← aj7, Lib.splitB_all ⟨#[c]⟩ (Nat.le_refl 1) 0 _ _ rfl]
 rw [hl]
 generalize gw c s = L
 have hrl : (rows StringS.cs L).length = L.length := by rw [ay, Nat.mul_one]
 have hrow : ∀ i (hi : i < (rows StringS.cs L).length), ∃ x, (rows StringS.cs L)[i] = .str x ∧ ((L.map Value.string).toArray).getD i Go.undef = .string x := by
   intro i hi
   have hi' : i < L.length := by omega
   refine ⟨L[i], ?_, ?_⟩
   · have := bt StringS.csl hi'
     rw [Nat.mul_one] at this
     have h2 : (rows StringS.cs L)[i]? = some (.str L[i]) := by
       have h3 := congrArg (·[0]?) this
       simpa [StringS.cs, List.getElem?_take] using h3
     rw [List.getElem?_eq_getElem hi] at h2
     exact Option.some.inj h2
   · simp [hi']
 have hnew := heap_alloc_new w (.cells (L.map Value.string).toArray 9)
 refine ⟨_, fun _ => w.heap.size, rfl, Ext.alloc _ _ _, ⟨fun i j ci cj h1 h2 _ => ?_, fun id cs h => .inr ⟨id, cs, h, rfl⟩, fun id cs h => ?_⟩, ?_, fun id cs h => .inr ⟨Nat.zero_le _, Nat.le_refl _⟩⟩
 · have e1 : i < 1 := by have := (List.getElem?_eq_some_iff.1 h1).1; simpa using this
   have e2 : j < 1 := by have := (List.getElem?_eq_some_iff.1 h2).1; simpa using this
   omega
 · have e1 : id < 1 := by have := (List.getElem?_eq_some_iff.1 h).1; simpa using this
   obtain rfl : id = 0 := by omega
   simp only [List.getElem?_cons_zero, Option.some.injEq] at h
   subst h
   refine .inl ⟨_, _, _, hnew, za.zero _, by simp [hrl], fun i hi => ?_⟩
   obtain ⟨x, h1, h2⟩ := hrow i hi
   rw [h1, h2]
   exact .str _
 · refine .osl 0 0 L.length L.length 1 _ ⟨rfl, k9 _⟩ (by simp [hrl]) (Nat.le_refl _) ?_
   simp only [cz, hnew]
   simp
theorem asv (L : List ByteArray) (hL : (Lib.join (L.map (·.data.toList)) [32]).length ≤ 140737488355328) (hl : L.length ≤ 16777216) : Ctr Tryz.prog 244 [StringS.sl L, .str ⟨#[32]⟩] [] (.str ⟨(Lib.join (L.map (·.data.toList)) [32]).toArray⟩) [] := by
 refine ⟨Tryz.avs, fun w vs m av hH hav hgl hsz ha => ?_⟩
 obtain ⟨v, u, rfl⟩ : ∃ v u, vs = #[v, u] := by
   match vs, hsz with
   | ⟨[v, u]⟩, _ => exact ⟨v, u, rfl⟩
 have h0 := ha 0 (by simp)
 have h1 := ha 1 (by simp)
 simp only [List.getElem_cons_zero, List.getElem_cons_succ] at h0 h1
 obtain rfl : u = .string ⟨#[32]⟩ := by
   simp at h1; cases h1; rfl
 have hrl : (rows StringS.cs L).length = L.length := by rw [ay, Nat.mul_one]
 have hv : (#[v, Value.string ⟨#[32]⟩] : Array Value).getD 0 Go.undef = v := rfl
 rw [hv] at h0
 generalize hy : StringS.sl L = y at h0
 cases h0 with
 | slz a c wd =>
   have e0 : L = [] := by
     simp only [StringS.sl, V.sl.injEq] at hy
     exact List.length_eq_zero_iff.1 hy.1
   subst e0
   refine (Tryz.strings_Join_none a c ⟨#[32]⟩ w).mono ?_
   rintro e w' ⟨rfl, rfl⟩
   exact ⟨_, m, rfl, Ext.refl _ _, acn, .str _, fun id cs h => by simp at h⟩
 | sl b off n cap wd cs vals hl' ha' hc hv' hr =>
   simp only [StringS.sl, V.sl.injEq] at hy
   obtain ⟨rfl, rfl, rfl⟩ := hy
   by_cases he : L = []
   · subst he
     refine (Tryz.strings_Join_none _ cap ⟨#[32]⟩ w).mono ?_
     rintro e w' ⟨rfl, rfl⟩
     exact ⟨_, m, rfl, Ext.refl _ _, acn, .str _, fun id cs h => by simp at h⟩
   have hpos : 0 < L.length := List.length_pos_iff.2 he
   have hcells : ∀ (j : Nat) x, L[j]? = some x → w.cell? ⟨b, off + j, none⟩ = some (.string x) := by
     intro j x hj
     obtain ⟨hj1, hj2⟩ := List.getElem?_eq_some_iff.1 hj
     have hi : j < (rows StringS.cs L).length := by omega
     have h2 : (rows StringS.cs L)[j] = .str x := by
       have := bt StringS.csl hj1
       rw [Nat.mul_one] at this
       have h3 := congrArg (·[0]?) this
       have h4 : (rows StringS.cs L)[j]? = some (.str L[j]) := by simpa [StringS.cs, List.getElem?_take] using h3
       rw [List.getElem?_eq_getElem hi, hj2] at h4
       exact Option.some.inj h4
     have h5 := hr j hi
     rw [h2] at h5
     rw [hv' j hi]
     generalize vals j = vv at h5
     cases h5
     rfl
   have hbk : b < w.heap.size := World.block_lt_of_cell? w ⟨b, off + 0, none⟩ (hcells 0 L[0] (List.getElem?_eq_getElem hpos))
   refine (Tryz.strings_Join b off cap L ⟨#[32]⟩ w hcells hbk (by omega) hc hL).mono ?_
   rintro e w' ⟨rfl, hb⟩
   exact ⟨_, m, rfl, aam hb, acn, .str _, fun id cs h => by simp at h⟩
 | _ => simp [StringS.sl] at hy
end Go.Proofs
end
section
set_option maxRecDepth 100000
set_option maxHeartbeats 1000000
namespace Go.Proofs
open Go.Lv
theorem amc (c : UInt8) (hc : c.toNat < 48) : ∀ (n u : Nat), u < n → noB c (num u) = true
 | 0, u, h => by omega
 | n + 1, u, h => by
   have one : ∀ d, d < 10 → noB c (digits.extract d (d + 1)) = true := by
     intro d hd
     rw [r4 d hd]
     have hne : (UInt8.ofNat (48 + d) == c) = false := by
       rw [beq_eq_false_iff_ne]
       intro e
       have h1 : (UInt8.ofNat (48 + d)).toNat = c.toNat := by rw [e]
       rw [UInt8.toNat_ofNat'] at h1
       omega
     show (!(UInt8.ofNat (48 + d) == c) && true) = true
     rw [hne]; rfl
   by_cases h1 : u < 10
   · rw [ah1 h1]; exact one u h1
   · rw [aco h1, noB, adp]
     have g1 := amc c hc n (u / 10) (by omega)
     have g2 := one (u % 10) (by omega)
     unfold noB at g1 g2
     rw [g1, g2]; rfl
def j9 (line : ByteArray) : aw := ⟨bef 64 (aft 32 (bef 35 line)), aft 64 (aft 32 (bef 35 line))⟩
theorem asg (s : ByteArray) : np s = s ++ (⟨#[35]⟩ ++ num (ckS s)) := by rw [np, ByteArray.append_assoc]
theorem alu (k : Int) (e : aw) : dh k e = num k ++ (⟨#[32]⟩ ++ (e.Command ++ (⟨#[64]⟩ ++ e.Reply))) := by
 simp only [dh, ByteArray.append_assoc]
theorem aly {e : aw} (h : iw e = true) : noB 64 e.Command = true :=
 aaa (sr h).2.2.1 (fun b hb => by simp at hb ⊢; exact hb.2)
theorem ajj {k : Int} {e : aw} (hk : 0 ≤ k ∧ k ≤ 59) (h : iw e = true) : bef 35 (np (dh k e)) = dh k e := by
 rw [asg]
 exact (q8 (wq hk h)).2.1
theorem aab {k : Int} {e : aw} (hk : 0 ≤ k ∧ k ≤ 59) (h : iw e = true) : j9 (np (dh k e)) = e := by
 obtain ⟨u, rfl⟩ := Int.eq_ofNat_of_zero_le hk.1
 have n1 : noB 32 (num (u : Int)) = true := amc 32 (by decide) (u + 1) u (by omega)
 have a1 : aft 32 (dh u e) = e.Command ++ (⟨#[64]⟩ ++ e.Reply) := by
   rw [alu]; exact (q8 n1).2.2.1
 have c := q8 (y := e.Reply) (aly h)
 rw [j9, ajj hk h, a1, c.2.1, c.2.2.1]
def aah (k : Int) (line : ByteArray) : Option aw := if eb k 0 59 = true ∧ iw (j9 line) = true ∧ np (dh k (j9 line)) = line then some (j9 line) else none
theorem me {k : Int} {line : ByteArray} {e : aw} : aah k line = some e ↔ (0 ≤ k ∧ k ≤ 59) ∧ iw e = true ∧ np (dh k e) = line := by
 unfold aah
 constructor
 · intro g
   split at g
   · rename_i c
     simp only [Option.some.injEq] at g
     subst g
     exact ⟨fh.1 c.1, c.2.1, c.2.2⟩
   · cases g
 · rintro ⟨hk, he, rfl⟩
   rw [aab hk he, if_pos ⟨fh.2 hk, he, rfl⟩]
theorem zx {k : Int} {line : ByteArray} (h : ∀ e, ¬ ((0 ≤ k ∧ k ≤ 59) ∧ iw e = true ∧ np (dh k e) = line)) : aah k line = none := by
 cases g : aah k line with
 | none => rfl
 | some e => exact absurd (me.1 g) (h e)
theorem append_right_inj {a b c : ByteArray} (h : a ++ c = b ++ c) : a = b := by
 apply ra
 have := congrArg (fun x : ByteArray => x.data.toList) h
 simp only [lu] at this
 exact List.append_cancel_right this
theorem gg (a b : ByteArray) : (a.toList == b.toList) = decide (a = b) := by
 rw [ab2, ab2, Bool.eq_iff_iff]
 simp only [beq_iff_eq, decide_eq_true_eq]
 exact ⟨fun h => ra h, fun h => by rw [h]⟩
def gx (k : Int) (s : ByteArray) : Option (aw × Nat) := if fnd 10 s = true then (aah k (bef 10 s)).map fun e => (e, (bef 10 s).size + 1) else none
def xn (k : Int) (line R : ByteArray) : aw × Bool :=
 if (bef 64 R).size = R.size then (⟨⟨#[]⟩, ⟨#[]⟩⟩, false)
 else (⟨bef 64 R, R.extract ((bef 64 R).size + 1) R.size⟩, iw ⟨bef 64 R, R.extract ((bef 64 R).size + 1) R.size⟩ && decide (fu k ⟨bef 64 R, R.extract ((bef 64 R).size + 1) R.size⟩ = line ++ ⟨#[10]⟩))
def kv (k : Int) (line : ByteArray) : aw × Bool :=
 if (bef 35 line).size < (num k ++ (⟨#[32]⟩ : ByteArray)).size ∨ ¬ (bef 35 line).extract 0 (num k ++ (⟨#[32]⟩ : ByteArray)).size = num k ++ (⟨#[32]⟩ : ByteArray) then (⟨⟨#[]⟩, ⟨#[]⟩⟩, false)
 else xn k line ((bef 35 line).extract (num k ++ (⟨#[32]⟩ : ByteArray)).size (bef 35 line).size)
theorem ais {k : Int} {line : ByteArray} (hk : 0 ≤ k ∧ k ≤ 59) (h : (kv k line).2 = true) : aah k line = some (kv k line).1 := by
 unfold kv at h ⊢
 split
 · rename_i c; rw [if_pos c] at h; cases h
 · rename_i c
   rw [if_neg c] at h
   unfold xn at h ⊢
   split
   · rename_i c2; rw [if_pos c2] at h; cases h
   · rename_i c2
     rw [if_neg c2] at h
     simp only [Bool.and_eq_true, decide_eq_true_eq] at h
     exact me.2 ⟨hk, h.1, append_right_inj h.2⟩
theorem aon (a b : ByteArray) : (a ++ b).extract 0 a.size = a := by
 apply ra
 rw [dx, lu, List.drop_zero]
 exact List.take_left' (e8 a)
theorem afr (a b : ByteArray) : (a ++ b).extract a.size (a ++ b).size = b := by
 apply ra
 have hl : (a ++ b).size = (a ++ b).data.toList.length := rfl
 rw [dx, hl, List.take_length, lu]
 exact List.drop_left' (e8 a)
theorem ana {k : Int} {line : ByteArray} {e : aw} (h : aah k line = some e) : kv k line = (e, true) := by
 obtain ⟨hk, he, hl⟩ := me.1 h
 have ht : bef 35 line = (num k ++ (⟨#[32]⟩ : ByteArray)) ++ (e.Command ++ (⟨#[64]⟩ ++ e.Reply)) := by
   rw [← hl, ajj hk he, alu]
   simp only [ByteArray.append_assoc]
 have hs : ((num k ++ (⟨#[32]⟩ : ByteArray)) ++ (e.Command ++ (⟨#[64]⟩ ++ e.Reply))).size = (num k ++ (⟨#[32]⟩ : ByteArray)).size + (e.Command ++ (⟨#[64]⟩ ++ e.Reply)).size := ByteArray.size_append
 have c := q8 (y := e.Reply) (aly he)
 have hz : (e.Command ++ ((⟨#[64]⟩ : ByteArray) ++ e.Reply)).size = e.Command.size + (1 + e.Reply.size) := by
   rw [ByteArray.size_append, ByteArray.size_append]; rfl
 have hx : (e.Command ++ ((⟨#[64]⟩ : ByteArray) ++ e.Reply)).extract (e.Command.size + 1) (e.Command ++ ((⟨#[64]⟩ : ByteArray) ++ e.Reply)).size = e.Reply := by
   have h2 := afr (e.Command ++ (⟨#[64]⟩ : ByteArray)) e.Reply
   have h3 : (e.Command ++ (⟨#[64]⟩ : ByteArray)).size = e.Command.size + 1 := by rw [ByteArray.size_append]; rfl
   rw [h3, ByteArray.append_assoc] at h2
   exact h2
 have ee : (⟨e.Command, e.Reply⟩ : aw) = e := rfl
 unfold kv
 rw [ht, aon, afr, if_neg (by rw [hs]; simp), xn, c.2.1, if_neg (by rw [hz]; omega), hx, ee, he]
 have hr : fu k e = line ++ ⟨#[10]⟩ := by rw [fu, hl]
 rw [hr]
 simp
def rdN (s : ByteArray) : Nat → List aw × Nat
 | 0 => ([], 0)
 | n + 1 => match gx (rdN s n).1.length (s.extract (rdN s n).2 s.size) with
   | some r => ((rdN s n).1 ++ [r.1], (rdN s n).2 + r.2)
   | none => rdN s n
theorem js {s : ByteArray} {n : Nat} {r : aw × Nat} (h : gx (rdN s n).1.length (s.extract (rdN s n).2 s.size) = some r) : rdN s (n + 1) = ((rdN s n).1 ++ [r.1], (rdN s n).2 + r.2) := by rw [rdN, h]
theorem pk {s : ByteArray} {n : Nat} (h : gx (rdN s n).1.length (s.extract (rdN s n).2 s.size) = none) : rdN s (n + 1) = rdN s n := by rw [rdN, h]
theorem zr {s : ByteArray} {n : Nat} (h : gx (rdN s n).1.length (s.extract (rdN s n).2 s.size) = none) : ∀ m, rdN s (n + m) = rdN s n
 | 0 => rfl
 | m + 1 => by
   have ih := zr h m
   rw [← Nat.add_assoc, pk (by rw [ih]; exact h), ih]
theorem acg {c : UInt8} {s : ByteArray} (h : fnd c s = true) : (bef c s).size + 1 ≤ s.size := by
 obtain ⟨x, y, e, hx⟩ := yp h
 have h1 := (q8 (y := y) hx).2.1
 have h2 : (x ++ ((⟨#[c]⟩ : ByteArray) ++ y)).size = x.size + (1 + y.size) := by rw [ByteArray.size_append, ByteArray.size_append]; rfl
 rw [e, h1, h2]; omega
theorem r7 {k : Int} {s : ByteArray} {r : aw × Nat} (h : gx k s = some r) : fnd 10 s = true ∧ aah k (bef 10 s) = some r.1 ∧ r.2 = (bef 10 s).size + 1 := by
 unfold gx at h
 split at h
 · rename_i c
   cases g : aah k (bef 10 s) with
   | none => rw [g] at h; cases h
   | some e =>
     rw [g] at h
     simp only [Option.map_some, Option.some.injEq] at h
     subst h
     exact ⟨c, rfl, rfl⟩
 · cases h
theorem z8 {k : Int} {s : ByteArray} {r : aw × Nat} (h : gx k s = some r) : 1 ≤ r.2 ∧ r.2 ≤ s.size ∧ r.2 ≤ 423 := by
 obtain ⟨h1, h2, h3⟩ := r7 h
 have := acg h1
 obtain ⟨hk, he, hl⟩ := me.1 h2
 have g1 := gb hk he
 have g2 := il (dh k r.1)
 rw [hl] at g2
 omega
theorem xg (s : ByteArray) : ∀ n, (rdN s n).2 ≤ s.size ∧ (rdN s n).2 ≤ 423 * (rdN s n).1.length ∧ (rdN s n).1.length ≤ n
 | 0 => by simp [rdN]
 | n + 1 => by
   have ih := xg s n
   cases h : gx (rdN s n).1.length (s.extract (rdN s n).2 s.size) with
   | none => rw [pk h]; omega
   | some r =>
     have hz := z8 h
     rw [ByteArray.size_extract] at hz
     rw [js h]
     simp only [List.length_append, List.length_singleton]
     omega
theorem alo {k : Int} {s : ByteArray} {r : aw × Nat} (h : gx k s = some r) : 0 ≤ k ∧ k ≤ 59 := (me.1 (r7 h).2.1).1
theorem xy (s : ByteArray) : ∀ n, (rdN s n).1.length ≤ 60
 | 0 => by simp [rdN]
 | n + 1 => by
   have ih := xy s n
   cases h : gx (rdN s n).1.length (s.extract (rdN s n).2 s.size) with
   | none => rw [pk h]; exact ih
   | some r =>
     have hz := alo h
     rw [js h]
     simp only [List.length_append, List.length_singleton]
     omega
def cy (s : ByteArray) : List aw := (rdN s 60).1
def p9 (s : ByteArray) : Nat := (rdN s 60).2
theorem y5 {s : ByteArray} {i : Nat} (hl : (rdN s i).1.length = i) (h : gx i (s.extract (rdN s i).2 s.size) = none) : rdN s 60 = rdN s i := by
 have h60 := xy s i
 have := zr (s := s) (n := i) (by rw [hl]; exact h) (60 - i)
 rw [← this]
 congr 1; omega
theorem ab3 {s : ByteArray} : ∀ {i j : Nat}, (rdN s i).1.length = i → j ≤ i → (rdN s j).1.length = j
 | 0, j, _, hj => by have : j = 0 := by omega
                     subst this; rfl
 | i + 1, j, h, hj => by
   by_cases e : j = i + 1
   · subst e; exact h
   · refine ab3 (i := i) ?_ (by omega)
     have hb := (xg s i).2.2
     cases g : gx (rdN s i).1.length (s.extract (rdN s i).2 s.size) with
     | none => rw [pk g] at h; omega
     | some r => rw [js g] at h; simp at h; exact h
def ny (s : ByteArray) (i : Nat) : List Int := (List.range i).map fun j => ((rdN s (j + 1)).2 : Int)
theorem ajx (s : ByteArray) (i : Nat) : ny s (i + 1) = ny s i ++ [((rdN s (i + 1)).2 : Int)] := by simp [ny, List.range_succ]
theorem xl (s : ByteArray) (i : Nat) : (ny s i).length = i := by simp [ny]
end Go.Proofs
end
section
set_option maxRecDepth 100000
set_option maxHeartbeats 4000000
namespace Go.Proofs
open Go.Lv Go.RowKit
noncomputable def jj (s : ByteArray) : V := .tup [.int .i64 ((cq s).getD 0), .bool (cq s).isSome]
theorem agv {w w' : World} (h : GL w (fun _ => False)) (hE : Ext (fun _ => False) w w') : GL w' (fun _ => False) := by
 refine ⟨fun p hp => ?_, fun p hp => ?_⟩
 · obtain ⟨h1, T, fr, h2⟩ := h.1 p hp
   exact ⟨h1, T, fr, by rw [hE.block _ (Array.getElem?_eq_some_iff.1 h2).1 (fun h => h)]; exact h2⟩
 · obtain ⟨h1, C, T, fr, v, h2, h3⟩ := h.2 p hp
   exact ⟨h1, C, T, fr, v, by rw [hE.block _ (Array.getElem?_eq_some_iff.1 h2).1 (fun h => h)]; exact h2, h3⟩
theorem am2 {P : Program} {f : FuncId} {args : List V} {r : V} (h : Ctr P f args [] r []) {w : World} (hgl : GL w (fun _ => False)) {vs : Array Value} (hsz : vs.size = args.length)
   (ha : ∀ i (hi : i < args.length), RV w (fun _ => 0) [] (fun _ => False) true (vs.getD i Go.undef) args[i]) :
   Calls P f vs w fun e w' => ∃ v, e = .returned v ∧ Ext (fun _ => False) w w' ∧ RV w' (fun _ => 0) [] (fun _ => False) true v r := by
 refine (h.2 w vs (fun _ => 0) (fun _ => False) acn (fun b hb => hb.elim) hgl hsz ha).mono ?_
 rintro e w' ⟨v, m', rfl, hE, _, hR, _⟩
 refine ⟨v, rfl, hE.mono (fun b _ ⟨id, cs, h, _⟩ => by simp at h), ?_⟩
 exact RV.step (w := w') (w' := w') (m := m') (m' := fun _ => 0) (h := []) (h' := []) (av := avm (fun _ => False) m' []) (av' := fun _ => False) (fun b off v hb hc => ⟨fun h => h, hc⟩) (fun id c hid => by simp at hid) hR
theorem aek (n : Int) (hn : iq n) : Ctr Tryz.prog 199 [.int .i64 n] [] (.tup [.str (if eb n (-999999) 999999 = true then num n else ⟨#[]⟩), .bool (eb n (-999999) 999999)]) [] := by
 refine Ctr.intro Tryz.mixed Tryz.func199 rfl Tryz.axa ?_
 simp -implicitDefEqProofs -dsimp only [go_sem, Tryz.ntmps199, Tryz.results199]
 (have ct := jy n (-999999) 999999; (first | refine ak.at ct ⟨leA, leA, leA, trivial⟩ ?_ | refine aj.at ct ⟨leA, leA, leA, trivial⟩ ?_); clear ct)
 (repeat ((repeat1' (first | simp -implicitDefEqProofs -dsimp only [go_sem] | simp -dsimp (disch := omega) only [wrap_i64])); repeat (with_reducible refine ah ?_)))
 refine bd.split (fun h => ?_) (fun h => ?_) <;> (repeat ((repeat1' (first | simp -implicitDefEqProofs -dsimp only [go_sem, h] | simp -dsimp (disch := omega) only [wrap_i64])); repeat (with_reducible refine ah ?_)))
 · have h' : eb n (-999999) 999999 = false := by simpa using h
   exact al.ax (by rw [h']; rfl) (by rfl)
 · have h' : eb n (-999999) 999999 = true := by simpa using h
   (first | refine ak.at (mf n hn) ⟨leA, trivial⟩ ?_ | refine aj.at (mf n hn) ⟨leA, trivial⟩ ?_)
   (repeat ((repeat1' (first | simp -implicitDefEqProofs -dsimp only [go_sem] | simp -dsimp (disch := omega) only [wrap_i64])); repeat (with_reducible refine ah ?_)))
   exact al.ax (by rw [h']; rfl) (by rfl)
theorem q7 (n : Int) (hn : iq n) {w : World} (hgl : GL w (fun _ => False)) : Calls Tryz.prog 199 #[.int .i64 n] w fun e w' =>
   e = .returned (.tuple #[.string (if eb n (-999999) 999999 = true then num n else ⟨#[]⟩), .bool (eb n (-999999) 999999)]) ∧ Ext (fun _ => False) w w' := by
 refine (am2 (aek n hn) hgl rfl (fun i hi => ?_)).mono ?_
 · have e : i = 0 := by simp at hi; omega
   subst e
   exact .int _ _
 · rintro e w' ⟨v, rfl, hE, hR⟩
   refine ⟨?_, hE⟩
   cases hR with
   | tup a a' ha hra =>
     have h0 := hra 0 (by simp)
     have h1 := hra 1 (by simp)
     simp only [List.getElem_cons_zero, List.getElem_cons_succ] at h0 h1
     match a, ha with
     | ⟨[x, y]⟩, _ =>
       have e0 : (⟨[x, y]⟩ : Array Value).getD 0 Go.undef = x := rfl
       have e1 : (⟨[x, y]⟩ : Array Value).getD 1 Go.undef = y := rfl
       rw [e0] at h0
       rw [e1] at h1
       generalize (if eb n (-999999) 999999 = true then num n else (⟨#[]⟩ : ByteArray)) = tx at *
       generalize eb n (-999999) 999999 = bx at *
       cases h0
       cases h1
       rfl
theorem ag5 (s : ByteArray) (hs : s.size ≤ 281474976710656) {w : World} (hgl : GL w (fun _ => False)) : Calls Tryz.prog 146 #[.string s] w fun e w' =>
   e = .returned (.tuple #[.int .i64 ((cq s).getD 0), .bool (cq s).isSome]) ∧ Ext (fun _ => False) w w' := by
 by_cases hl : s.size ≤ 7
 rotate_left
 · have hno : cq s = none := by
     cases h : cq s with
     | none => rfl
     | some n => exact absurd (akc h) hl
   have hd : decide ((s.size : Int) > 7) = true := decide_eq_true (by omega)
   rw [hno]
   go_enter Tryz.func146, Tryz.ntmps146
   go_wp2
   go_ret2
   exact ⟨rfl, Ext.refl _ _⟩
 have hd : decide ((s.size : Int) > 7) = false := decide_eq_false (by omega)
 cases ha : Lib.atoiAll s.data.toList with
 | range =>
   exfalso
   rw [Lib.atoiAll_short _ (by have := e8 s; omega)] at ha
   cases hx : Lib.atoi s.data.toList <;> rw [hx] at ha <;> cases ha
 | ok v =>
   obtain ⟨vb0, vb1⟩ := Lib.atoiAll_bounds ha
   have hvi : iq v := ⟨vb0, vb1⟩
   have hun : ∀ n, x5 s n → n = v := fun n hn => by
     have := yr (n := n) (by have := hn.1; omega) (by have := hn.2.1; omega)
     rw [hn.2.2, ha] at this
     injection this with this
     exact this.symm
   have hW : ∀ W1, (W1 = w ∨ ∃ t, W1 = Lib.bytesWorld w 5 t) → Ext (fun _ => False) w W1 := by
     rintro W1 (rfl | ⟨t, rfl⟩)
     · exact Ext.refl _ _
     · exact aam (Lib.bytesWorld_below _ _ _)
   cases hin : eb v (-999999) 999999 with
   | false =>
     have hno : cq s = none := po (fun n hn => by
       have h1 := hun n hn
       subst h1
       have : eb n (-999999) 999999 = true := fh.2 ⟨hn.1, hn.2.1⟩
       rw [hin] at this
       cases this)
     have hF := fun {W : World} (h : GL W (fun _ => False)) => q7 v hvi h
     simp only [hin] at hF
     rw [hno]
     go_enter Tryz.func146, Tryz.ntmps146
     go_wp2_with (go_at_call 132; refine (Tryz.strconv_Atoi_ok s (by omega) v ha _).mono ?_; rintro e W1 ⟨rfl, hw1⟩)
     have hE1 := hW W1 hw1
     go_wp2_with (go_at_call 199; refine (hF (agv hgl hE1)).mono ?_; rintro e W2 ⟨rfl, hE⟩)
     go_wp2
     go_ret2
     exact ⟨rfl, hE1.trans hE⟩
   | true =>
     have hF := fun {W : World} (h : GL W (fun _ => False)) => q7 v hvi h
     simp only [hin, if_true] at hF
     by_cases hq : num v = s
     · have hp : x5 s v := ⟨(fh.1 hin).1, (fh.1 hin).2, hq⟩
       rw [ac2 hp]
       rw [hq] at hF
       go_enter Tryz.func146, Tryz.ntmps146
       go_wp2_with (go_at_call 132; refine (Tryz.strconv_Atoi_ok s (by omega) v ha _).mono ?_; rintro e W1 ⟨rfl, hw1⟩)
       have hE1 := hW W1 hw1
       go_wp2_with (go_at_call 199; refine (hF (agv hgl hE1)).mono ?_; rintro e W2 ⟨rfl, hE⟩)
       go_wp2
       go_ret2
       exact ⟨rfl, hE1.trans hE⟩
     · have hno : cq s = none := po (fun n hn => by
         have h1 := hun n hn
         subst h1
         exact hq hn.2.2)
       have hq2 : ((num v).toList == s.toList) = false := by rw [gg]; exact decide_eq_false hq
       rw [hno]
       go_enter Tryz.func146, Tryz.ntmps146
       go_wp2_with (go_at_call 132; refine (Tryz.strconv_Atoi_ok s (by omega) v ha _).mono ?_; rintro e W1 ⟨rfl, hw1⟩)
       have hE1 := hW W1 hw1
       go_wp2_with (go_at_call 199; refine (hF (agv hgl hE1)).mono ?_; rintro e W2 ⟨rfl, hE⟩)
       go_wp2
       all_goals first | (go_ret2; exact ⟨rfl, hE1.trans hE⟩) | (exfalso; simp_all; done)
 | _ =>
   have hno : cq s = none := po (fun n hn => by
     have := yr (n := n) (by have := hn.1; omega) (by have := hn.2.1; omega)
     rw [hn.2.2, ha] at this
     cases this)
   obtain ⟨ev, hv, hev⟩ := hgl.var (g := 3) (e := true) (by simp [afo])
   rw [hno]
   go_enter Tryz.func146, Tryz.ntmps146
   go_wp2_with (go_at_call 132; refine (Tryz.strconv_Atoi_syntax s hs ha (by intro h; cases h) (by intro v h; cases h) ev _ hv hev).mono ?_; rintro e W1 ⟨N, rfl, hN1, hN2, hb⟩)
   have hE1 : Ext (fun _ => False) w W1 := aam hb
   go_wp2_with (go_at_call 199; refine (q7 0 ⟨by omega, by omega⟩ (agv hgl hE1)).mono ?_; rintro e W2 ⟨rfl, hE⟩)
   go_wp2
   go_ret2
   exact ⟨rfl, hE1.trans hE⟩
theorem x6 (s : ByteArray) (hs : s.size ≤ 281474976710656) : Ctr Tryz.prog 146 [.str s] [] (jj s) [] := by
 refine ⟨Tryz.axp, fun w vs m av hH hav hgl hsz ha => ?_⟩
 obtain ⟨v, rfl⟩ : ∃ v, vs = #[v] := by
   match vs, hsz with
   | ⟨[v]⟩, _ => exact ⟨v, rfl⟩
 have h0 := ha 0 (by simp)
 simp only [List.getElem_cons_zero] at h0
 obtain rfl : v = .string s := by
   simp at h0; cases h0; rfl
 refine (ag5 s hs (hgl.mono (fun b hb => hb.elim))).mono ?_
 rintro e w' ⟨rfl, hE⟩
 refine ⟨_, m, rfl, hE.mono (fun b _ h => h.elim), acn, ?_, fun id cs h => by simp at h⟩
 refine .tup _ _ rfl (fun i hi => ?_)
 match i, hi with
 | 0, _ => exact .int _ _
 | 1, _ => exact .bool _
theorem afa {s : ByteArray} {n : Int} (h : x5 s n) : s.data.toList = if n < 0 then 45 :: Lib.decDigits n.natAbs else Lib.decDigits n.toNat := by
 rw [← h.2.2]
 show Lib.itoa n = _
 rfl
theorem a4n {u : Nat} {l : List UInt8} {c : UInt8} (h : Lib.decDigits u = c :: l) : (c == 45) = false := by
 have := (tt (u + 1) u (by omega)).1
 rw [h] at this
 simp only [List.all_cons, Bool.and_eq_true, fq, decide_eq_true_eq] at this
 rw [beq_eq_false_iff_ne]
 intro e
 subst e
 have : (45 : UInt8).toNat = 45 := rfl
 omega
theorem asf : ∀ (l : List UInt8) (n : Nat), l.all fq = true → jl n l + 1 ≤ (n + 1) * 10 ^ l.length := by
 intro l
 induction l with
 | nil => intro n _; rw [kh]; simp
 | cons c l ih =>
   intro n h
   simp only [List.all_cons, Bool.and_eq_true] at h
   have h1 := ih (adz n c) h.2
   have h2 := h.1
   simp only [fq, Bool.and_eq_true, decide_eq_true_eq] at h2
   rw [kz, List.length_cons, Nat.pow_succ]
   have h3 : adz n c + 1 ≤ (n + 1) * 10 := by rw [nj]; omega
   have h4 := Nat.mul_le_mul_right (10 ^ l.length) h3
   have e : (n + 1) * (10 ^ l.length * 10) = (n + 1) * 10 * 10 ^ l.length := by rw [Nat.mul_comm (10 ^ l.length) 10, ← Nat.mul_assoc]
   omega
theorem kq {l : List UInt8} (h : l.all fq = true) (hl : l.length ≤ 6) : jl 0 l ≤ 999999 := by
 have h1 := asf l 0 h
 have h2 : (10 : Nat) ^ l.length ≤ 10 ^ 6 := Nat.pow_le_pow_right (by decide) hl
 omega
structure ph (s t : ByteArray) : Prop where
 rd : ∀ n, x5 s n → t.data.toList = Lib.decDigits n.natAbs ∧ (n < 0 ↔ t.size < s.size)
 le : t.size ≤ s.size
theorem aki {s : ByteArray} (h1 : 1 < s.size) (h2 : (s[0]'(by omega) == 45) = true) : ph s (s.extract 1 s.size) := by
 have e0 : s.data.toList = s[0]'(by omega) :: s.data.toList.drop 1 := by
   have := List.drop_eq_getElem_cons (l := s.data.toList) (i := 0) (by rw [e8]; omega)
   rw [List.drop_zero, lj s (by omega)] at this
   exact this
 have et : (s.extract 1 s.size).data.toList = s.data.toList.drop 1 := by
   have hl : s.data.toList.length = s.size := e8 s
   rw [dx, ← hl, List.take_length]
 refine ⟨fun n hn => ?_, by rw [ByteArray.size_extract]; omega⟩
 have hL := afa hn
 split at hL
 · rename_i hneg
   rw [et, hL]
   refine ⟨rfl, fun _ => by rw [ByteArray.size_extract]; omega, fun _ => hneg⟩
 · exfalso
   rw [e0] at hL
   have := a4n hL.symm
   rw [h2] at this
   cases this
theorem afl {s : ByteArray} (h : s.size ≤ 1 ∨ ∃ h1 : 1 < s.size, (s[0]'(by omega) == 45) = false) : ph s s := by
 refine ⟨fun n hn => ?_, Nat.le_refl _⟩
 have hL := afa hn
 have hl : s.data.toList.length = s.size := e8 s
 split at hL
 · rename_i hneg
   exfalso
   have hd := (tt (n.natAbs + 1) n.natAbs (by omega)).2.2
   have h3 : 0 < (Lib.decDigits n.natAbs).length := List.length_pos_iff.2 hd
   have h4 : s.size = (Lib.decDigits n.natAbs).length + 1 := by rw [← hl, hL, List.length_cons]
   rcases h with h | ⟨h1, h2⟩
   · omega
   · have e0 : s.data.toList = s[0]'(by omega) :: s.data.toList.drop 1 := by
       have := List.drop_eq_getElem_cons (l := s.data.toList) (i := 0) (by rw [e8]; omega)
       rw [List.drop_zero, lj s (by omega)] at this
       exact this
     rw [e0] at hL
     injection hL with hL _
     rw [hL] at h2
     cases h2
 · rename_i hneg
   rw [hL]
   have e : n.toNat = n.natAbs := by omega
   rw [e]
   exact ⟨rfl, fun h => absurd h hneg, fun h => by omega⟩
theorem ph.no {s t : ByteArray} (h : ph s t) (hb : ¬ (1 ≤ t.size ∧ t.size ≤ 6) ∨ t.data.toList.all fq = false) : cq s = none := po (fun n hn => by
 obtain ⟨h1, _⟩ := h.rd n hn
 obtain ⟨d1, _, d3⟩ := tt (n.natAbs + 1) n.natAbs (by omega)
 rcases hb with hb | hb
 · have h2 : 0 < (Lib.decDigits n.natAbs).length := List.length_pos_iff.2 d3
   have h3 := ab4 5 n.natAbs (by have := hn.1; have := hn.2.1; omega)
   rw [← h1, e8] at h2 h3
   omega
 · rw [h1, d1] at hb; cases hb)
def aat (s t : ByteArray) (u : Nat) : Int := if t.size < s.size then -(u : Int) else u
theorem ph.yes {s t : ByteArray} (h : ph s t) (hd : t.data.toList.all fq = true) (h6 : t.size ≤ 6) (hq : num (aat s t (jl 0 t.data.toList)) = s) : cq s = some (aat s t (jl 0 t.data.toList)) := by
 have hb := kq hd (by rw [e8]; exact h6)
 refine ac2 ⟨?_, ?_, hq⟩ <;> (unfold aat; split <;> omega)
theorem ph.not {s t : ByteArray} (h : ph s t) (hq : ¬ num (aat s t (jl 0 t.data.toList)) = s) : cq s = none := po (fun n hn => by
 obtain ⟨h1, h2⟩ := h.rd n hn
 obtain ⟨_, d2, _⟩ := tt (n.natAbs + 1) n.natAbs (by omega)
 apply hq
 rw [h1, d2, ← hn.2.2]
 congr 1
 unfold aat
 have e : (num n).size = s.size := by rw [hn.2.2]
 split
 · rename_i h3
   have := h2.2 (by omega)
   omega
 · rename_i h3
   have : ¬ n < 0 := fun h4 => h3 (by have := h2.1 h4; omega)
   omega)
theorem aoc (s : ByteArray) (hs : s.size ≤ 281474976710656) : Ctr Tryz.prog 211 [.str s] [] (jj s) [] := by
 refine Ctr.intro Tryz.mixed Tryz.func211 rfl Tryz.aw2 ?_
 simp -implicitDefEqProofs -dsimp only [go_sem, Tryz.ntmps211, Tryz.results211]
 refine a8.bu (fun g0 => ?_) (fun g0 => ?_) <;> (repeat ((repeat1' (first | simp -implicitDefEqProofs -dsimp only [go_sem, g0] | simp -dsimp (disch := omega) only [wrap_i64])); repeat (with_reducible refine ah ?_)))
 · have hs1 : 1 < s.size := by simp at g0; omega
   have hbb : (s[0]'(by omega) == 45) = (((s[0]'(by omega)).toNat : Int) == 45) := by
     rw [Bool.eq_iff_iff]; simp only [beq_iff_eq]
     constructor
     · intro g; rw [g]; rfl
     · intro g; exact UInt8.toNat_inj.1 (by have : (45 : UInt8).toNat = 45 := rfl; omega)
   refine ⟨by omega, ?_⟩
   refine bd.split (fun g2 => ?_) (fun g2 => ?_)
   · have hB : ph s (s.extract 1 s.size) := aki hs1 (by rw [hbb]; exact g2)
     (repeat ((repeat1' (first | simp -implicitDefEqProofs -dsimp only [go_sem, g2] | simp -dsimp (disch := omega) only [wrap_i64])); repeat (with_reducible refine ah ?_)))
     have hts := hB.le
     (repeat ((repeat1' (first | simp -implicitDefEqProofs -dsimp only [go_sem] | simp -dsimp (disch := omega) only [wrap_i64])); repeat (with_reducible refine ah ?_)))
     (have ct := ff ((s.extract 1 s.size).size : Int) 1 6; (first | refine ak.at ct ⟨leA, leA, leA, trivial⟩ ?_ | refine aj.at ct ⟨leA, leA, leA, trivial⟩ ?_); clear ct)
     (repeat ((repeat1' (first | simp -implicitDefEqProofs -dsimp only [go_sem] | simp -dsimp (disch := omega) only [wrap_i64])); repeat (with_reducible refine ah ?_)))
     refine bd.split (fun g1 => ?_) (fun g1 => ?_) <;> (repeat ((repeat1' (first | simp -implicitDefEqProofs -dsimp only [go_sem, g1] | simp -dsimp (disch := omega) only [wrap_i64])); repeat (with_reducible refine ah ?_)))
     · have hr : ¬ (1 ≤ (s.extract 1 s.size).size ∧ (s.extract 1 s.size).size ≤ 6) := by
         have : eb ((s.extract 1 s.size).size : Int) 1 6 = false := by simpa using g1
         intro hx
         have h2 : eb ((s.extract 1 s.size).size : Int) 1 6 = true := fh.2 ⟨by omega, by omega⟩
         rw [this] at h2; cases h2
       rw [jj, hB.no (.inl hr)]
       exact al.ax rfl (by rfl)
     have hr : eb ((s.extract 1 s.size).size : Int) 1 6 = true := by simpa using g1
     have hr2 := fh.1 hr
     have hl : (s.extract 1 s.size).data.toList.length = (s.extract 1 s.size).size := e8 (s.extract 1 s.size)
     have hl6 : (s.extract 1 s.size).size ≤ 6 := by omega
     refine cw.intro (fun i : Nat => i ≤ (s.extract 1 s.size).size ∧ ((s.extract 1 s.size).data.toList.take i).all fq = true) (fun i => ⟨[.str s, .undef, .undef, .undef, .str (s.extract 1 s.size), .int .i64 (jl 0 ((s.extract 1 s.size).data.toList.take i)), .int .i64 i, .undef, .undef, .undef, .undef, .undef, .undef, .undef, .undef, .undef, .undef, .undef, .undef, .undef, .undef, .undef, .undef, .undef, .undef, .undef, .undef, .undef, .undef, .undef, .undef, .undef, .undef, .undef, .undef, .undef, .undef, .undef, .undef, .undef, .undef, .undef, .undef, .undef, .undef, .undef, .undef, .undef, .undef, .undef, .undef, .undef, .undef, .undef, .undef, .undef, .undef, .undef], [], 0⟩) (fun i => (s.extract 1 s.size).size - i) 0 ⟨Nat.zero_le _, rfl⟩ ?_ (fun i hi => ?_)
     · refine br.cut (0) (by simp) (by simp) ?_ ?_
       · simp [LeC, LeV, ren, bm, kh]
       · rfl
     simp -implicitDefEqProofs -dsimp only [go_sem]
     refine bd.split (fun h1 => ?_) (fun h1 => ?_)
     · have hi' : i < (s.extract 1 s.size).size := by simpa using h1
       have hsm := kq hi.2 (by rw [List.length_take]; omega)
       have hst : (s.extract 1 s.size).data.toList.take (i + 1) = (s.extract 1 s.size).data.toList.take i ++ [(s.extract 1 s.size)[i]'hi'] := by
         rw [List.take_succ_eq_append_getElem (by rw [hl]; exact hi'), lj (s.extract 1 s.size) hi']
       have hbad : fq ((s.extract 1 s.size)[i]'hi') = false → cq s = none := fun hd => hB.no (.inr (by
         rw [List.all_eq_false]
         exact ⟨(s.extract 1 s.size)[i]'hi', by rw [← lj (s.extract 1 s.size) hi']; exact List.getElem_mem _, by simp [hd]⟩))
       simp -implicitDefEqProofs -dsimp only [go_sem, h1]
       refine ⟨⟨by omega, hi'⟩, ?_⟩
       refine a8.ch (fun h2 => ?_) (fun h2 => ?_) <;> simp -implicitDefEqProofs -dsimp only [go_sem, h2]
       · refine ⟨⟨by omega, hi'⟩, ?_⟩
         refine bd.split (fun h3 => ?_) (fun h3 => ?_) <;> simp -implicitDefEqProofs -dsimp only [go_sem, h3]
         · rw [jj, hbad (by simp at h3; simp only [fq, Bool.and_eq_false_iff, decide_eq_false_iff_not]; omega)]
           exact al.ax rfl (by rfl)
         · have hdg : fq ((s.extract 1 s.size)[i]'hi') = true := by simp at h2 h3; simp only [fq, Bool.and_eq_true, decide_eq_true_eq]; omega
           have hdg2 := hdg
           simp only [fq, Bool.and_eq_true, decide_eq_true_eq] at hdg2
           have hvs : jl 0 ((s.extract 1 s.size).data.toList.take (i + 1)) = jl 0 ((s.extract 1 s.size).data.toList.take i) * 10 + (((s.extract 1 s.size)[i]'hi').toNat - 48) := by rw [hst, yn, kz, kh, nj]
           have hw8 : IntKind.u8.wrap ((((s.extract 1 s.size)[i]'hi').toNat : Int) - 48) = (((s.extract 1 s.size)[i]'hi').toNat : Int) - 48 := by rw [IntKind.wrap_u8]; omega
           refine ⟨⟨by omega, hi'⟩, i + 1, ⟨hi', by rw [hst, List.all_append, hi.2]; simp [hdg]⟩, ?_, by omega⟩
           refine br.cut (0) (by simp) (by simp) ?_ ?_
           · rw [hvs, hw8, wrap_i64 (n := 10 * _) (by omega) (by omega), wrap_i64 (n := _ - 48) (by omega) (by omega), wrap_i64 (n := 10 * _ + _) (by omega) (by omega), wrap_i64 (n := (i : Int) + 1) (by omega) (by omega)]
             simp [LeC, LeV, ren, bm]
             try omega
           · rfl
       · rw [jj, hbad (by simp at h2; simp only [fq, Bool.and_eq_false_iff, decide_eq_false_iff_not]; omega)]
         exact al.ax rfl (by rfl)
     · have hi' : i = (s.extract 1 s.size).size := by have := of_decide_eq_false h1; omega
       subst hi'
       have htk : (s.extract 1 s.size).data.toList.take (s.extract 1 s.size).size = (s.extract 1 s.size).data.toList := by rw [← hl, List.take_length]
       simp only [htk] at hi ⊢
       have hsm := kq hi.2 (by omega)
       simp -implicitDefEqProofs -dsimp only [go_sem, h1]
       refine bd.split (fun h2 => ?_) (fun h2 => ?_)
       · have hsg : aat s (s.extract 1 s.size) (jl 0 (s.extract 1 s.size).data.toList) = 0 - ((jl 0 (s.extract 1 s.size).data.toList : Nat) : Int) := by unfold aat; rw [if_pos (by have := of_decide_eq_true h2; omega)]; omega
         (repeat ((repeat1' (first | simp -implicitDefEqProofs -dsimp only [go_sem, h2] | simp -dsimp (disch := omega) only [wrap_i64])); repeat (with_reducible refine ah ?_)))
         (have ct := fi (0 - ((jl 0 (s.extract 1 s.size).data.toList : Nat) : Int)) (by omega) (by omega); (first | refine ak.at ct ⟨leA, trivial⟩ ?_ | refine aj.at ct ⟨leA, trivial⟩ ?_); clear ct)
         rw [← hsg]
         (repeat ((repeat1' (first | simp -implicitDefEqProofs -dsimp only [go_sem, gg] | simp -dsimp (disch := omega) only [wrap_i64])); repeat (with_reducible refine ah ?_)))
         refine bd.split (fun h3 => ?_) (fun h3 => ?_) <;> (repeat ((repeat1' (first | simp -implicitDefEqProofs -dsimp only [go_sem, h3] | simp -dsimp (disch := omega) only [wrap_i64])); repeat (with_reducible refine ah ?_)))
         · rw [jj, hB.not (by simpa using h3)]
           exact al.ax rfl (by rfl)
         · rw [jj, hB.yes hi.2 hl6 (by simpa using h3)]
           exact al.ax (by rw [hsg]; rfl) (by rfl)
       · have hsg : aat s (s.extract 1 s.size) (jl 0 (s.extract 1 s.size).data.toList) = ((jl 0 (s.extract 1 s.size).data.toList : Nat) : Int) := by unfold aat; rw [if_neg (by have := of_decide_eq_false h2; omega)]
         (repeat ((repeat1' (first | simp -implicitDefEqProofs -dsimp only [go_sem, h2] | simp -dsimp (disch := omega) only [wrap_i64])); repeat (with_reducible refine ah ?_)))
         (have ct := fi ((jl 0 (s.extract 1 s.size).data.toList : Nat) : Int) (by omega) (by omega); (first | refine ak.at ct ⟨leA, trivial⟩ ?_ | refine aj.at ct ⟨leA, trivial⟩ ?_); clear ct)
         rw [← hsg]
         (repeat ((repeat1' (first | simp -implicitDefEqProofs -dsimp only [go_sem, gg] | simp -dsimp (disch := omega) only [wrap_i64])); repeat (with_reducible refine ah ?_)))
         refine bd.split (fun h3 => ?_) (fun h3 => ?_) <;> (repeat ((repeat1' (first | simp -implicitDefEqProofs -dsimp only [go_sem, h3] | simp -dsimp (disch := omega) only [wrap_i64])); repeat (with_reducible refine ah ?_)))
         · rw [jj, hB.not (by simpa using h3)]
           exact al.ax rfl (by rfl)
         · rw [jj, hB.yes hi.2 hl6 (by simpa using h3)]
           exact al.ax (by rw [hsg]; rfl) (by rfl)
   · have hB : ph s s := afl (.inr ⟨hs1, by rw [hbb]; exact g2⟩)
     (repeat ((repeat1' (first | simp -implicitDefEqProofs -dsimp only [go_sem, g2] | simp -dsimp (disch := omega) only [wrap_i64])); repeat (with_reducible refine ah ?_)))
     have hts := hB.le
     (repeat ((repeat1' (first | simp -implicitDefEqProofs -dsimp only [go_sem] | simp -dsimp (disch := omega) only [wrap_i64])); repeat (with_reducible refine ah ?_)))
     (have ct := ff (s.size : Int) 1 6; (first | refine ak.at ct ⟨leA, leA, leA, trivial⟩ ?_ | refine aj.at ct ⟨leA, leA, leA, trivial⟩ ?_); clear ct)
     (repeat ((repeat1' (first | simp -implicitDefEqProofs -dsimp only [go_sem] | simp -dsimp (disch := omega) only [wrap_i64])); repeat (with_reducible refine ah ?_)))
     refine bd.split (fun g1 => ?_) (fun g1 => ?_) <;> (repeat ((repeat1' (first | simp -implicitDefEqProofs -dsimp only [go_sem, g1] | simp -dsimp (disch := omega) only [wrap_i64])); repeat (with_reducible refine ah ?_)))
     · have hr : ¬ (1 ≤ s.size ∧ s.size ≤ 6) := by
         have : eb (s.size : Int) 1 6 = false := by simpa using g1
         intro hx
         have h2 : eb (s.size : Int) 1 6 = true := fh.2 ⟨by omega, by omega⟩
         rw [this] at h2; cases h2
       rw [jj, hB.no (.inl hr)]
       exact al.ax rfl (by rfl)
     have hr : eb (s.size : Int) 1 6 = true := by simpa using g1
     have hr2 := fh.1 hr
     have hl : s.data.toList.length = s.size := e8 s
     have hl6 : s.size ≤ 6 := by omega
     refine cw.intro (fun i : Nat => i ≤ s.size ∧ (s.data.toList.take i).all fq = true) (fun i => ⟨[.str s, .undef, .undef, .undef, .str s, .int .i64 (jl 0 (s.data.toList.take i)), .int .i64 i, .undef, .undef, .undef, .undef, .undef, .undef, .undef, .undef, .undef, .undef, .undef, .undef, .undef, .undef, .undef, .undef, .undef, .undef, .undef, .undef, .undef, .undef, .undef, .undef, .undef, .undef, .undef, .undef, .undef, .undef, .undef, .undef, .undef, .undef, .undef, .undef, .undef, .undef, .undef, .undef, .undef, .undef, .undef, .undef, .undef, .undef, .undef, .undef, .undef, .undef, .undef], [], 0⟩) (fun i => s.size - i) 0 ⟨Nat.zero_le _, rfl⟩ ?_ (fun i hi => ?_)
     · refine br.cut (0) (by simp) (by simp) ?_ ?_
       · simp [LeC, LeV, ren, bm, kh]
       · rfl
     simp -implicitDefEqProofs -dsimp only [go_sem]
     refine bd.split (fun h1 => ?_) (fun h1 => ?_)
     · have hi' : i < s.size := by simpa using h1
       have hsm := kq hi.2 (by rw [List.length_take]; omega)
       have hst : s.data.toList.take (i + 1) = s.data.toList.take i ++ [s[i]'hi'] := by
         rw [List.take_succ_eq_append_getElem (by rw [hl]; exact hi'), lj s hi']
       have hbad : fq (s[i]'hi') = false → cq s = none := fun hd => hB.no (.inr (by
         rw [List.all_eq_false]
         exact ⟨s[i]'hi', by rw [← lj s hi']; exact List.getElem_mem _, by simp [hd]⟩))
       simp -implicitDefEqProofs -dsimp only [go_sem, h1]
       refine ⟨⟨by omega, hi'⟩, ?_⟩
       refine a8.ch (fun h2 => ?_) (fun h2 => ?_) <;> simp -implicitDefEqProofs -dsimp only [go_sem, h2]
       · refine ⟨⟨by omega, hi'⟩, ?_⟩
         refine bd.split (fun h3 => ?_) (fun h3 => ?_) <;> simp -implicitDefEqProofs -dsimp only [go_sem, h3]
         · rw [jj, hbad (by simp at h3; simp only [fq, Bool.and_eq_false_iff, decide_eq_false_iff_not]; omega)]
           exact al.ax rfl (by rfl)
         · have hdg : fq (s[i]'hi') = true := by simp at h2 h3; simp only [fq, Bool.and_eq_true, decide_eq_true_eq]; omega
           have hdg2 := hdg
           simp only [fq, Bool.and_eq_true, decide_eq_true_eq] at hdg2
           have hvs : jl 0 (s.data.toList.take (i + 1)) = jl 0 (s.data.toList.take i) * 10 + ((s[i]'hi').toNat - 48) := by rw [hst, yn, kz, kh, nj]
           have hw8 : IntKind.u8.wrap (((s[i]'hi').toNat : Int) - 48) = ((s[i]'hi').toNat : Int) - 48 := by rw [IntKind.wrap_u8]; omega
           refine ⟨⟨by omega, hi'⟩, i + 1, ⟨hi', by rw [hst, List.all_append, hi.2]; simp [hdg]⟩, ?_, by omega⟩
           refine br.cut (0) (by simp) (by simp) ?_ ?_
           · rw [hvs, hw8, wrap_i64 (n := 10 * _) (by omega) (by omega), wrap_i64 (n := _ - 48) (by omega) (by omega), wrap_i64 (n := 10 * _ + _) (by omega) (by omega), wrap_i64 (n := (i : Int) + 1) (by omega) (by omega)]
             simp [LeC, LeV, ren, bm]
             try omega
           · rfl
       · rw [jj, hbad (by simp at h2; simp only [fq, Bool.and_eq_false_iff, decide_eq_false_iff_not]; omega)]
         exact al.ax rfl (by rfl)
     · have hi' : i = s.size := by have := of_decide_eq_false h1; omega
       subst hi'
       have htk : s.data.toList.take s.size = s.data.toList := by rw [← hl, List.take_length]
       simp only [htk] at hi ⊢
       have hsm := kq hi.2 (by omega)
       simp -implicitDefEqProofs -dsimp only [go_sem, h1]
       have hsg : aat s s (jl 0 s.data.toList) = ((jl 0 s.data.toList : Nat) : Int) := by unfold aat; rw [if_neg (by omega)]
       (have ct := fi ((jl 0 s.data.toList : Nat) : Int) (by omega) (by omega); (first | refine ak.at ct ⟨leA, trivial⟩ ?_ | refine aj.at ct ⟨leA, trivial⟩ ?_); clear ct)
       rw [← hsg]
       (repeat ((repeat1' (first | simp -implicitDefEqProofs -dsimp only [go_sem, gg] | simp -dsimp (disch := omega) only [wrap_i64])); repeat (with_reducible refine ah ?_)))
       refine bd.split (fun h3 => ?_) (fun h3 => ?_) <;> (repeat ((repeat1' (first | simp -implicitDefEqProofs -dsimp only [go_sem, h3] | simp -dsimp (disch := omega) only [wrap_i64])); repeat (with_reducible refine ah ?_)))
       · rw [jj, hB.not (by simpa using h3)]
         exact al.ax rfl (by rfl)
       · rw [jj, hB.yes hi.2 hl6 (by simpa using h3)]
         exact al.ax (by rw [hsg]; rfl) (by rfl)
 · have hB : ph s s := afl (.inl (by simp at g0; omega))
   have hts := hB.le
   (repeat ((repeat1' (first | simp -implicitDefEqProofs -dsimp only [go_sem] | simp -dsimp (disch := omega) only [wrap_i64])); repeat (with_reducible refine ah ?_)))
   (have ct := ff (s.size : Int) 1 6; (first | refine ak.at ct ⟨leA, leA, leA, trivial⟩ ?_ | refine aj.at ct ⟨leA, leA, leA, trivial⟩ ?_); clear ct)
   (repeat ((repeat1' (first | simp -implicitDefEqProofs -dsimp only [go_sem] | simp -dsimp (disch := omega) only [wrap_i64])); repeat (with_reducible refine ah ?_)))
   refine bd.split (fun g1 => ?_) (fun g1 => ?_) <;> (repeat ((repeat1' (first | simp -implicitDefEqProofs -dsimp only [go_sem, g1] | simp -dsimp (disch := omega) only [wrap_i64])); repeat (with_reducible refine ah ?_)))
   · have hr : ¬ (1 ≤ s.size ∧ s.size ≤ 6) := by
       have : eb (s.size : Int) 1 6 = false := by simpa using g1
       intro hx
       have h2 : eb (s.size : Int) 1 6 = true := fh.2 ⟨by omega, by omega⟩
       rw [this] at h2; cases h2
     rw [jj, hB.no (.inl hr)]
     exact al.ax rfl (by rfl)
   have hr : eb (s.size : Int) 1 6 = true := by simpa using g1
   have hr2 := fh.1 hr
   have hl : s.data.toList.length = s.size := e8 s
   have hl6 : s.size ≤ 6 := by omega
   refine cw.intro (fun i : Nat => i ≤ s.size ∧ (s.data.toList.take i).all fq = true) (fun i => ⟨[.str s, .undef, .undef, .undef, .str s, .int .i64 (jl 0 (s.data.toList.take i)), .int .i64 i, .undef, .undef, .undef, .undef, .undef, .undef, .undef, .undef, .undef, .undef, .undef, .undef, .undef, .undef, .undef, .undef, .undef, .undef, .undef, .undef, .undef, .undef, .undef, .undef, .undef, .undef, .undef, .undef, .undef, .undef, .undef, .undef, .undef, .undef, .undef, .undef, .undef, .undef, .undef, .undef, .undef, .undef, .undef, .undef, .undef, .undef, .undef, .undef, .undef, .undef, .undef], [], 0⟩) (fun i => s.size - i) 0 ⟨Nat.zero_le _, rfl⟩ ?_ (fun i hi => ?_)
   · refine br.cut (0) (by simp) (by simp) ?_ ?_
     · simp [LeC, LeV, ren, bm, kh]
     · rfl
   simp -implicitDefEqProofs -dsimp only [go_sem]
   refine bd.split (fun h1 => ?_) (fun h1 => ?_)
   · have hi' : i < s.size := by simpa using h1
     have hsm := kq hi.2 (by rw [List.length_take]; omega)
     have hst : s.data.toList.take (i + 1) = s.data.toList.take i ++ [s[i]'hi'] := by
       rw [List.take_succ_eq_append_getElem (by rw [hl]; exact hi'), lj s hi']
     have hbad : fq (s[i]'hi') = false → cq s = none := fun hd => hB.no (.inr (by
       rw [List.all_eq_false]
       exact ⟨s[i]'hi', by rw [← lj s hi']; exact List.getElem_mem _, by simp [hd]⟩))
     simp -implicitDefEqProofs -dsimp only [go_sem, h1]
     refine ⟨⟨by omega, hi'⟩, ?_⟩
     refine a8.ch (fun h2 => ?_) (fun h2 => ?_) <;> simp -implicitDefEqProofs -dsimp only [go_sem, h2]
     · refine ⟨⟨by omega, hi'⟩, ?_⟩
       refine bd.split (fun h3 => ?_) (fun h3 => ?_) <;> simp -implicitDefEqProofs -dsimp only [go_sem, h3]
       · rw [jj, hbad (by simp at h3; simp only [fq, Bool.and_eq_false_iff, decide_eq_false_iff_not]; omega)]
         exact al.ax rfl (by rfl)
       · have hdg : fq (s[i]'hi') = true := by simp at h2 h3; simp only [fq, Bool.and_eq_true, decide_eq_true_eq]; omega
         have hdg2 := hdg
         simp only [fq, Bool.and_eq_true, decide_eq_true_eq] at hdg2
         have hvs : jl 0 (s.data.toList.take (i + 1)) = jl 0 (s.data.toList.take i) * 10 + ((s[i]'hi').toNat - 48) := by rw [hst, yn, kz, kh, nj]
         have hw8 : IntKind.u8.wrap (((s[i]'hi').toNat : Int) - 48) = ((s[i]'hi').toNat : Int) - 48 := by rw [IntKind.wrap_u8]; omega
         refine ⟨⟨by omega, hi'⟩, i + 1, ⟨hi', by rw [hst, List.all_append, hi.2]; simp [hdg]⟩, ?_, by omega⟩
         refine br.cut (0) (by simp) (by simp) ?_ ?_
         · rw [hvs, hw8, wrap_i64 (n := 10 * _) (by omega) (by omega), wrap_i64 (n := _ - 48) (by omega) (by omega), wrap_i64 (n := 10 * _ + _) (by omega) (by omega), wrap_i64 (n := (i : Int) + 1) (by omega) (by omega)]
           simp [LeC, LeV, ren, bm]
           try omega
         · rfl
     · rw [jj, hbad (by simp at h2; simp only [fq, Bool.and_eq_false_iff, decide_eq_false_iff_not]; omega)]
       exact al.ax rfl (by rfl)
   · have hi' : i = s.size := by have := of_decide_eq_false h1; omega
     subst hi'
     have htk : s.data.toList.take s.size = s.data.toList := by rw [← hl, List.take_length]
     simp only [htk] at hi ⊢
     have hsm := kq hi.2 (by omega)
     simp -implicitDefEqProofs -dsimp only [go_sem, h1]
     have hsg : aat s s (jl 0 s.data.toList) = ((jl 0 s.data.toList : Nat) : Int) := by unfold aat; rw [if_neg (by omega)]
     (have ct := fi ((jl 0 s.data.toList : Nat) : Int) (by omega) (by omega); (first | refine ak.at ct ⟨leA, trivial⟩ ?_ | refine aj.at ct ⟨leA, trivial⟩ ?_); clear ct)
     rw [← hsg]
     (repeat ((repeat1' (first | simp -implicitDefEqProofs -dsimp only [go_sem, gg] | simp -dsimp (disch := omega) only [wrap_i64])); repeat (with_reducible refine ah ?_)))
     refine bd.split (fun h3 => ?_) (fun h3 => ?_) <;> (repeat ((repeat1' (first | simp -implicitDefEqProofs -dsimp only [go_sem, h3] | simp -dsimp (disch := omega) only [wrap_i64])); repeat (with_reducible refine ah ?_)))
     · rw [jj, hB.not (by simpa using h3)]
       exact al.ax rfl (by rfl)
     · rw [jj, hB.yes hi.2 hl6 (by simpa using h3)]
       exact al.ax (by rw [hsg]; rfl) (by rfl)
end Go.Proofs
end
section
set_option maxRecDepth 100000
namespace Go.Proofs
open Go.Lv
structure az where
 Station : Int
 Up : Bool
 Since : Int
def az.cs (r : az) : List V := [.int .i64 r.Station, .bool r.Up, .int .i64 r.Since]
def az.v (r : az) : V := .agg [.int .i64 r.Station, .bool r.Up, .int .i64 r.Since]
theorem az.csl (a : az) : a.cs.length = 3 := rfl
theorem az.csp (a : az) : a.cs.all (cc 2) = true := rfl
instance : nf az.cs 3 := ⟨fun _ => rfl, fun _ d => by cases d <;> rfl, fun _ => rfl, fun _ => rfl⟩
def az.ok (r : az) : Prop := iq r.Station ∧ iq r.Since
abbrev az.rows (L : List az) : List V := Go.Lv.rows az.cs L
abbrev az.sl (L : List az) : V := .sl L.length 3 (Go.Lv.rows az.cs L)
abbrev az.zs : List V := [.int .i64 0, .bool false, .int .i64 0]
def az.mk1 (k : Int) : az := ⟨k, ((k + 1).tmod 3 == 0), k + 1 + 1⟩
def az.marks (k : Int) (n : Nat) : List az := (List.range n).map fun i : Nat => az.mk1 (k + 3 * (i : Int))
@[simp] theorem az.dr (k : Int) (n : Nat) : (az.marks k n).length = n := by simp [az.marks]
theorem az.ik (k : Int) (n : Nat) : az.marks k (n + 1) = az.marks k n ++ [az.mk1 (k + 3 * (n : Int))] := by simp [az.marks, List.range_succ]
theorem az.jf (k : Int) (n : Nat) {i : Nat} (hi : i < (az.marks k n).length) : (az.marks k n)[i] = az.mk1 (k + 3 * (i : Int)) := by simp [az.marks]
theorem afd (r : az) : Ctr Tryz.prog 218 [r.v] [] r.v [] := by
 refine Ctr.intro Tryz.mixed Tryz.func218 rfl Tryz.avu ?_
 simp -implicitDefEqProofs -dsimp only [go_sem, Tryz.ntmps218, Tryz.results218]
 simp -implicitDefEqProofs -dsimp only [go_sem, az.v]
 exact al.ax rfl rfl
theorem ac6 (L : List az) (hl : L.length ≤ 1048576) : Ctr Tryz.prog 173 [az.sl L] [] (.osl 0 0 L.length 3) [some (rows az.cs L)] := by
 refine Ctr.intro Tryz.mixed Tryz.func173 rfl Tryz.axy ?_
 simp -implicitDefEqProofs -dsimp only [go_sem, Tryz.ntmps173, Tryz.results173]
 refine ⟨by omega, by omega, by omega, ?_⟩
 refine cw.intro (fun i : Nat => i ≤ L.length) (fun i => ⟨[az.sl L, .undef, .undef, .osl 0 0 L.length 3, .int .i64 i, .undef, .undef, .undef, .undef, .undef, .undef, .undef, .undef, .undef, .undef, .undef, .undef, .undef, .undef, .undef, .undef, .undef, .undef], [some (filled az.cs 3 az.zs L i)], 0⟩) (fun i => L.length - i) 0 (Nat.zero_le _) ?_ (fun i hi => ?_)
 · refine br.cut (1) (by simp) (by simp) ?_ ?_
   · simp [LeC, LeV, ren, bm]
   · rw [ur]
     simp only [cb, List.take, List.map]
     rw [gz (y6 rfl (by decide) _)]
 simp -implicitDefEqProofs -dsimp only [go_sem]
 refine bd.split (fun h1 => ?_) (fun h1 => ?_)
 · simp -implicitDefEqProofs -dsimp only [go_sem, h1]
   have hi' : i < L.length := by simpa using h1
   rw [bt az.csl hi']
   refine ⟨by omega, by simp [az.csl], ?_⟩
   (first | refine ak.at (afd L[i]) ⟨.inl rfl, trivial⟩ ?_ | refine aj.at (afd L[i]) ⟨.inl rfl, trivial⟩ ?_)
   simp -implicitDefEqProofs -dsimp only [go_sem, az.v]
   refine ⟨⟨by omega, by omega⟩, by rw [xc az.csl hi]; omega, i + 1, hi', ?_, by omega⟩
   refine br.cut (1) (by simp) (by simp) ?_ ?_
   · rw [wrap_i64 (by omega) (by omega)]
     simp [LeC, LeV, ren, bm]
   · have := ve (zs := az.zs) az.csl rfl hi'
     simp only [az.cs] at this ⊢
     rw [this]
     simp only [cb, List.take, List.map]
     rw [gz (ss (by decide) rfl (fun a => by exact az.csp a))]
 · simp -implicitDefEqProofs -dsimp only [go_sem, h1]
   have hi' : i = L.length := by simp at h1; omega
   subst hi'
   rw [xt az.csl (Nat.le_refl _)]
   exact al.refl _ _ _
theorem mq (L : List az) (n : Int) (hl : L.length ≤ 9223372036854775807) (hn : 0 ≤ n) (hn2 : n ≤ 1048576) : Ctr Tryz.prog 171 [az.sl L, .int .i64 n] [] (.int .i64 (if n < L.length then -1 else n - L.length)) [] := by
 refine Ctr.intro Tryz.mixed Tryz.func171 rfl Tryz.awh ?_
 simp -implicitDefEqProofs -dsimp only [go_sem, Tryz.ntmps171, Tryz.results171]
 rw [wrap_i64 (by omega) (by omega)]
 refine bd.split (fun h1 => ?_) (fun h1 => ?_) <;> simp -implicitDefEqProofs -dsimp only [go_sem, h1]
 · exact al.of_eq (by simp at h1; rw [if_pos (by omega)])
 · exact al.of_eq (by simp at h1; rw [if_neg (by omega)])
theorem afu (r : az) : Ctr Tryz.prog 220 [r.v, r.v] [] (.bool true) [] := by
 refine Ctr.intro Tryz.mixed Tryz.func220 rfl Tryz.ax2 ?_
 simp -implicitDefEqProofs -dsimp only [go_sem, Tryz.ntmps220, Tryz.results220]
 simp -implicitDefEqProofs -dsimp only [go_sem, az.v, bne_self_eq_false, beq_self_eq_true, Bool.not_true]
 exact al.ax rfl rfl
theorem alb (L : List az) (hl : L.length ≤ 281474976710656) : Ctr Tryz.prog 175 [az.sl L, az.sl L] [] (.bool true) [] := by
 refine Ctr.intro Tryz.mixed Tryz.func175 rfl Tryz.axm ?_
 simp -implicitDefEqProofs -dsimp only [go_sem, Tryz.ntmps175, Tryz.results175]
 refine cw.intro (fun i : Nat => i ≤ L.length) (fun i => ⟨[az.sl L, az.sl L, .undef, .undef, .undef, .int .i64 i, .undef, .undef, .undef, .undef, .undef, .undef, .undef, .undef, .undef, .undef, .undef, .undef, .undef, .undef, .undef, .undef, .undef, .undef, .undef, .undef, .undef], [], 0⟩) (fun i => L.length - i) 0 (Nat.zero_le _) ?_ (fun i hi => ?_)
 · refine br.cut (0) (by simp) (by simp) ?_ ?_
   · simp [LeC, LeV, ren, bm]
   · rfl
 simp -implicitDefEqProofs -dsimp only [go_sem]
 refine bd.split (fun h1 => ?_) (fun h1 => ?_)
 · simp -implicitDefEqProofs -dsimp only [go_sem, h1]
   have hi' : i < L.length := by simpa using h1
   rw [bt az.csl hi']
   have h5 := az.csl L[i]
   refine ⟨by kernel_rfl, ⟨by omega, by omega⟩, by omega, ⟨by omega, by omega⟩, by omega, ?_⟩
   (first | refine ak.at (afu L[i]) ⟨.inl rfl, .inl rfl, trivial⟩ ?_ | refine aj.at (afu L[i]) ⟨.inl rfl, .inl rfl, trivial⟩ ?_)
   simp -implicitDefEqProofs -dsimp only [go_sem]
   refine ⟨i + 1, hi', ?_, by omega⟩
   refine br.cut (0) (by simp) (by simp) ?_ ?_
   · rw [wrap_i64 (by omega) (by omega)]
     simp [LeC, LeV, ren, bm]
   · rfl
 · simp -implicitDefEqProofs -dsimp only [go_sem, h1]
   exact al.refl _ _ _
theorem agu (L : List az) (kk : Int) (hl : L.length ≤ 281474976710656) (hk : 0 ≤ kk) (hk2 : kk ≤ 281474976710656) : Ctr Tryz.prog 177 [.osl 0 0 L.length 3, .int .i64 kk] [some (rows az.cs L)] (.int .i64 (kk + 3 * L.length)) [some (rows az.cs (az.marks kk L.length))] := by
 refine Ctr.intro Tryz.mixed Tryz.func177 rfl Tryz.ay7 ?_
 simp -implicitDefEqProofs -dsimp only [go_sem, Tryz.ntmps177, Tryz.results177]
 refine cw.intro (fun i : Nat => i ≤ L.length) (fun i => ⟨[.osl 0 0 L.length 3, .int .i64 (kk + 3 * (i : Int)), .undef, .undef, .undef, .int .i64 i, .undef, .undef, .undef, .undef, .undef, .undef, .undef, .undef, .undef, .undef, .undef, .undef, .undef, .undef, .undef, .undef, .undef, .undef, .undef, .undef, .undef, .undef, .undef, .undef, .undef, .undef, .undef, .undef, .undef, .undef], [some (rows az.cs (az.marks kk i ++ L.drop i))], 1⟩) (fun i => L.length - i) 0 (Nat.zero_le _) ?_ (fun i hi => ?_)
 · refine br.cut (1) (by simp) (by simp) ?_ ?_
   · simp [LeC, LeV, ren, bm]
   · simp only [cb, List.take, List.map]
     rw [gz (ia az.csp _)]
     simp [az.marks]
 simp -implicitDefEqProofs -dsimp only [go_sem]
 refine bd.split (fun h1 => ?_) (fun h1 => ?_)
 · simp -implicitDefEqProofs -dsimp only [go_sem, h1]
   have hi' : i < L.length := by simpa using h1
   have hA : (rows az.cs (az.marks kk i)).length = i * 3 := by rw [je az.csl, az.dr]
   have hB : rows az.cs (az.marks kk i ++ L.drop i) = rows az.cs (az.marks kk i) ++ (az.cs L[i] ++ rows az.cs (L.drop (i + 1))) := by
     rw [cu, List.drop_eq_getElem_cons hi', dq]
   rw [hB]
   have hsp : ∀ (M ns : List V) (j : Nat), ck (rows az.cs (az.marks kk i) ++ M) (i * 3 + j) ns = rows az.cs (az.marks kk i) ++ ck M j ns := fun M ns j => tc hA
   have hsp0 : ∀ (M ns : List V), ck (rows az.cs (az.marks kk i) ++ M) (i * 3) ns = rows az.cs (az.marks kk i) ++ ck M 0 ns := fun M ns => qc hA
   (repeat1' (first | simp -implicitDefEqProofs -dsimp only [go_sem, hsp, hsp0, List.length_append, hA, az.cs] | simp -dsimp (disch := omega) only [wrap_i64]))
   repeat (with_reducible refine ah ?_)
   refine ⟨i + 1, hi', ?_, by omega⟩
   refine br.cut (1) (by simp) (by simp) ?_ ?_
   · simp [LeC, LeV, ren, bm]
     omega
   · have e : rows az.cs (az.marks kk (i + 1) ++ L.drop (i + 1)) = rows az.cs (az.marks kk i) ++ (az.cs (az.mk1 (kk + 3 * (i : Int))) ++ rows az.cs (L.drop (i + 1))) := by
       rw [az.ik, List.append_assoc, cu, cu, vi]
     rw [e]
     simp only [cb, List.take, List.map]
     rw [gz (by rw [List.all_append, ia az.csp]; simp only [List.all_cons, cc, ia az.csp, Bool.and_self])]
     simp [az.cs, az.mk1, Int.add_assoc]
 · simp -implicitDefEqProofs -dsimp only [go_sem, h1]
   have hi' : i = L.length := by simp at h1; omega
   subst hi'
   rw [List.drop_length, List.append_nil]
   exact al.of_eq (by simp)
theorem ahr (n : Nat) (kk : Int) (hl : n ≤ 281474976710656) (hk : 0 ≤ kk) (hk2 : kk ≤ 281474976710656) : Ctr Tryz.prog 179 [az.sl (az.marks kk n), .int .i64 kk] [] (.int .i64 (kk + 3 * n)) [] := by
 refine Ctr.intro Tryz.mixed Tryz.func179 rfl Tryz.azc ?_
 simp -implicitDefEqProofs -dsimp only [go_sem, Tryz.ntmps179, Tryz.results179]
 refine cw.intro (fun i : Nat => i ≤ n) (fun i => ⟨[az.sl (az.marks kk n), .int .i64 (kk + 3 * (i : Int)), .undef, .undef, .undef, .int .i64 i, .undef, .undef, .undef, .undef, .undef, .undef, .undef, .undef, .undef, .undef, .undef, .undef, .undef, .undef, .undef, .undef, .undef, .undef, .undef, .undef, .undef, .undef, .undef, .undef, .undef, .undef, .undef, .undef, .undef, .undef, .undef, .undef, .undef, .undef, .undef, .undef], [], 0⟩) (fun i => n - i) 0 (Nat.zero_le _) ?_ (fun i hi => ?_)
 · refine br.cut (0) (by simp) (by simp) ?_ ?_
   · simp [LeC, LeV, ren, bm]
   · rfl
 simp -implicitDefEqProofs -dsimp only [go_sem]
 refine bd.split (fun h1 => ?_) (fun h1 => ?_)
 · simp -implicitDefEqProofs -dsimp only [go_sem, h1]
   have hi' : i < n := by simpa using h1
   have hr := bt az.csl (L := az.marks kk n) (i := i) (by rw [az.dr]; exact hi')
   rw [az.jf] at hr
   (repeat1' (first | simp -implicitDefEqProofs -dsimp only [go_sem, hr, az.dr, az.cs, az.mk1, bne_self_eq_false, beq_self_eq_true] | simp -dsimp (disch := omega) only [wrap_i64]))
   repeat (with_reducible refine ah ?_)
   refine ⟨i + 1, hi', ?_, by omega⟩
   refine br.cut (0) (by simp) (by simp) ?_ ?_
   · simp [LeC, LeV, ren, bm]
     omega
   · rfl
 · simp -implicitDefEqProofs -dsimp only [go_sem, h1]
   have hi' : i = n := by simp at h1; omega
   subst hi'
   exact al.of_eq (by simp)
theorem sg (L : List az) (p : az → Bool) (key : az → Int) (most : Int) (fv fk : Nat) (vc kc : List V) (hvc : ∀ d, vc.all (cc d) = true) (hkc : ∀ d, kc.all (cc d) = true) (hv : ∀ x, Ctr Tryz.prog fv (az.v x :: vc) [] (.bool (p x)) []) (hkey : ∀ x, Ctr Tryz.prog fk (az.v x :: kc) [] (.int .i64 (key x)) []) (m : Nat) (hm : most = m) (hl : L.length ≤ 281474976710656) :
   Ctr Tryz.prog 167 [az.sl L, .int .i64 most, .fn (.func fv) [] vc, .fn (.func fk) [] kc] [] (.bool (gh p key m L)) [] := by
 subst hm
 refine Ctr.intro Tryz.mixed Tryz.func167 rfl Tryz.awc ?_
 simp -implicitDefEqProofs -dsimp only [go_sem, Tryz.ntmps167, Tryz.results167]
 have hvc2 : ∀ f d, vc.map (ren f d) = vc := fun f d => oo f (hvc d)
 have hkc2 : ∀ f d, kc.map (ren f d) = kc := fun f d => oo f (hkc d)
 refine cw.intro (fun i : Nat => i ≤ L.length ∧ (List.range i).all (fw p key L) = true) (fun i => ⟨[az.sl L, .int .i64 m, .fn (.func fv) [] vc, .fn (.func fk) [] kc, .undef, .undef, .undef, .undef, .undef, .undef, .undef, az.sl L, .int .i64 L.length, .int .i64 i, .undef, .undef, .undef, .undef, .undef, .undef, .undef, .undef, .undef, .undef, .undef, .undef, .undef, .undef, .undef, .undef, .undef, .undef, .undef, .undef, .undef, .undef, .undef, .undef, .undef, .undef, .undef, .undef, .undef, .undef], [], 0⟩) (fun i => L.length - i) 0 ⟨Nat.zero_le _, rfl⟩ ?_ (fun i hi => ?_)
 · refine br.cut (0) (by simp) (by simp) ?_ ?_
   · simp [LeC, LeV, ren, bm, hvc2, hkc2]
   · rfl
 simp -implicitDefEqProofs -dsimp only [go_sem]
 refine bd.split (fun h1 => ?_) (fun h1 => ?_)
 · simp -implicitDefEqProofs -dsimp only [go_sem, h1]
   have hi' : i < L.length := by simpa using h1
   have h5 := az.csl L[i]
   have hr := bt az.csl hi'
   (repeat1' (first | simp -implicitDefEqProofs -dsimp only [go_sem, hr, az.cs] | simp -dsimp (disch := omega) only [wrap_i64]))
   repeat (with_reducible refine ah ?_)
   refine ak.intro (hv L[i]) ⟨.inl rfl, kj (hvc2 _ _)⟩ (.inl (by simp only [List.nil_append, List.cons_append, List.all_cons, hvc, Bool.and_true]; rfl)) ⟨ru (hvc 3), rfl⟩ ?_
   simp -implicitDefEqProofs -dsimp only [go_sem]
   refine a8.ch (fun h2 => ?_) (fun h2 => ?_) <;> simp -implicitDefEqProofs -dsimp only [go_sem, h2]
   · have hw : p L[i] = true := by simpa using h2
     refine a8.bu (fun h3 => ?_) (fun h3 => ?_) <;> simp -implicitDefEqProofs -dsimp only [go_sem, h3]
     · obtain ⟨j, rfl⟩ : ∃ j, i = j + 1 := ⟨i - 1, by simp at h3; omega⟩
       have hj : j < L.length := by omega
       refine ak.intro (hkey L[j + 1]) ⟨.inl rfl, kj (hkc2 _ _)⟩ (.inl (by simp only [List.nil_append, List.cons_append, List.all_cons, hkc, Bool.and_true]; rfl)) ⟨ru (hkc 3), rfl⟩ ?_
       have hw1 : IntKind.i64.wrap (((j + 1 : Nat) : Int) - 1) = (j : Int) := by rw [wrap_i64 (by omega) (by omega)]; omega
       have hr2 := bt az.csl hj
       (repeat1' (first | simp -implicitDefEqProofs -dsimp only [go_sem, hw1, hr2, az.cs] | simp -dsimp (disch := omega) only [wrap_i64]))
       repeat (with_reducible refine ah ?_)
       refine ak.intro (hkey L[j]) ⟨.inl rfl, kj (hkc2 _ _)⟩ (.inl (by simp only [List.nil_append, List.cons_append, List.all_cons, hkc, Bool.and_true]; rfl)) ⟨ru (hkc 3), rfl⟩ ?_
       (repeat1' (first | simp -implicitDefEqProofs -dsimp only [go_sem] | simp -dsimp (disch := omega) only [wrap_i64]))
       refine bd.split (fun h4 => ?_) (fun h4 => ?_) <;> simp -implicitDefEqProofs -dsimp only [go_sem, h4]
       · refine al.ax ?_ rfl
         have hq : fw p key L (j + 1) = false := by
           rw [ga hi', hw]
           simp at h4 ⊢
           omega
         rw [jg hi' hq]
       · refine ⟨j + 1 + 1, ⟨hi', fo hi.2 (by rw [ga hi', hw]; simp at h4 ⊢; omega)⟩, ?_, by omega⟩
         refine br.cut (0) (by simp) (by simp) ?_ ?_
         · rw [wrap_i64 (by omega) (by omega)]
           simp [LeC, LeV, ren, bm, hvc2, hkc2]
         · rfl
     · have h0 : i = 0 := by simp at h3; omega
       refine ⟨i + 1, ⟨hi', fo hi.2 (by subst h0; rw [j3 hi', hw])⟩, ?_, by omega⟩
       refine br.cut (0) (by simp) (by simp) ?_ ?_
       · rw [wrap_i64 (by omega) (by omega)]
         simp [LeC, LeV, ren, bm, hvc2, hkc2]
       · rfl
   · have hw : p L[i] = false := by simpa using h2
     refine al.ax ?_ rfl
     have hq : fw p key L i = false := by simp [fw, hi', hw]
     rw [jg hi' hq]
 · simp -implicitDefEqProofs -dsimp only [go_sem, h1]
   refine al.ax ?_ rfl
   have : i = L.length := by simp at h1; omega
   subst this
   rw [gh, hi.2]
   simp
   try omega
end Go.Proofs
end
section
set_option maxRecDepth 100000
namespace Go.Proofs
open Go.Lv
structure an where
 Number : Int
 State : Int
 Seen : Int
 Size : Int
 Tick : Int
def an.cs (r : an) : List V := [.int .i64 r.Number, .int .i64 r.State, .int .i64 r.Seen, .int .i64 r.Size, .int .i64 r.Tick]
def an.v (r : an) : V := .agg [.int .i64 r.Number, .int .i64 r.State, .int .i64 r.Seen, .int .i64 r.Size, .int .i64 r.Tick]
theorem an.csl (a : an) : a.cs.length = 5 := rfl
theorem an.csp (a : an) : a.cs.all (cc 2) = true := rfl
instance : nf an.cs 5 := ⟨fun _ => rfl, fun _ d => by cases d <;> rfl, fun _ => rfl, fun _ => rfl⟩
def an.ok (r : an) : Prop := iq r.Number ∧ iq r.State ∧ iq r.Seen ∧ iq r.Size ∧ iq r.Tick
abbrev an.rows (L : List an) : List V := Go.Lv.rows an.cs L
abbrev an.sl (L : List an) : V := .sl L.length 5 (Go.Lv.rows an.cs L)
abbrev an.zs : List V := [.int .i64 0, .int .i64 0, .int .i64 0, .int .i64 0, .int .i64 0]
def an.mk1 (k : Int) : an := ⟨k, k + 1, k + 1 + 1, k + 1 + 1 + 1, k + 1 + 1 + 1 + 1⟩
def an.marks (k : Int) (n : Nat) : List an := (List.range n).map fun i : Nat => an.mk1 (k + 5 * (i : Int))
@[simp] theorem an.dr (k : Int) (n : Nat) : (an.marks k n).length = n := by simp [an.marks]
theorem an.ik (k : Int) (n : Nat) : an.marks k (n + 1) = an.marks k n ++ [an.mk1 (k + 5 * (n : Int))] := by simp [an.marks, List.range_succ]
theorem an.jf (k : Int) (n : Nat) {i : Nat} (hi : i < (an.marks k n).length) : (an.marks k n)[i] = an.mk1 (k + 5 * (i : Int)) := by simp [an.marks]
theorem aed (r : an) : Ctr Tryz.prog 219 [r.v] [] r.v [] := by
 refine Ctr.intro Tryz.mixed Tryz.func219 rfl Tryz.avw ?_
 simp -implicitDefEqProofs -dsimp only [go_sem, Tryz.ntmps219, Tryz.results219]
 simp -implicitDefEqProofs -dsimp only [go_sem, an.v]
 exact al.ax rfl rfl
theorem aa6 (L : List an) (hl : L.length ≤ 1048576) : Ctr Tryz.prog 174 [an.sl L] [] (.osl 0 0 L.length 5) [some (rows an.cs L)] := by
 refine Ctr.intro Tryz.mixed Tryz.func174 rfl Tryz.av5 ?_
 simp -implicitDefEqProofs -dsimp only [go_sem, Tryz.ntmps174, Tryz.results174]
 refine ⟨by omega, by omega, by omega, ?_⟩
 refine cw.intro (fun i : Nat => i ≤ L.length) (fun i => ⟨[an.sl L, .undef, .undef, .osl 0 0 L.length 5, .int .i64 i, .undef, .undef, .undef, .undef, .undef, .undef, .undef, .undef, .undef, .undef, .undef, .undef, .undef, .undef, .undef, .undef, .undef, .undef], [some (filled an.cs 5 an.zs L i)], 0⟩) (fun i => L.length - i) 0 (Nat.zero_le _) ?_ (fun i hi => ?_)
 · refine br.cut (1) (by simp) (by simp) ?_ ?_
   · simp [LeC, LeV, ren, bm]
   · rw [ur]
     simp only [cb, List.take, List.map]
     rw [gz (y6 rfl (by decide) _)]
 simp -implicitDefEqProofs -dsimp only [go_sem]
 refine bd.split (fun h1 => ?_) (fun h1 => ?_)
 · simp -implicitDefEqProofs -dsimp only [go_sem, h1]
   have hi' : i < L.length := by simpa using h1
   rw [bt an.csl hi']
   refine ⟨by omega, by simp [an.csl], ?_⟩
   (first | refine ak.at (aed L[i]) ⟨.inl rfl, trivial⟩ ?_ | refine aj.at (aed L[i]) ⟨.inl rfl, trivial⟩ ?_)
   simp -implicitDefEqProofs -dsimp only [go_sem, an.v]
   refine ⟨⟨by omega, by omega⟩, by rw [xc an.csl hi]; omega, i + 1, hi', ?_, by omega⟩
   refine br.cut (1) (by simp) (by simp) ?_ ?_
   · rw [wrap_i64 (by omega) (by omega)]
     simp [LeC, LeV, ren, bm]
   · have := ve (zs := an.zs) an.csl rfl hi'
     simp only [an.cs] at this ⊢
     rw [this]
     simp only [cb, List.take, List.map]
     rw [gz (ss (by decide) rfl (fun a => by exact an.csp a))]
 · simp -implicitDefEqProofs -dsimp only [go_sem, h1]
   have hi' : i = L.length := by simp at h1; omega
   subst hi'
   rw [xt an.csl (Nat.le_refl _)]
   exact al.refl _ _ _
theorem qe (L : List an) (n : Int) (hl : L.length ≤ 9223372036854775807) (hn : 0 ≤ n) (hn2 : n ≤ 1048576) : Ctr Tryz.prog 172 [an.sl L, .int .i64 n] [] (.int .i64 (if n < L.length then -1 else n - L.length)) [] := by
 refine Ctr.intro Tryz.mixed Tryz.func172 rfl Tryz.ayb ?_
 simp -implicitDefEqProofs -dsimp only [go_sem, Tryz.ntmps172, Tryz.results172]
 rw [wrap_i64 (by omega) (by omega)]
 refine bd.split (fun h1 => ?_) (fun h1 => ?_) <;> simp -implicitDefEqProofs -dsimp only [go_sem, h1]
 · exact al.of_eq (by simp at h1; rw [if_pos (by omega)])
 · exact al.of_eq (by simp at h1; rw [if_neg (by omega)])
theorem adq (r : an) : Ctr Tryz.prog 221 [r.v, r.v] [] (.bool true) [] := by
 refine Ctr.intro Tryz.mixed Tryz.func221 rfl Tryz.av1 ?_
 simp -implicitDefEqProofs -dsimp only [go_sem, Tryz.ntmps221, Tryz.results221]
 simp -implicitDefEqProofs -dsimp only [go_sem, an.v, bne_self_eq_false, beq_self_eq_true, Bool.not_true]
 exact al.ax rfl rfl
theorem air (L : List an) (hl : L.length ≤ 281474976710656) : Ctr Tryz.prog 176 [an.sl L, an.sl L] [] (.bool true) [] := by
 refine Ctr.intro Tryz.mixed Tryz.func176 rfl Tryz.av8 ?_
 simp -implicitDefEqProofs -dsimp only [go_sem, Tryz.ntmps176, Tryz.results176]
 refine cw.intro (fun i : Nat => i ≤ L.length) (fun i => ⟨[an.sl L, an.sl L, .undef, .undef, .undef, .int .i64 i, .undef, .undef, .undef, .undef, .undef, .undef, .undef, .undef, .undef, .undef, .undef, .undef, .undef, .undef, .undef, .undef, .undef, .undef, .undef, .undef, .undef], [], 0⟩) (fun i => L.length - i) 0 (Nat.zero_le _) ?_ (fun i hi => ?_)
 · refine br.cut (0) (by simp) (by simp) ?_ ?_
   · simp [LeC, LeV, ren, bm]
   · rfl
 simp -implicitDefEqProofs -dsimp only [go_sem]
 refine bd.split (fun h1 => ?_) (fun h1 => ?_)
 · simp -implicitDefEqProofs -dsimp only [go_sem, h1]
   have hi' : i < L.length := by simpa using h1
   rw [bt an.csl hi']
   have h5 := an.csl L[i]
   refine ⟨by kernel_rfl, ⟨by omega, by omega⟩, by omega, ⟨by omega, by omega⟩, by omega, ?_⟩
   (first | refine ak.at (adq L[i]) ⟨.inl rfl, .inl rfl, trivial⟩ ?_ | refine aj.at (adq L[i]) ⟨.inl rfl, .inl rfl, trivial⟩ ?_)
   simp -implicitDefEqProofs -dsimp only [go_sem]
   refine ⟨i + 1, hi', ?_, by omega⟩
   refine br.cut (0) (by simp) (by simp) ?_ ?_
   · rw [wrap_i64 (by omega) (by omega)]
     simp [LeC, LeV, ren, bm]
   · rfl
 · simp -implicitDefEqProofs -dsimp only [go_sem, h1]
   exact al.refl _ _ _
theorem aey (L : List an) (kk : Int) (hl : L.length ≤ 281474976710656) (hk : 0 ≤ kk) (hk2 : kk ≤ 281474976710656) : Ctr Tryz.prog 178 [.osl 0 0 L.length 5, .int .i64 kk] [some (rows an.cs L)] (.int .i64 (kk + 5 * L.length)) [some (rows an.cs (an.marks kk L.length))] := by
 refine Ctr.intro Tryz.mixed Tryz.func178 rfl Tryz.ax5 ?_
 simp -implicitDefEqProofs -dsimp only [go_sem, Tryz.ntmps178, Tryz.results178]
 refine cw.intro (fun i : Nat => i ≤ L.length) (fun i => ⟨[.osl 0 0 L.length 5, .int .i64 (kk + 5 * (i : Int)), .undef, .undef, .undef, .int .i64 i, .undef, .undef, .undef, .undef, .undef, .undef, .undef, .undef, .undef, .undef, .undef, .undef, .undef, .undef, .undef, .undef, .undef, .undef, .undef, .undef, .undef, .undef, .undef, .undef, .undef, .undef, .undef, .undef, .undef, .undef, .undef, .undef, .undef, .undef, .undef, .undef, .undef, .undef, .undef, .undef, .undef, .undef], [some (rows an.cs (an.marks kk i ++ L.drop i))], 1⟩) (fun i => L.length - i) 0 (Nat.zero_le _) ?_ (fun i hi => ?_)
 · refine br.cut (1) (by simp) (by simp) ?_ ?_
   · simp [LeC, LeV, ren, bm]
   · simp only [cb, List.take, List.map]
     rw [gz (ia an.csp _)]
     simp [an.marks]
 simp -implicitDefEqProofs -dsimp only [go_sem]
 refine bd.split (fun h1 => ?_) (fun h1 => ?_)
 · simp -implicitDefEqProofs -dsimp only [go_sem, h1]
   have hi' : i < L.length := by simpa using h1
   have hA : (rows an.cs (an.marks kk i)).length = i * 5 := by rw [je an.csl, an.dr]
   have hB : rows an.cs (an.marks kk i ++ L.drop i) = rows an.cs (an.marks kk i) ++ (an.cs L[i] ++ rows an.cs (L.drop (i + 1))) := by
     rw [cu, List.drop_eq_getElem_cons hi', dq]
   rw [hB]
   have hsp : ∀ (M ns : List V) (j : Nat), ck (rows an.cs (an.marks kk i) ++ M) (i * 5 + j) ns = rows an.cs (an.marks kk i) ++ ck M j ns := fun M ns j => tc hA
   have hsp0 : ∀ (M ns : List V), ck (rows an.cs (an.marks kk i) ++ M) (i * 5) ns = rows an.cs (an.marks kk i) ++ ck M 0 ns := fun M ns => qc hA
   (repeat1' (first | simp -implicitDefEqProofs -dsimp only [go_sem, hsp, hsp0, List.length_append, hA, an.cs] | simp -dsimp (disch := omega) only [wrap_i64]))
   repeat (with_reducible refine ah ?_)
   refine ⟨i + 1, hi', ?_, by omega⟩
   refine br.cut (1) (by simp) (by simp) ?_ ?_
   · simp [LeC, LeV, ren, bm]
     omega
   · have e : rows an.cs (an.marks kk (i + 1) ++ L.drop (i + 1)) = rows an.cs (an.marks kk i) ++ (an.cs (an.mk1 (kk + 5 * (i : Int))) ++ rows an.cs (L.drop (i + 1))) := by
       rw [an.ik, List.append_assoc, cu, cu, vi]
     rw [e]
     simp only [cb, List.take, List.map]
     rw [gz (by rw [List.all_append, ia an.csp]; simp only [List.all_cons, cc, ia an.csp, Bool.and_self])]
     simp [an.cs, an.mk1, Int.add_assoc]
 · simp -implicitDefEqProofs -dsimp only [go_sem, h1]
   have hi' : i = L.length := by simp at h1; omega
   subst hi'
   rw [List.drop_length, List.append_nil]
   exact al.of_eq (by simp)
theorem ae1 (n : Nat) (kk : Int) (hl : n ≤ 281474976710656) (hk : 0 ≤ kk) (hk2 : kk ≤ 281474976710656) : Ctr Tryz.prog 180 [an.sl (an.marks kk n), .int .i64 kk] [] (.int .i64 (kk + 5 * n)) [] := by
 refine Ctr.intro Tryz.mixed Tryz.func180 rfl Tryz.ay2 ?_
 simp -implicitDefEqProofs -dsimp only [go_sem, Tryz.ntmps180, Tryz.results180]
 refine cw.intro (fun i : Nat => i ≤ n) (fun i => ⟨[an.sl (an.marks kk n), .int .i64 (kk + 5 * (i : Int)), .undef, .undef, .undef, .int .i64 i, .undef, .undef, .undef, .undef, .undef, .undef, .undef, .undef, .undef, .undef, .undef, .undef, .undef, .undef, .undef, .undef, .undef, .undef, .undef, .undef, .undef, .undef, .undef, .undef, .undef, .undef, .undef, .undef, .undef, .undef, .undef, .undef, .undef, .undef, .undef, .undef, .undef, .undef, .undef, .undef, .undef, .undef, .undef, .undef, .undef, .undef, .undef, .undef, .undef, .undef, .undef, .undef], [], 0⟩) (fun i => n - i) 0 (Nat.zero_le _) ?_ (fun i hi => ?_)
 · refine br.cut (0) (by simp) (by simp) ?_ ?_
   · simp [LeC, LeV, ren, bm]
   · rfl
 simp -implicitDefEqProofs -dsimp only [go_sem]
 refine bd.split (fun h1 => ?_) (fun h1 => ?_)
 · simp -implicitDefEqProofs -dsimp only [go_sem, h1]
   have hi' : i < n := by simpa using h1
   have hr := bt an.csl (L := an.marks kk n) (i := i) (by rw [an.dr]; exact hi')
   rw [an.jf] at hr
   (repeat1' (first | simp -implicitDefEqProofs -dsimp only [go_sem, hr, an.dr, an.cs, an.mk1, bne_self_eq_false, beq_self_eq_true] | simp -dsimp (disch := omega) only [wrap_i64]))
   repeat (with_reducible refine ah ?_)
   refine ⟨i + 1, hi', ?_, by omega⟩
   refine br.cut (0) (by simp) (by simp) ?_ ?_
   · simp [LeC, LeV, ren, bm]
     omega
   · rfl
 · simp -implicitDefEqProofs -dsimp only [go_sem, h1]
   have hi' : i = n := by simp at h1; omega
   subst hi'
   exact al.of_eq (by simp)
theorem qm (L : List an) (p : an → Bool) (key : an → Int) (most : Int) (fv fk : Nat) (vc kc : List V) (hvc : ∀ d, vc.all (cc d) = true) (hkc : ∀ d, kc.all (cc d) = true) (hv : ∀ x, Ctr Tryz.prog fv (an.v x :: vc) [] (.bool (p x)) []) (hkey : ∀ x, Ctr Tryz.prog fk (an.v x :: kc) [] (.int .i64 (key x)) []) (m : Nat) (hm : most = m) (hl : L.length ≤ 281474976710656) :
   Ctr Tryz.prog 169 [an.sl L, .int .i64 most, .fn (.func fv) [] vc, .fn (.func fk) [] kc] [] (.bool (gh p key m L)) [] := by
 subst hm
 refine Ctr.intro Tryz.mixed Tryz.func169 rfl Tryz.ay3 ?_
 simp -implicitDefEqProofs -dsimp only [go_sem, Tryz.ntmps169, Tryz.results169]
 have hvc2 : ∀ f d, vc.map (ren f d) = vc := fun f d => oo f (hvc d)
 have hkc2 : ∀ f d, kc.map (ren f d) = kc := fun f d => oo f (hkc d)
 refine cw.intro (fun i : Nat => i ≤ L.length ∧ (List.range i).all (fw p key L) = true) (fun i => ⟨[an.sl L, .int .i64 m, .fn (.func fv) [] vc, .fn (.func fk) [] kc, .undef, .undef, .undef, .undef, .undef, .undef, .undef, an.sl L, .int .i64 L.length, .int .i64 i, .undef, .undef, .undef, .undef, .undef, .undef, .undef, .undef, .undef, .undef, .undef, .undef, .undef, .undef, .undef, .undef, .undef, .undef, .undef, .undef, .undef, .undef, .undef, .undef, .undef, .undef, .undef, .undef, .undef, .undef], [], 0⟩) (fun i => L.length - i) 0 ⟨Nat.zero_le _, rfl⟩ ?_ (fun i hi => ?_)
 · refine br.cut (0) (by simp) (by simp) ?_ ?_
   · simp [LeC, LeV, ren, bm, hvc2, hkc2]
   · rfl
 simp -implicitDefEqProofs -dsimp only [go_sem]
 refine bd.split (fun h1 => ?_) (fun h1 => ?_)
 · simp -implicitDefEqProofs -dsimp only [go_sem, h1]
   have hi' : i < L.length := by simpa using h1
   have h5 := an.csl L[i]
   have hr := bt an.csl hi'
   (repeat1' (first | simp -implicitDefEqProofs -dsimp only [go_sem, hr, an.cs] | simp -dsimp (disch := omega) only [wrap_i64]))
   repeat (with_reducible refine ah ?_)
   refine ak.intro (hv L[i]) ⟨.inl rfl, kj (hvc2 _ _)⟩ (.inl (by simp only [List.nil_append, List.cons_append, List.all_cons, hvc, Bool.and_true]; rfl)) ⟨ru (hvc 3), rfl⟩ ?_
   simp -implicitDefEqProofs -dsimp only [go_sem]
   refine a8.ch (fun h2 => ?_) (fun h2 => ?_) <;> simp -implicitDefEqProofs -dsimp only [go_sem, h2]
   · have hw : p L[i] = true := by simpa using h2
     refine a8.bu (fun h3 => ?_) (fun h3 => ?_) <;> simp -implicitDefEqProofs -dsimp only [go_sem, h3]
     · obtain ⟨j, rfl⟩ : ∃ j, i = j + 1 := ⟨i - 1, by simp at h3; omega⟩
       have hj : j < L.length := by omega
       refine ak.intro (hkey L[j + 1]) ⟨.inl rfl, kj (hkc2 _ _)⟩ (.inl (by simp only [List.nil_append, List.cons_append, List.all_cons, hkc, Bool.and_true]; rfl)) ⟨ru (hkc 3), rfl⟩ ?_
       have hw1 : IntKind.i64.wrap (((j + 1 : Nat) : Int) - 1) = (j : Int) := by rw [wrap_i64 (by omega) (by omega)]; omega
       have hr2 := bt an.csl hj
       (repeat1' (first | simp -implicitDefEqProofs -dsimp only [go_sem, hw1, hr2, an.cs] | simp -dsimp (disch := omega) only [wrap_i64]))
       repeat (with_reducible refine ah ?_)
       refine ak.intro (hkey L[j]) ⟨.inl rfl, kj (hkc2 _ _)⟩ (.inl (by simp only [List.nil_append, List.cons_append, List.all_cons, hkc, Bool.and_true]; rfl)) ⟨ru (hkc 3), rfl⟩ ?_
       (repeat1' (first | simp -implicitDefEqProofs -dsimp only [go_sem] | simp -dsimp (disch := omega) only [wrap_i64]))
       refine bd.split (fun h4 => ?_) (fun h4 => ?_) <;> simp -implicitDefEqProofs -dsimp only [go_sem, h4]
       · refine al.ax ?_ rfl
         have hq : fw p key L (j + 1) = false := by
           rw [ga hi', hw]
           simp at h4 ⊢
           omega
         rw [jg hi' hq]
       · refine ⟨j + 1 + 1, ⟨hi', fo hi.2 (by rw [ga hi', hw]; simp at h4 ⊢; omega)⟩, ?_, by omega⟩
         refine br.cut (0) (by simp) (by simp) ?_ ?_
         · rw [wrap_i64 (by omega) (by omega)]
           simp [LeC, LeV, ren, bm, hvc2, hkc2]
         · rfl
     · have h0 : i = 0 := by simp at h3; omega
       refine ⟨i + 1, ⟨hi', fo hi.2 (by subst h0; rw [j3 hi', hw])⟩, ?_, by omega⟩
       refine br.cut (0) (by simp) (by simp) ?_ ?_
       · rw [wrap_i64 (by omega) (by omega)]
         simp [LeC, LeV, ren, bm, hvc2, hkc2]
       · rfl
   · have hw : p L[i] = false := by simpa using h2
     refine al.ax ?_ rfl
     have hq : fw p key L i = false := by simp [fw, hi', hw]
     rw [jg hi' hq]
 · simp -implicitDefEqProofs -dsimp only [go_sem, h1]
   refine al.ax ?_ rfl
   have : i = L.length := by simp at h1; omega
   subst this
   rw [gh, hi.2]
   simp
   try omega
theorem uz (L : List an) (p : an → Bool) (fv : Nat) (vc : List V) (hvc : ∀ d, vc.all (cc d) = true) (hv : ∀ x, Ctr Tryz.prog fv (an.v x :: vc) [] (.bool (p x)) []) (hl : L.length ≤ 16777216) :
   Ctr Tryz.prog 247 [an.sl L, .fn (.func fv) [] vc] [] (.osl 0 0 (L.filter p).length 5) [some (rows an.cs (L.filter p))] := by
 refine Ctr.intro Tryz.mixed Tryz.func247 rfl Tryz.aym ?_
 simp -implicitDefEqProofs -dsimp only [go_sem, Tryz.ntmps247, Tryz.results247]
 have hvc2 : ∀ f d, vc.map (ren f d) = vc := fun f d => oo f (hvc d)
 have hstep : ∀ {i : Nat} (hi : i < L.length), (L.take (i + 1)).filter p = (L.take i).filter p ++ if p L[i] then [L[i]] else [] := fun {i} hi => by
   rw [List.take_succ_eq_append_getElem hi, List.filter_append]
   congr 1
   cases h : p L[i] <;> simp [h]
 refine cw.intro (fun i : Nat => i ≤ L.length) (fun i => ⟨[.undef, .fn (.func fv) [] vc, .undef, .undef, .undef, .osl 0 0 ((L.take i).filter p).length 5, .undef, .undef, .undef, an.sl L, .int .i64 L.length, .int .i64 i, .undef, .undef, .undef, .undef, .undef, .undef, .undef, .undef, .undef, .undef, .undef, .undef], [some (rows an.cs ((L.take i).filter p))], 0⟩) (fun i => L.length - i) 0 (Nat.zero_le _) ?_ (fun i hi => ?_)
 · refine br.cut (1) (by simp) (by simp) ?_ ?_
   · simp [LeC, LeV, ren, bm, hvc2]
   · simp [cb, db, rows]
 simp -implicitDefEqProofs -dsimp only [go_sem]
 refine bd.split (fun h1 => ?_) (fun h1 => ?_)
 · simp -implicitDefEqProofs -dsimp only [go_sem, h1]
   have hi' : i < L.length := by simpa using h1
   have hf : ((L.take i).filter p).length ≤ i := Nat.le_trans (List.length_filter_le _ _) (by simp; omega)
   have h5 := an.csl L[i]
   have hr := bt an.csl hi'
   (repeat1' (first | simp -implicitDefEqProofs -dsimp only [go_sem, hr, an.cs] | simp -dsimp (disch := omega) only [wrap_i64]))
   repeat (with_reducible refine ah ?_)
   refine aj.intro (hv L[i]) ⟨.inl rfl, kj (hvc2 _ _)⟩ (.inl (by simp only [List.nil_append, List.cons_append, List.all_cons, hvc, Bool.and_true]; rfl)) ?_
   simp -implicitDefEqProofs -dsimp only [go_sem]
   refine bd.split (fun h2 => ?_) (fun h2 => ?_) <;> simp -implicitDefEqProofs -dsimp only [go_sem, h2]
   · try (repeat1' (first | simp -implicitDefEqProofs -dsimp only [go_sem, ay, Nat.mul_one, bb, List.length_append, List.length_cons, List.length_nil] | simp -dsimp (disch := omega) only [wrap_i64]))
     repeat (with_reducible refine ah ?_)
     refine ⟨i + 1, hi', ?_, by omega⟩
     refine br.cut (1) (by simp) (by simp) ?_ ?_
     · rw [hstep hi', h2]
       simp [LeC, LeV, ren, bm, hvc2]
     · rw [hstep hi', h2, if_pos rfl, ← dk]
       simp [cb, db, ae, cx, ren, an.cs]
   · refine ⟨i + 1, hi', ?_, by omega⟩
     refine br.cut (1) (by simp) (by simp) ?_ ?_
     · rw [hstep hi', h2, wrap_i64 (by omega) (by omega)]
       simp [LeC, LeV, ren, bm, hvc2]
     · rw [hstep hi', h2]
       simp [cb, db, ae]
 · simp -implicitDefEqProofs -dsimp only [go_sem, h1]
   have hi' : i = L.length := by simp at h1; omega
   subst hi'
   rw [List.take_length]
   exact al.refl _ _ _
end Go.Proofs
end
