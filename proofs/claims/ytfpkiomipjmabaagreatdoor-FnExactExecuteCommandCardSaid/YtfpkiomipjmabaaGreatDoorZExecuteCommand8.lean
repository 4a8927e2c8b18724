/-
  A part of the proof: texts put together by a program of the prover. Conditions: none.
-/
import Derived.Test.YtfpkiomipjmabaaGreatDoorZExecuteCommand7
import Derived.WalkKit
set_option linter.unusedSimpArgs false
set_option linter.unusedVariables false
section
set_option maxRecDepth 100000
set_option maxHeartbeats 4000000
namespace Go.Proofs
open Go.Lv Go.RowKit
theorem aqv {w : World} {m : Nat → Nat} {h : Hp} {av : Nat → Prop} {vs : Array Value} {s t : ByteArray} (hsz : vs.size = [V.str s, V.str t].length)
 (ha : ∀ i (hi : i < [V.str s, V.str t].length), RV w m h av true (vs.getD i Go.undef) [V.str s, V.str t][i]) : vs = #[.string s, .string t] := by
 obtain ⟨v, u, rfl⟩ : ∃ v u, vs = #[v, u] := by
  match vs, hsz with
  | ⟨[v, u]⟩, _ => exact ⟨v, u, rfl⟩
 have h0 := ha 0 (by simp)
 have h1 := ha 1 (by simp)
 simp only [List.getElem_cons_zero, List.getElem_cons_succ] at h0 h1
 obtain rfl : v = .string s := by
  simp at h0; cases h0; rfl
 obtain rfl : u = .string t := by
  simp at h1; cases h1; rfl
 rfl
theorem aas {w : World} {m : Nat → Nat} {av : Nat → Prop} : RH w m [] av := ⟨fun i j ci cj h => by simp at h, fun id cs h => by simp at h, fun id cs h => by simp at h⟩
theorem y6 {O : Nat → Prop} {w w' : World} (hb : Below w.heap.size w w') : Ext O w w' :=
 ⟨hb.os, hb.tape, hb.output, hb.size, fun g hg _ => hb.block g hg, fun g hg => Nat.le_of_eq (fy (hb.block g hg)).symm⟩
theorem aoo (s : ByteArray) (c : UInt8) (hs : s.size ≤ 16777216) : Ctr Tryz.prog 66 [.str s, .str ⟨#[c]⟩] [] (.osl 0 0 (iz c s).length 1) [some (rows StringS.cs (iz c s))] := by
 refine ⟨Tryz.a2g, fun w vs m av hH hav hgl hsz ha => ?_⟩
 obtain rfl := aqv hsz ha
 obtain ⟨mv, hm, m0, rfl⟩ := hgl.var (g := 0) (e := false) (by simp [adi])
 refine (Tryz.strings_Split s ⟨#[c]⟩ m0 w (by omega) hm (Nat.le_refl 1)).mono ?_
 rintro e w' ⟨rfl, rfl⟩
 rw [ags]
 have hl : Lib.countB s ⟨#[c]⟩ + 1 = (iz c s).length := by
  rw [← ags, Lib.splitB_all ⟨#[c]⟩ (Nat.le_refl 1) 0 _ _ rfl]
 rw [hl]
 generalize iz c s = L
 have hrl : (rows StringS.cs L).length = L.length := by rw [aw, Nat.mul_one]
 have hrow : ∀ i (hi : i < (rows StringS.cs L).length), ∃ x, (rows StringS.cs L)[i] = .str x ∧ ((L.map Value.string).toArray).getD i Go.undef = .string x := by
  intro i hi
  have hi' : i < L.length := by omega
  refine ⟨L[i], ?_, ?_⟩
  · have := bu StringS.csl hi'
    rw [Nat.mul_one] at this
    have h2 : (rows StringS.cs L)[i]? = some (.str L[i]) := by
     have h3 := congrArg (·[0]?) this
     simpa [StringS.cs, List.getElem?_take] using h3
    rw [List.getElem?_eq_getElem hi] at h2
    exact Option.some.inj h2
  · simp [hi']
 have hnew := heap_alloc_new w (.cells (L.map Value.string).toArray 9)
 refine ⟨_, fun _ => w.heap.size, rfl, Ext.alloc _ _ _, ⟨fun i j ci cj h1 h2 _ => ?_, fun id cs h => .inr ⟨id, cs, h, rfl⟩, fun id cs h => ?_⟩, ?_, fun id cs h => .inr ⟨Nat.zero_le _, Nat.le_refl _⟩⟩
 · have e1 : i < 1 := by have := (List.getElem?_eq_some_iff.1 h1).1; simpa using this
   have e2 : j < 1 := by have := (List.getElem?_eq_some_iff.1 h2).1; simpa using this
   omega
 · have e1 : id < 1 := by have := (List.getElem?_eq_some_iff.1 h).1; simpa using this
   obtain rfl : id = 0 := by omega
   simp only [List.getElem?_cons_zero, Option.some.injEq] at h
   subst h
   refine .inl ⟨_, _, _, hnew, w8.zero _, by simp [hrl], fun i hi => ?_⟩
   obtain ⟨x, h1, h2⟩ := hrow i hi
   rw [h1, h2]
   exact .str _
 · refine .osl 0 0 L.length L.length 1 _ ⟨rfl, lh _⟩ (by simp [hrl]) (Nat.le_refl _) ?_
   simp only [cr, hnew]
   simp
theorem arb (L : List ByteArray) (hL : (Lib.join (L.map (·.data.toList)) [32]).length ≤ 140737488355328) (hl : L.length ≤ 16777216) : Ctr Tryz.prog 244 [StringS.sl L, .str ⟨#[32]⟩] [] (.str ⟨(Lib.join (L.map (·.data.toList)) [32]).toArray⟩) [] := by
 refine ⟨Tryz.awi, fun w vs m av hH hav hgl hsz ha => ?_⟩
 obtain ⟨v, u, rfl⟩ : ∃ v u, vs = #[v, u] := by
  match vs, hsz with
  | ⟨[v, u]⟩, _ => exact ⟨v, u, rfl⟩
 have h0 := ha 0 (by simp)
 have h1 := ha 1 (by simp)
 simp only [List.getElem_cons_zero, List.getElem_cons_succ] at h0 h1
 obtain rfl : u = .string ⟨#[32]⟩ := by
  simp at h1; cases h1; rfl
 have hrl : (rows StringS.cs L).length = L.length := by rw [aw, Nat.mul_one]
 have hv : (#[v, Value.string ⟨#[32]⟩] : Array Value).getD 0 Go.undef = v := rfl
 rw [hv] at h0
 generalize hy : StringS.sl L = y at h0
 cases h0 with
 | slz a c wd =>
  have e0 : L = [] := by
   simp only [StringS.sl, V.sl.injEq] at hy
   exact List.length_eq_zero_iff.1 hy.1
  subst e0
  refine (Tryz.strings_Join_none a c ⟨#[32]⟩ w).mono ?_
  rintro e w' ⟨rfl, rfl⟩
  exact ⟨_, m, rfl, Ext.refl _ _, aas, .str _, fun id cs h => by simp at h⟩
 | sl b off n cap wd cs vals hl' ha' hc hv' hr =>
  simp only [StringS.sl, V.sl.injEq] at hy
  obtain ⟨rfl, rfl, rfl⟩ := hy
  by_cases he : L = []
  · subst he
    refine (Tryz.strings_Join_none _ cap ⟨#[32]⟩ w).mono ?_
    rintro e w' ⟨rfl, rfl⟩
    exact ⟨_, m, rfl, Ext.refl _ _, aas, .str _, fun id cs h => by simp at h⟩
  have hpos : 0 < L.length := List.length_pos_iff.2 he
  have hcells : ∀ (j : Nat) x, L[j]? = some x → w.cell? ⟨b, off + j, none⟩ = some (.string x) := by
   intro j x hj
   obtain ⟨hj1, hj2⟩ := List.getElem?_eq_some_iff.1 hj
   have hi : j < (rows StringS.cs L).length := by omega
   have h2 : (rows StringS.cs L)[j] = .str x := by
    have := bu StringS.csl hj1
    rw [Nat.mul_one] at this
    have h3 := congrArg (·[0]?) this
    have h4 : (rows StringS.cs L)[j]? = some (.str L[j]) := by simpa [StringS.cs, List.getElem?_take] using h3
    rw [List.getElem?_eq_getElem hi, hj2] at h4
    exact Option.some.inj h4
   have h5 := hr j hi
   rw [h2] at h5
   rw [hv' j hi]
   generalize vals j = vv at h5
   cases h5
   rfl
  have hbk : b < w.heap.size := World.block_lt_of_cell? w ⟨b, off + 0, none⟩ (hcells 0 L[0] (List.getElem?_eq_getElem hpos))
  refine (Tryz.strings_Join b off cap L ⟨#[32]⟩ w hcells hbk (by omega) hc hL).mono ?_
  rintro e w' ⟨rfl, hb⟩
  exact ⟨_, m, rfl, y6 hb, aas, .str _, fun id cs h => by simp at h⟩
 | _ => simp [StringS.sl] at hy
end Go.Proofs
end
section
set_option maxRecDepth 100000
set_option maxHeartbeats 1000000
namespace Go.Proofs
open Go.Lv
theorem aki (c : UInt8) (hc : c.toNat < 48) : ∀ (n u : Nat), u < n → noB c (num u) = true
 | 0, u, h => by omega
 | n + 1, u, h => by
  have one : ∀ d, d < 10 → noB c (digits.extract d (d + 1)) = true := by
   intro d hd
   rw [r3 d hd]
   have hne : (UInt8.ofNat (48 + d) == c) = false := by
    rw [beq_eq_false_iff_ne]
    intro e
    have h1 : (UInt8.ofNat (48 + d)).toNat = c.toNat := by rw [e]
    rw [UInt8.toNat_ofNat'] at h1
    omega
   show (!(UInt8.ofNat (48 + d) == c) && true) = true
   rw [hne]; rfl
  by_cases h1 : u < 10
  · rw [afu h1]; exact one u h1
  · rw [aau h1, noB, acd]
    have g1 := aki c hc n (u / 10) (by omega)
    have g2 := one (u % 10) (by omega)
    unfold noB at g1 g2
    rw [g1, g2]; rfl
def j7 (line : ByteArray) : az := ⟨bef 64 (aft 32 (bef 35 line)), aft 64 (aft 32 (bef 35 line))⟩
theorem ark (s : ByteArray) : nt s = s ++ (⟨#[35]⟩ ++ num (ckS s)) := by rw [nt, ByteArray.append_assoc]
theorem akb (k : Int) (e : az) : di k e = num k ++ (⟨#[32]⟩ ++ (e.Command ++ (⟨#[64]⟩ ++ e.Reply))) := by
 simp only [di, ByteArray.append_assoc]
theorem ajm {e : az} (h : ix e = true) : noB 64 e.Command = true :=
 y9 (xe h).2.2.1 (fun b hb => by simp at hb ⊢; exact hb.2)
theorem agv {k : Int} {e : az} (hk : 0 ≤ k ∧ k ≤ 59) (h : ix e = true) : bef 35 (nt (di k e)) = di k e := by
 rw [ark]
 exact (qu (vo hk h)).2.1
theorem y1 {k : Int} {e : az} (hk : 0 ≤ k ∧ k ≤ 59) (h : ix e = true) : j7 (nt (di k e)) = e := by
 obtain ⟨u, rfl⟩ := Int.eq_ofNat_of_zero_le hk.1
 have n1 : noB 32 (num (u : Int)) = true := aki 32 (by decide) (u + 1) u (by omega)
 have a1 : aft 32 (di u e) = e.Command ++ (⟨#[64]⟩ ++ e.Reply) := by
  rw [akb]; exact (qu n1).2.2.1
 have c := qu (y := e.Reply) (ajm h)
 rw [j7, agv hk h, a1, c.2.1, c.2.2.1]
def y8 (k : Int) (line : ByteArray) : Option az := if ed k 0 59 = true ∧ ix (j7 line) = true ∧ nt (di k (j7 line)) = line then some (j7 line) else none
theorem oz {k : Int} {line : ByteArray} {e : az} : y8 k line = some e ↔ (0 ≤ k ∧ k ≤ 59) ∧ ix e = true ∧ nt (di k e) = line := by
 unfold y8
 constructor
 · intro g
   split at g
   · rename_i c
     simp only [Option.some.injEq] at g
     subst g
     exact ⟨fe.1 c.1, c.2.1, c.2.2⟩
   · cases g
 · rintro ⟨hk, he, rfl⟩
   rw [y1 hk he, if_pos ⟨fe.2 hk, he, rfl⟩]
theorem yj {k : Int} {line : ByteArray} (h : ∀ e, ¬ ((0 ≤ k ∧ k ≤ 59) ∧ ix e = true ∧ nt (di k e) = line)) : y8 k line = none := by
 cases g : y8 k line with
 | none => rfl
 | some e => exact absurd (oz.1 g) (h e)
theorem append_right_inj {a b c : ByteArray} (h : a ++ c = b ++ c) : a = b := by
 apply ra
 have := congrArg (fun x : ByteArray => x.data.toList) h
 simp only [lk] at this
 exact List.append_cancel_right this
theorem gp (a b : ByteArray) : (a.toList == b.toList) = decide (a = b) := by
 rw [aaq, aaq, Bool.eq_iff_iff]
 simp only [beq_iff_eq, decide_eq_true_eq]
 exact ⟨fun h => ra h, fun h => by rw [h]⟩
def gw (k : Int) (s : ByteArray) : Option (az × Nat) := if fnd 10 s = true then (y8 k (bef 10 s)).map fun e => (e, (bef 10 s).size + 1) else none
def wb (k : Int) (line R : ByteArray) : az × Bool :=
 if (bef 64 R).size = R.size then (⟨⟨#[]⟩, ⟨#[]⟩⟩, false)
 else (⟨bef 64 R, R.extract ((bef 64 R).size + 1) R.size⟩, ix ⟨bef 64 R, R.extract ((bef 64 R).size + 1) R.size⟩ && decide (gm k ⟨bef 64 R, R.extract ((bef 64 R).size + 1) R.size⟩ = line ++ ⟨#[10]⟩))
def kq (k : Int) (line : ByteArray) : az × Bool :=
 if (bef 35 line).size < (num k ++ (⟨#[32]⟩ : ByteArray)).size ∨ ¬ (bef 35 line).extract 0 (num k ++ (⟨#[32]⟩ : ByteArray)).size = num k ++ (⟨#[32]⟩ : ByteArray) then (⟨⟨#[]⟩, ⟨#[]⟩⟩, false)
 else wb k line ((bef 35 line).extract (num k ++ (⟨#[32]⟩ : ByteArray)).size (bef 35 line).size)
theorem agf {k : Int} {line : ByteArray} (hk : 0 ≤ k ∧ k ≤ 59) (h : (kq k line).2 = true) : y8 k line = some (kq k line).1 := by
 unfold kq at h ⊢
 split
 · rename_i c; rw [if_pos c] at h; cases h
 · rename_i c
   rw [if_neg c] at h
   unfold wb at h ⊢
   split
   · rename_i c2; rw [if_pos c2] at h; cases h
   · rename_i c2
     rw [if_neg c2] at h
     simp only [Bool.and_eq_true, decide_eq_true_eq] at h
     exact oz.2 ⟨hk, h.1, append_right_inj h.2⟩
theorem aon (a b : ByteArray) : (a ++ b).extract 0 a.size = a := by
 apply ra
 rw [dn, lk, List.drop_zero]
 exact List.take_left' (ew a)
theorem adl (a b : ByteArray) : (a ++ b).extract a.size (a ++ b).size = b := by
 apply ra
 have hl : (a ++ b).size = (a ++ b).data.toList.length := rfl
 rw [dn, hl, List.take_length, lk]
 exact List.drop_left' (ew a)
theorem al1 {k : Int} {line : ByteArray} {e : az} (h : y8 k line = some e) : kq k line = (e, true) := by
 obtain ⟨hk, he, hl⟩ := oz.1 h
 have ht : bef 35 line = (num k ++ (⟨#[32]⟩ : ByteArray)) ++ (e.Command ++ (⟨#[64]⟩ ++ e.Reply)) := by
  rw [← hl, agv hk he, akb]
  simp only [ByteArray.append_assoc]
 have hs : ((num k ++ (⟨#[32]⟩ : ByteArray)) ++ (e.Command ++ (⟨#[64]⟩ ++ e.Reply))).size = (num k ++ (⟨#[32]⟩ : ByteArray)).size + (e.Command ++ (⟨#[64]⟩ ++ e.Reply)).size := ByteArray.size_append
 have c := qu (y := e.Reply) (ajm he)
 have hz : (e.Command ++ ((⟨#[64]⟩ : ByteArray) ++ e.Reply)).size = e.Command.size + (1 + e.Reply.size) := by
  rw [ByteArray.size_append, ByteArray.size_append]; rfl
 have hx : (e.Command ++ ((⟨#[64]⟩ : ByteArray) ++ e.Reply)).extract (e.Command.size + 1) (e.Command ++ ((⟨#[64]⟩ : ByteArray) ++ e.Reply)).size = e.Reply := by
  have h2 := adl (e.Command ++ (⟨#[64]⟩ : ByteArray)) e.Reply
  have h3 : (e.Command ++ (⟨#[64]⟩ : ByteArray)).size = e.Command.size + 1 := by rw [ByteArray.size_append]; rfl
  rw [h3, ByteArray.append_assoc] at h2
  exact h2
 have ee : (⟨e.Command, e.Reply⟩ : az) = e := rfl
 unfold kq
 rw [ht, aon, adl, if_neg (by rw [hs]; simp), wb, c.2.1, if_neg (by rw [hz]; omega), hx, ee, he]
 have hr : gm k e = line ++ ⟨#[10]⟩ := by rw [gm, hl]
 rw [hr]
 simp
def rdN (s : ByteArray) : Nat → List az × Nat
 | 0 => ([], 0)
 | n + 1 => match gw (rdN s n).1.length (s.extract (rdN s n).2 s.size) with
  | some r => ((rdN s n).1 ++ [r.1], (rdN s n).2 + r.2)
  | none => rdN s n
theorem kf {s : ByteArray} {n : Nat} {r : az × Nat} (h : gw (rdN s n).1.length (s.extract (rdN s n).2 s.size) = some r) : rdN s (n + 1) = ((rdN s n).1 ++ [r.1], (rdN s n).2 + r.2) := by rw [rdN, h]
theorem rk {s : ByteArray} {n : Nat} (h : gw (rdN s n).1.length (s.extract (rdN s n).2 s.size) = none) : rdN s (n + 1) = rdN s n := by rw [rdN, h]
theorem y3 {s : ByteArray} {n : Nat} (h : gw (rdN s n).1.length (s.extract (rdN s n).2 s.size) = none) : ∀ m, rdN s (n + m) = rdN s n
 | 0 => rfl
 | m + 1 => by
  have ih := y3 h m
  rw [← Nat.add_assoc, rk (by rw [ih]; exact h), ih]
theorem aa4 {c : UInt8} {s : ByteArray} (h : fnd c s = true) : (bef c s).size + 1 ≤ s.size := by
 obtain ⟨x, y, e, hx⟩ := xc h
 have h1 := (qu (y := y) hx).2.1
 have h2 : (x ++ ((⟨#[c]⟩ : ByteArray) ++ y)).size = x.size + (1 + y.size) := by rw [ByteArray.size_append, ByteArray.size_append]; rfl
 rw [e, h1, h2]; omega
theorem vh {k : Int} {s : ByteArray} {r : az × Nat} (h : gw k s = some r) : fnd 10 s = true ∧ y8 k (bef 10 s) = some r.1 ∧ r.2 = (bef 10 s).size + 1 := by
 unfold gw at h
 split at h
 · rename_i c
   cases g : y8 k (bef 10 s) with
   | none => rw [g] at h; cases h
   | some e =>
    rw [g] at h
    simp only [Option.map_some, Option.some.injEq] at h
    subst h
    exact ⟨c, rfl, rfl⟩
 · cases h
theorem y5 {k : Int} {s : ByteArray} {r : az × Nat} (h : gw k s = some r) : 1 ≤ r.2 ∧ r.2 ≤ s.size ∧ r.2 ≤ 423 := by
 obtain ⟨h1, h2, h3⟩ := vh h
 have := aa4 h1
 obtain ⟨hk, he, hl⟩ := oz.1 h2
 have g1 := gr hk he
 have g2 := iv (di k r.1)
 rw [hl] at g2
 omega
theorem wm (s : ByteArray) : ∀ n, (rdN s n).2 ≤ s.size ∧ (rdN s n).2 ≤ 423 * (rdN s n).1.length ∧ (rdN s n).1.length ≤ n
 | 0 => by simp [rdN]
 | n + 1 => by
  have ih := wm s n
  cases h : gw (rdN s n).1.length (s.extract (rdN s n).2 s.size) with
  | none => rw [rk h]; omega
  | some r =>
   have hz := y5 h
   rw [ByteArray.size_extract] at hz
   rw [kf h]
   simp only [List.length_append, List.length_singleton]
   omega
theorem aio {k : Int} {s : ByteArray} {r : az × Nat} (h : gw k s = some r) : 0 ≤ k ∧ k ≤ 59 := (oz.1 (vh h).2.1).1
theorem vz (s : ByteArray) : ∀ n, (rdN s n).1.length ≤ 60
 | 0 => by simp [rdN]
 | n + 1 => by
  have ih := vz s n
  cases h : gw (rdN s n).1.length (s.extract (rdN s n).2 s.size) with
  | none => rw [rk h]; exact ih
  | some r =>
   have hz := aio h
   rw [kf h]
   simp only [List.length_append, List.length_singleton]
   omega
def db (s : ByteArray) : List az := (rdN s 60).1
def p7 (s : ByteArray) : Nat := (rdN s 60).2
theorem xl {s : ByteArray} {i : Nat} (hl : (rdN s i).1.length = i) (h : gw i (s.extract (rdN s i).2 s.size) = none) : rdN s 60 = rdN s i := by
 have h60 := vz s i
 have := y3 (s := s) (n := i) (by rw [hl]; exact h) (60 - i)
 rw [← this]
 congr 1; omega
theorem aan {s : ByteArray} : ∀ {i j : Nat}, (rdN s i).1.length = i → j ≤ i → (rdN s j).1.length = j
 | 0, j, _, hj => by have : j = 0 := by omega
                     subst this; rfl
 | i + 1, j, h, hj => by
  by_cases e : j = i + 1
  · subst e; exact h
  · refine aan (i := i) ?_ (by omega)
    have hb := (wm s i).2.2
    cases g : gw (rdN s i).1.length (s.extract (rdN s i).2 s.size) with
    | none => rw [rk g] at h; omega
    | some r => rw [kf g] at h; simp at h; exact h
def nz (s : ByteArray) (i : Nat) : List Int := (List.range i).map fun j => ((rdN s (j + 1)).2 : Int)
theorem aht (s : ByteArray) (i : Nat) : nz s (i + 1) = nz s i ++ [((rdN s (i + 1)).2 : Int)] := by simp [nz, List.range_succ]
theorem wv (s : ByteArray) (i : Nat) : (nz s i).length = i := by simp [nz]
end Go.Proofs
end
section
set_option maxRecDepth 100000
set_option maxHeartbeats 4000000
namespace Go.Proofs
open Go.Lv Go.RowKit
noncomputable def jc (s : ByteArray) : V := .tup [.int .i64 ((cq s).getD 0), .bool (cq s).isSome]
theorem aep {w w' : World} (h : GL w (fun _ => False)) (hE : Ext (fun _ => False) w w') : GL w' (fun _ => False) := by
 refine ⟨fun p hp => ?_, fun p hp => ?_⟩
 · obtain ⟨h1, T, fr, h2⟩ := h.1 p hp
   exact ⟨h1, T, fr, by rw [hE.block _ (Array.getElem?_eq_some_iff.1 h2).1 (fun h => h)]; exact h2⟩
 · obtain ⟨h1, C, T, fr, v, h2, h3⟩ := h.2 p hp
   exact ⟨h1, C, T, fr, v, by rw [hE.block _ (Array.getElem?_eq_some_iff.1 h2).1 (fun h => h)]; exact h2, h3⟩
theorem al9 {P : Program} {f : FuncId} {args : List V} {r : V} (h : Ctr P f args [] r []) {w : World} (hgl : GL w (fun _ => False)) {vs : Array Value} (hsz : vs.size = args.length)
 (ha : ∀ i (hi : i < args.length), RV w (fun _ => 0) [] (fun _ => False) true (vs.getD i Go.undef) args[i]) :
 Calls P f vs w fun e w' => ∃ v, e = .returned v ∧ Ext (fun _ => False) w w' ∧ RV w' (fun _ => 0) [] (fun _ => False) true v r := by
 refine (h.2 w vs (fun _ => 0) (fun _ => False) aas (fun b hb => hb.elim) hgl hsz ha).mono ?_
 rintro e w' ⟨v, m', rfl, hE, _, hR, _⟩
 refine ⟨v, rfl, hE.mono (fun b _ ⟨id, cs, h, _⟩ => by simp at h), ?_⟩
 exact RV.step (w := w') (w' := w') (m := m') (m' := fun _ => 0) (h := []) (h' := []) (av := avm (fun _ => False) m' []) (av' := fun _ => False) (fun b off v hb hc => ⟨fun h => h, hc⟩) (fun id c hid => by simp at hid) hR
theorem ac6 (n : Int) (hn : gz n) : Ctr Tryz.prog 199 [.int .i64 n] [] (.tup [.str (if ed n (-999999) 999999 = true then num n else ⟨#[]⟩), .bool (ed n (-999999) 999999)]) [] := by
 refine Ctr.intro Tryz.mixed Tryz.func199 rfl Tryz.ax8 ?_
 simp -implicitDefEqProofs -dsimp only [go_sem, Tryz.ntmps199, Tryz.results199]
 (have ct := jt n (-999999) 999999; (first | refine al.at ct ⟨leA, leA, leA, trivial⟩ ?_ | refine ak.at ct ⟨leA, leA, leA, trivial⟩ ?_); clear ct)
 (repeat ((repeat1' (first | simp -implicitDefEqProofs -dsimp only [go_sem] | simp -dsimp (disch := omega) only [wrap_i64])); repeat (with_reducible refine ah ?_)))
 refine bc.split (fun h => ?_) (fun h => ?_) <;> (repeat ((repeat1' (first | simp -implicitDefEqProofs -dsimp only [go_sem, h] | simp -dsimp (disch := omega) only [wrap_i64])); repeat (with_reducible refine ah ?_)))
 · have h' : ed n (-999999) 999999 = false := by simpa using h
   exact aj.au (by rw [h']; rfl) (by rfl)
 · have h' : ed n (-999999) 999999 = true := by simpa using h
   (first | refine al.at (mo n hn) ⟨leA, trivial⟩ ?_ | refine ak.at (mo n hn) ⟨leA, trivial⟩ ?_)
   (repeat ((repeat1' (first | simp -implicitDefEqProofs -dsimp only [go_sem] | simp -dsimp (disch := omega) only [wrap_i64])); repeat (with_reducible refine ah ?_)))
   exact aj.au (by rw [h']; rfl) (by rfl)
theorem rf (n : Int) (hn : gz n) {w : World} (hgl : GL w (fun _ => False)) : Calls Tryz.prog 199 #[.int .i64 n] w fun e w' =>
 e = .returned (.tuple #[.string (if ed n (-999999) 999999 = true then num n else ⟨#[]⟩), .bool (ed n (-999999) 999999)]) ∧ Ext (fun _ => False) w w' := by
 refine (al9 (ac6 n hn) hgl rfl (fun i hi => ?_)).mono ?_
 · have e : i = 0 := by simp at hi; omega
   subst e
   exact .int _ _
 · rintro e w' ⟨v, rfl, hE, hR⟩
   refine ⟨?_, hE⟩
   cases hR with
   | tup a a' ha hra =>
    have h0 := hra 0 (by simp)
    have h1 := hra 1 (by simp)
    simp only [List.getElem_cons_zero, List.getElem_cons_succ] at h0 h1
    match a, ha with
    | ⟨[x, y]⟩, _ =>
     have e0 : (⟨[x, y]⟩ : Array Value).getD 0 Go.undef = x := rfl
     have e1 : (⟨[x, y]⟩ : Array Value).getD 1 Go.undef = y := rfl
     rw [e0] at h0
     rw [e1] at h1
     generalize (if ed n (-999999) 999999 = true then num n else (⟨#[]⟩ : ByteArray)) = tx at *
     generalize ed n (-999999) 999999 = bx at *
     cases h0
     cases h1
     rfl
theorem af3 (s : ByteArray) (hs : s.size ≤ 281474976710656) {w : World} (hgl : GL w (fun _ => False)) : Calls Tryz.prog 146 #[.string s] w fun e w' =>
 e = .returned (.tuple #[.int .i64 ((cq s).getD 0), .bool (cq s).isSome]) ∧ Ext (fun _ => False) w w' := by
 by_cases hl : s.size ≤ 7
 rotate_left
 · have hno : cq s = none := by
    cases h : cq s with
    | none => rfl
    | some n => exact absurd (ajf h) hl
   have hd : decide ((s.size : Int) > 7) = true := decide_eq_true (by omega)
   rw [hno]
   go_enter Tryz.func146, Tryz.ntmps146
   go_wp2
   go_ret2
   exact ⟨rfl, Ext.refl _ _⟩
 have hd : decide ((s.size : Int) > 7) = false := decide_eq_false (by omega)
 cases ha : Lib.atoiAll s.data.toList with
 | range =>
  exfalso
  rw [Lib.atoiAll_short _ (by have := ew s; omega)] at ha
  cases hx : Lib.atoi s.data.toList <;> rw [hx] at ha <;> cases ha
 | «syntax» =>
  have hno : cq s = none := pf (fun n hn => by
   have := w5 (n := n) (by have := hn.1; omega) (by have := hn.2.1; omega)
   rw [hn.2.2, ha] at this
   cases this)
  obtain ⟨ev, hv, hev⟩ := hgl.var (g := 3) (e := true) (by simp [adi])
  rw [hno]
  go_enter Tryz.func146, Tryz.ntmps146
  go_wp2_with (go_at_call 132; refine (Tryz.strconv_Atoi_syntax s hs ha ev _ hv hev).mono ?_; rintro e W1 ⟨N, rfl, hN1, hN2, hb⟩)
  have hE1 : Ext (fun _ => False) w W1 := y6 hb
  go_wp2_with (go_at_call 199; refine (rf 0 ⟨by omega, by omega⟩ (aep hgl hE1)).mono ?_; rintro e W2 ⟨rfl, hE⟩)
  go_wp2
  go_ret2
  exact ⟨rfl, hE1.trans hE⟩
 | ok v =>
  obtain ⟨vb0, vb1⟩ := Lib.atoiAll_bounds ha
  have hvi : gz v := ⟨vb0, vb1⟩
  have hun : ∀ n, yc s n → n = v := fun n hn => by
   have := w5 (n := n) (by have := hn.1; omega) (by have := hn.2.1; omega)
   rw [hn.2.2, ha] at this
   injection this with this
   exact this.symm
  have hW : ∀ W1, (W1 = w ∨ ∃ t, W1 = Lib.bytesWorld w 5 t) → Ext (fun _ => False) w W1 := by
   rintro W1 (rfl | ⟨t, rfl⟩)
   · exact Ext.refl _ _
   · exact y6 (Lib.bytesWorld_below _ _ _)
  cases hin : ed v (-999999) 999999 with
  | false =>
   have hno : cq s = none := pf (fun n hn => by
    have h1 := hun n hn
    subst h1
    have : ed n (-999999) 999999 = true := fe.2 ⟨hn.1, hn.2.1⟩
    rw [hin] at this
    cases this)
   have hF := fun {W : World} (h : GL W (fun _ => False)) => rf v hvi h
   simp only [hin] at hF
   rw [hno]
   go_enter Tryz.func146, Tryz.ntmps146
   go_wp2_with (go_at_call 132; refine (Tryz.strconv_Atoi_ok s (by omega) v ha _).mono ?_; rintro e W1 ⟨rfl, hw1⟩)
   have hE1 := hW W1 hw1
   go_wp2_with (go_at_call 199; refine (hF (aep hgl hE1)).mono ?_; rintro e W2 ⟨rfl, hE⟩)
   go_wp2
   go_ret2
   exact ⟨rfl, hE1.trans hE⟩
  | true =>
   have hF := fun {W : World} (h : GL W (fun _ => False)) => rf v hvi h
   simp only [hin, if_true] at hF
   by_cases hq : num v = s
   · have hp : yc s v := ⟨(fe.1 hin).1, (fe.1 hin).2, hq⟩
     rw [ab6 hp]
     rw [hq] at hF
     go_enter Tryz.func146, Tryz.ntmps146
     go_wp2_with (go_at_call 132; refine (Tryz.strconv_Atoi_ok s (by omega) v ha _).mono ?_; rintro e W1 ⟨rfl, hw1⟩)
     have hE1 := hW W1 hw1
     go_wp2_with (go_at_call 199; refine (hF (aep hgl hE1)).mono ?_; rintro e W2 ⟨rfl, hE⟩)
     go_wp2
     go_ret2
     exact ⟨rfl, hE1.trans hE⟩
   · have hno : cq s = none := pf (fun n hn => by
      have h1 := hun n hn
      subst h1
      exact hq hn.2.2)
     have hq2 : ((num v).toList == s.toList) = false := by rw [gp]; exact decide_eq_false hq
     rw [hno]
     go_enter Tryz.func146, Tryz.ntmps146
     go_wp2_with (go_at_call 132; refine (Tryz.strconv_Atoi_ok s (by omega) v ha _).mono ?_; rintro e W1 ⟨rfl, hw1⟩)
     have hE1 := hW W1 hw1
     go_wp2_with (go_at_call 199; refine (hF (aep hgl hE1)).mono ?_; rintro e W2 ⟨rfl, hE⟩)
     go_wp2
     all_goals first | (go_ret2; exact ⟨rfl, hE1.trans hE⟩) | (exfalso; simp_all; done)
theorem yb (s : ByteArray) (hs : s.size ≤ 281474976710656) : Ctr Tryz.prog 146 [.str s] [] (jc s) [] := by
 refine ⟨Tryz.awn, fun w vs m av hH hav hgl hsz ha => ?_⟩
 obtain ⟨v, rfl⟩ : ∃ v, vs = #[v] := by
  match vs, hsz with
  | ⟨[v]⟩, _ => exact ⟨v, rfl⟩
 have h0 := ha 0 (by simp)
 simp only [List.getElem_cons_zero] at h0
 obtain rfl : v = .string s := by
  simp at h0; cases h0; rfl
 refine (af3 s hs (hgl.mono (fun b hb => hb.elim))).mono ?_
 rintro e w' ⟨rfl, hE⟩
 refine ⟨_, m, rfl, hE.mono (fun b _ h => h.elim), aas, ?_, fun id cs h => by simp at h⟩
 refine .tup _ _ rfl (fun i hi => ?_)
 match i, hi with
 | 0, _ => exact .int _ _
 | 1, _ => exact .bool _
theorem ad6 {s : ByteArray} {n : Int} (h : yc s n) : s.data.toList = if n < 0 then 45 :: Lib.decDigits n.natAbs else Lib.decDigits n.toNat := by
 rw [← h.2.2]
 show Lib.itoa n = _
 rfl
theorem a3g {u : Nat} {l : List UInt8} {c : UInt8} (h : Lib.decDigits u = c :: l) : (c == 45) = false := by
 have := (sc (u + 1) u (by omega)).1
 rw [h] at this
 simp only [List.all_cons, Bool.and_eq_true, fo, decide_eq_true_eq] at this
 rw [beq_eq_false_iff_ne]
 intro e
 subst e
 have : (45 : UInt8).toNat = 45 := rfl
 omega
theorem aq2 : ∀ (l : List UInt8) (n : Nat), l.all fo = true → jd n l + 1 ≤ (n + 1) * 10 ^ l.length := by
 intro l
 induction l with
 | nil => intro n _; rw [kb]; simp
 | cons c l ih =>
  intro n h
  simp only [List.all_cons, Bool.and_eq_true] at h
  have h1 := ih (acj n c) h.2
  have h2 := h.1
  simp only [fo, Bool.and_eq_true, decide_eq_true_eq] at h2
  rw [kz, List.length_cons, Nat.pow_succ]
  have h3 : acj n c + 1 ≤ (n + 1) * 10 := by rw [nk]; omega
  have h4 := Nat.mul_le_mul_right (10 ^ l.length) h3
  have e : (n + 1) * (10 ^ l.length * 10) = (n + 1) * 10 * 10 ^ l.length := by rw [Nat.mul_comm (10 ^ l.length) 10, ← Nat.mul_assoc]
  omega
theorem ks {l : List UInt8} (h : l.all fo = true) (hl : l.length ≤ 6) : jd 0 l ≤ 999999 := by
 have h1 := aq2 l 0 h
 have h2 : (10 : Nat) ^ l.length ≤ 10 ^ 6 := Nat.pow_le_pow_right (by decide) hl
 omega
structure po (s t : ByteArray) : Prop where
 rd : ∀ n, yc s n → t.data.toList = Lib.decDigits n.natAbs ∧ (n < 0 ↔ t.size < s.size)
 le : t.size ≤ s.size
theorem ai9 {s : ByteArray} (h1 : 1 < s.size) (h2 : (s[0]'(by omega) == 45) = true) : po s (s.extract 1 s.size) := by
 have e0 : s.data.toList = s[0]'(by omega) :: s.data.toList.drop 1 := by
  have := List.drop_eq_getElem_cons (l := s.data.toList) (i := 0) (by rw [ew]; omega)
  rw [List.drop_zero, lu s (by omega)] at this
  exact this
 have et : (s.extract 1 s.size).data.toList = s.data.toList.drop 1 := by
  have hl : s.data.toList.length = s.size := ew s
  rw [dn, ← hl, List.take_length]
 refine ⟨fun n hn => ?_, by rw [ByteArray.size_extract]; omega⟩
 have hL := ad6 hn
 split at hL
 · rename_i hneg
   rw [et, hL]
   refine ⟨rfl, fun _ => by rw [ByteArray.size_extract]; omega, fun _ => hneg⟩
 · exfalso
   rw [e0] at hL
   have := a3g hL.symm
   rw [h2] at this
   cases this
theorem ad0 {s : ByteArray} (h : s.size ≤ 1 ∨ ∃ h1 : 1 < s.size, (s[0]'(by omega) == 45) = false) : po s s := by
 refine ⟨fun n hn => ?_, Nat.le_refl _⟩
 have hL := ad6 hn
 have hl : s.data.toList.length = s.size := ew s
 split at hL
 · rename_i hneg
   exfalso
   have hd := (sc (n.natAbs + 1) n.natAbs (by omega)).2.2
   have h3 : 0 < (Lib.decDigits n.natAbs).length := List.length_pos_iff.2 hd
   have h4 : s.size = (Lib.decDigits n.natAbs).length + 1 := by rw [← hl, hL, List.length_cons]
   rcases h with h | ⟨h1, h2⟩
   · omega
   · have e0 : s.data.toList = s[0]'(by omega) :: s.data.toList.drop 1 := by
      have := List.drop_eq_getElem_cons (l := s.data.toList) (i := 0) (by rw [ew]; omega)
      rw [List.drop_zero, lu s (by omega)] at this
      exact this
     rw [e0] at hL
     injection hL with hL _
     rw [hL] at h2
     cases h2
 · rename_i hneg
   rw [hL]
   have e : n.toNat = n.natAbs := by omega
   rw [e]
   exact ⟨rfl, fun h => absurd h hneg, fun h => by omega⟩
theorem po.no {s t : ByteArray} (h : po s t) (hb : ¬ (1 ≤ t.size ∧ t.size ≤ 6) ∨ t.data.toList.all fo = false) : cq s = none := pf (fun n hn => by
 obtain ⟨h1, _⟩ := h.rd n hn
 obtain ⟨d1, _, d3⟩ := sc (n.natAbs + 1) n.natAbs (by omega)
 rcases hb with hb | hb
 · have h2 : 0 < (Lib.decDigits n.natAbs).length := List.length_pos_iff.2 d3
   have h3 := aal 5 n.natAbs (by have := hn.1; have := hn.2.1; omega)
   rw [← h1, ew] at h2 h3
   omega
 · rw [h1, d1] at hb; cases hb)
def yw (s t : ByteArray) (u : Nat) : Int := if t.size < s.size then -(u : Int) else u
theorem po.yes {s t : ByteArray} (h : po s t) (hd : t.data.toList.all fo = true) (h6 : t.size ≤ 6) (hq : num (yw s t (jd 0 t.data.toList)) = s) : cq s = some (yw s t (jd 0 t.data.toList)) := by
 have hb := ks hd (by rw [ew]; exact h6)
 refine ab6 ⟨?_, ?_, hq⟩ <;> (unfold yw; split <;> omega)
theorem po.not {s t : ByteArray} (h : po s t) (hq : ¬ num (yw s t (jd 0 t.data.toList)) = s) : cq s = none := pf (fun n hn => by
 obtain ⟨h1, h2⟩ := h.rd n hn
 obtain ⟨_, d2, _⟩ := sc (n.natAbs + 1) n.natAbs (by omega)
 apply hq
 rw [h1, d2, ← hn.2.2]
 congr 1
 unfold yw
 have e : (num n).size = s.size := by rw [hn.2.2]
 split
 · rename_i h3
   have := h2.2 (by omega)
   omega
 · rename_i h3
   have : ¬ n < 0 := fun h4 => h3 (by have := h2.1 h4; omega)
   omega)
theorem ak8 (s : ByteArray) (hs : s.size ≤ 281474976710656) : Ctr Tryz.prog 211 [.str s] [] (jc s) [] := by
 refine Ctr.intro Tryz.mixed Tryz.func211 rfl Tryz.avh ?_
 simp -implicitDefEqProofs -dsimp only [go_sem, Tryz.ntmps211, Tryz.results211]
 refine ax.bq (fun g0 => ?_) (fun g0 => ?_) <;> (repeat ((repeat1' (first | simp -implicitDefEqProofs -dsimp only [go_sem, g0] | simp -dsimp (disch := omega) only [wrap_i64])); repeat (with_reducible refine ah ?_)))
 · have hs1 : 1 < s.size := by simp at g0; omega
   have hbb : (s[0]'(by omega) == 45) = (((s[0]'(by omega)).toNat : Int) == 45) := by
    rw [Bool.eq_iff_iff]; simp only [beq_iff_eq]
    constructor
    · intro g; rw [g]; rfl
    · intro g; exact UInt8.toNat_inj.1 (by have : (45 : UInt8).toNat = 45 := rfl; omega)
   refine ⟨by omega, ?_⟩
   refine bc.split (fun g2 => ?_) (fun g2 => ?_)
   · have hB : po s (s.extract 1 s.size) := ai9 hs1 (by rw [hbb]; exact g2)
     (repeat ((repeat1' (first | simp -implicitDefEqProofs -dsimp only [go_sem, g2] | simp -dsimp (disch := omega) only [wrap_i64])); repeat (with_reducible refine ah ?_)))
     have hts := hB.le
     (repeat ((repeat1' (first | simp -implicitDefEqProofs -dsimp only [go_sem] | simp -dsimp (disch := omega) only [wrap_i64])); repeat (with_reducible refine ah ?_)))
     (have ct := fa ((s.extract 1 s.size).size : Int) 1 6; (first | refine al.at ct ⟨leA, leA, leA, trivial⟩ ?_ | refine ak.at ct ⟨leA, leA, leA, trivial⟩ ?_); clear ct)
     (repeat ((repeat1' (first | simp -implicitDefEqProofs -dsimp only [go_sem] | simp -dsimp (disch := omega) only [wrap_i64])); repeat (with_reducible refine ah ?_)))
     refine bc.split (fun g1 => ?_) (fun g1 => ?_) <;> (repeat ((repeat1' (first | simp -implicitDefEqProofs -dsimp only [go_sem, g1] | simp -dsimp (disch := omega) only [wrap_i64])); repeat (with_reducible refine ah ?_)))
     · have hr : ¬ (1 ≤ (s.extract 1 s.size).size ∧ (s.extract 1 s.size).size ≤ 6) := by
        have : ed ((s.extract 1 s.size).size : Int) 1 6 = false := by simpa using g1
        intro hx
        have h2 : ed ((s.extract 1 s.size).size : Int) 1 6 = true := fe.2 ⟨by omega, by omega⟩
        rw [this] at h2; cases h2
       rw [jc, hB.no (.inl hr)]
       exact aj.au rfl (by rfl)
     have hr : ed ((s.extract 1 s.size).size : Int) 1 6 = true := by simpa using g1
     have hr2 := fe.1 hr
     have hl : (s.extract 1 s.size).data.toList.length = (s.extract 1 s.size).size := ew (s.extract 1 s.size)
     have hl6 : (s.extract 1 s.size).size ≤ 6 := by omega
     refine de.intro (fun i : Nat => i ≤ (s.extract 1 s.size).size ∧ ((s.extract 1 s.size).data.toList.take i).all fo = true) (fun i => ⟨[.str s, .undef, .undef, .undef, .str (s.extract 1 s.size), .int .i64 (jd 0 ((s.extract 1 s.size).data.toList.take i)), .int .i64 i, .undef, .undef, .undef, .undef, .undef, .undef, .undef, .undef, .undef, .undef, .undef, .undef, .undef, .undef, .undef, .undef, .undef, .undef, .undef, .undef, .undef, .undef, .undef, .undef, .undef, .undef, .undef, .undef, .undef, .undef, .undef, .undef, .undef, .undef, .undef, .undef, .undef, .undef, .undef, .undef, .undef, .undef, .undef, .undef, .undef, .undef, .undef, .undef, .undef, .undef, .undef], [], 0⟩) (fun i => (s.extract 1 s.size).size - i) 0 ⟨Nat.zero_le _, rfl⟩ ?_ (fun i hi => ?_)
     · refine bt.cut (0) (by simp) (by simp) ?_ ?_
       · simp [LeC, LeV, ren, br, kb]
       · rfl
     simp -implicitDefEqProofs -dsimp only [go_sem]
     refine bc.split (fun h1 => ?_) (fun h1 => ?_)
     · have hi' : i < (s.extract 1 s.size).size := by simpa using h1
       have hsm := ks hi.2 (by rw [List.length_take]; omega)
       have hst : (s.extract 1 s.size).data.toList.take (i + 1) = (s.extract 1 s.size).data.toList.take i ++ [(s.extract 1 s.size)[i]'hi'] := by
        rw [List.take_succ_eq_append_getElem (by rw [hl]; exact hi'), lu (s.extract 1 s.size) hi']
       have hbad : fo ((s.extract 1 s.size)[i]'hi') = false → cq s = none := fun hd => hB.no (.inr (by
        rw [List.all_eq_false]
        exact ⟨(s.extract 1 s.size)[i]'hi', by rw [← lu (s.extract 1 s.size) hi']; exact List.getElem_mem _, by simp [hd]⟩))
       simp -implicitDefEqProofs -dsimp only [go_sem, h1]
       refine ⟨⟨by omega, hi'⟩, ?_⟩
       refine ax.ch (fun h2 => ?_) (fun h2 => ?_) <;> simp -implicitDefEqProofs -dsimp only [go_sem, h2]
       · refine ⟨⟨by omega, hi'⟩, ?_⟩
         refine bc.split (fun h3 => ?_) (fun h3 => ?_) <;> simp -implicitDefEqProofs -dsimp only [go_sem, h3]
         · rw [jc, hbad (by simp at h3; simp only [fo, Bool.and_eq_false_iff, decide_eq_false_iff_not]; omega)]
           exact aj.au rfl (by rfl)
         · have hdg : fo ((s.extract 1 s.size)[i]'hi') = true := by simp at h2 h3; simp only [fo, Bool.and_eq_true, decide_eq_true_eq]; omega
           have hdg2 := hdg
           simp only [fo, Bool.and_eq_true, decide_eq_true_eq] at hdg2
           have hvs : jd 0 ((s.extract 1 s.size).data.toList.take (i + 1)) = jd 0 ((s.extract 1 s.size).data.toList.take i) * 10 + (((s.extract 1 s.size)[i]'hi').toNat - 48) := by rw [hst, w4, kz, kb, nk]
           have hw8 : IntKind.u8.wrap ((((s.extract 1 s.size)[i]'hi').toNat : Int) - 48) = (((s.extract 1 s.size)[i]'hi').toNat : Int) - 48 := by rw [IntKind.wrap_u8]; omega
           refine ⟨⟨by omega, hi'⟩, i + 1, ⟨hi', by rw [hst, List.all_append, hi.2]; simp [hdg]⟩, ?_, by omega⟩
           refine bt.cut (0) (by simp) (by simp) ?_ ?_
           · rw [hvs, hw8, wrap_i64 (n := 10 * _) (by omega) (by omega), wrap_i64 (n := _ - 48) (by omega) (by omega), wrap_i64 (n := 10 * _ + _) (by omega) (by omega), wrap_i64 (n := (i : Int) + 1) (by omega) (by omega)]
             simp [LeC, LeV, ren, br]
             try omega
           · rfl
       · rw [jc, hbad (by simp at h2; simp only [fo, Bool.and_eq_false_iff, decide_eq_false_iff_not]; omega)]
         exact aj.au rfl (by rfl)
     · have hi' : i = (s.extract 1 s.size).size := by have := of_decide_eq_false h1; omega
       subst hi'
       have htk : (s.extract 1 s.size).data.toList.take (s.extract 1 s.size).size = (s.extract 1 s.size).data.toList := by rw [← hl, List.take_length]
       simp only [htk] at hi ⊢
       have hsm := ks hi.2 (by omega)
       simp -implicitDefEqProofs -dsimp only [go_sem, h1]
       refine bc.split (fun h2 => ?_) (fun h2 => ?_)
       · have hsg : yw s (s.extract 1 s.size) (jd 0 (s.extract 1 s.size).data.toList) = 0 - ((jd 0 (s.extract 1 s.size).data.toList : Nat) : Int) := by unfold yw; rw [if_pos (by have := of_decide_eq_true h2; omega)]; omega
         (repeat ((repeat1' (first | simp -implicitDefEqProofs -dsimp only [go_sem, h2] | simp -dsimp (disch := omega) only [wrap_i64])); repeat (with_reducible refine ah ?_)))
         (have ct := fh (0 - ((jd 0 (s.extract 1 s.size).data.toList : Nat) : Int)) (by omega) (by omega); (first | refine al.at ct ⟨leA, trivial⟩ ?_ | refine ak.at ct ⟨leA, trivial⟩ ?_); clear ct)
         rw [← hsg]
         (repeat ((repeat1' (first | simp -implicitDefEqProofs -dsimp only [go_sem, gp] | simp -dsimp (disch := omega) only [wrap_i64])); repeat (with_reducible refine ah ?_)))
         refine bc.split (fun h3 => ?_) (fun h3 => ?_) <;> (repeat ((repeat1' (first | simp -implicitDefEqProofs -dsimp only [go_sem, h3] | simp -dsimp (disch := omega) only [wrap_i64])); repeat (with_reducible refine ah ?_)))
         · rw [jc, hB.not (by simpa using h3)]
           exact aj.au rfl (by rfl)
         · rw [jc, hB.yes hi.2 hl6 (by simpa using h3)]
           exact aj.au (by rw [hsg]; rfl) (by rfl)
       · have hsg : yw s (s.extract 1 s.size) (jd 0 (s.extract 1 s.size).data.toList) = ((jd 0 (s.extract 1 s.size).data.toList : Nat) : Int) := by unfold yw; rw [if_neg (by have := of_decide_eq_false h2; omega)]
         (repeat ((repeat1' (first | simp -implicitDefEqProofs -dsimp only [go_sem, h2] | simp -dsimp (disch := omega) only [wrap_i64])); repeat (with_reducible refine ah ?_)))
         (have ct := fh ((jd 0 (s.extract 1 s.size).data.toList : Nat) : Int) (by omega) (by omega); (first | refine al.at ct ⟨leA, trivial⟩ ?_ | refine ak.at ct ⟨leA, trivial⟩ ?_); clear ct)
         rw [← hsg]
         (repeat ((repeat1' (first | simp -implicitDefEqProofs -dsimp only [go_sem, gp] | simp -dsimp (disch := omega) only [wrap_i64])); repeat (with_reducible refine ah ?_)))
         refine bc.split (fun h3 => ?_) (fun h3 => ?_) <;> (repeat ((repeat1' (first | simp -implicitDefEqProofs -dsimp only [go_sem, h3] | simp -dsimp (disch := omega) only [wrap_i64])); repeat (with_reducible refine ah ?_)))
         · rw [jc, hB.not (by simpa using h3)]
           exact aj.au rfl (by rfl)
         · rw [jc, hB.yes hi.2 hl6 (by simpa using h3)]
           exact aj.au (by rw [hsg]; rfl) (by rfl)
   · have hB : po s s := ad0 (.inr ⟨hs1, by rw [hbb]; exact g2⟩)
     (repeat ((repeat1' (first | simp -implicitDefEqProofs -dsimp only [go_sem, g2] | simp -dsimp (disch := omega) only [wrap_i64])); repeat (with_reducible refine ah ?_)))
     have hts := hB.le
     (repeat ((repeat1' (first | simp -implicitDefEqProofs -dsimp only [go_sem] | simp -dsimp (disch := omega) only [wrap_i64])); repeat (with_reducible refine ah ?_)))
     (have ct := fa (s.size : Int) 1 6; (first | refine al.at ct ⟨leA, leA, leA, trivial⟩ ?_ | refine ak.at ct ⟨leA, leA, leA, trivial⟩ ?_); clear ct)
     (repeat ((repeat1' (first | simp -implicitDefEqProofs -dsimp only [go_sem] | simp -dsimp (disch := omega) only [wrap_i64])); repeat (with_reducible refine ah ?_)))
     refine bc.split (fun g1 => ?_) (fun g1 => ?_) <;> (repeat ((repeat1' (first | simp -implicitDefEqProofs -dsimp only [go_sem, g1] | simp -dsimp (disch := omega) only [wrap_i64])); repeat (with_reducible refine ah ?_)))
     · have hr : ¬ (1 ≤ s.size ∧ s.size ≤ 6) := by
        have : ed (s.size : Int) 1 6 = false := by simpa using g1
        intro hx
        have h2 : ed (s.size : Int) 1 6 = true := fe.2 ⟨by omega, by omega⟩
        rw [this] at h2; cases h2
       rw [jc, hB.no (.inl hr)]
       exact aj.au rfl (by rfl)
     have hr : ed (s.size : Int) 1 6 = true := by simpa using g1
     have hr2 := fe.1 hr
     have hl : s.data.toList.length = s.size := ew s
     have hl6 : s.size ≤ 6 := by omega
     refine de.intro (fun i : Nat => i ≤ s.size ∧ (s.data.toList.take i).all fo = true) (fun i => ⟨[.str s, .undef, .undef, .undef, .str s, .int .i64 (jd 0 (s.data.toList.take i)), .int .i64 i, .undef, .undef, .undef, .undef, .undef, .undef, .undef, .undef, .undef, .undef, .undef, .undef, .undef, .undef, .undef, .undef, .undef, .undef, .undef, .undef, .undef, .undef, .undef, .undef, .undef, .undef, .undef, .undef, .undef, .undef, .undef, .undef, .undef, .undef, .undef, .undef, .undef, .undef, .undef, .undef, .undef, .undef, .undef, .undef, .undef, .undef, .undef, .undef, .undef, .undef, .undef], [], 0⟩) (fun i => s.size - i) 0 ⟨Nat.zero_le _, rfl⟩ ?_ (fun i hi => ?_)
     · refine bt.cut (0) (by simp) (by simp) ?_ ?_
       · simp [LeC, LeV, ren, br, kb]
       · rfl
     simp -implicitDefEqProofs -dsimp only [go_sem]
     refine bc.split (fun h1 => ?_) (fun h1 => ?_)
     · have hi' : i < s.size := by simpa using h1
       have hsm := ks hi.2 (by rw [List.length_take]; omega)
       have hst : s.data.toList.take (i + 1) = s.data.toList.take i ++ [s[i]'hi'] := by
        rw [List.take_succ_eq_append_getElem (by rw [hl]; exact hi'), lu s hi']
       have hbad : fo (s[i]'hi') = false → cq s = none := fun hd => hB.no (.inr (by
        rw [List.all_eq_false]
        exact ⟨s[i]'hi', by rw [← lu s hi']; exact List.getElem_mem _, by simp [hd]⟩))
       simp -implicitDefEqProofs -dsimp only [go_sem, h1]
       refine ⟨⟨by omega, hi'⟩, ?_⟩
       refine ax.ch (fun h2 => ?_) (fun h2 => ?_) <;> simp -implicitDefEqProofs -dsimp only [go_sem, h2]
       · refine ⟨⟨by omega, hi'⟩, ?_⟩
         refine bc.split (fun h3 => ?_) (fun h3 => ?_) <;> simp -implicitDefEqProofs -dsimp only [go_sem, h3]
         · rw [jc, hbad (by simp at h3; simp only [fo, Bool.and_eq_false_iff, decide_eq_false_iff_not]; omega)]
           exact aj.au rfl (by rfl)
         · have hdg : fo (s[i]'hi') = true := by simp at h2 h3; simp only [fo, Bool.and_eq_true, decide_eq_true_eq]; omega
           have hdg2 := hdg
           simp only [fo, Bool.and_eq_true, decide_eq_true_eq] at hdg2
           have hvs : jd 0 (s.data.toList.take (i + 1)) = jd 0 (s.data.toList.take i) * 10 + ((s[i]'hi').toNat - 48) := by rw [hst, w4, kz, kb, nk]
           have hw8 : IntKind.u8.wrap (((s[i]'hi').toNat : Int) - 48) = ((s[i]'hi').toNat : Int) - 48 := by rw [IntKind.wrap_u8]; omega
           refine ⟨⟨by omega, hi'⟩, i + 1, ⟨hi', by rw [hst, List.all_append, hi.2]; simp [hdg]⟩, ?_, by omega⟩
           refine bt.cut (0) (by simp) (by simp) ?_ ?_
           · rw [hvs, hw8, wrap_i64 (n := 10 * _) (by omega) (by omega), wrap_i64 (n := _ - 48) (by omega) (by omega), wrap_i64 (n := 10 * _ + _) (by omega) (by omega), wrap_i64 (n := (i : Int) + 1) (by omega) (by omega)]
             simp [LeC, LeV, ren, br]
             try omega
           · rfl
       · rw [jc, hbad (by simp at h2; simp only [fo, Bool.and_eq_false_iff, decide_eq_false_iff_not]; omega)]
         exact aj.au rfl (by rfl)
     · have hi' : i = s.size := by have := of_decide_eq_false h1; omega
       subst hi'
       have htk : s.data.toList.take s.size = s.data.toList := by rw [← hl, List.take_length]
       simp only [htk] at hi ⊢
       have hsm := ks hi.2 (by omega)
       simp -implicitDefEqProofs -dsimp only [go_sem, h1]
       have hsg : yw s s (jd 0 s.data.toList) = ((jd 0 s.data.toList : Nat) : Int) := by unfold yw; rw [if_neg (by omega)]
       (have ct := fh ((jd 0 s.data.toList : Nat) : Int) (by omega) (by omega); (first | refine al.at ct ⟨leA, trivial⟩ ?_ | refine ak.at ct ⟨leA, trivial⟩ ?_); clear ct)
       rw [← hsg]
       (repeat ((repeat1' (first | simp -implicitDefEqProofs -dsimp only [go_sem, gp] | simp -dsimp (disch := omega) only [wrap_i64])); repeat (with_reducible refine ah ?_)))
       refine bc.split (fun h3 => ?_) (fun h3 => ?_) <;> (repeat ((repeat1' (first | simp -implicitDefEqProofs -dsimp only [go_sem, h3] | simp -dsimp (disch := omega) only [wrap_i64])); repeat (with_reducible refine ah ?_)))
       · rw [jc, hB.not (by simpa using h3)]
         exact aj.au rfl (by rfl)
       · rw [jc, hB.yes hi.2 hl6 (by simpa using h3)]
         exact aj.au (by rw [hsg]; rfl) (by rfl)
 · have hB : po s s := ad0 (.inl (by simp at g0; omega))
   have hts := hB.le
   (repeat ((repeat1' (first | simp -implicitDefEqProofs -dsimp only [go_sem] | simp -dsimp (disch := omega) only [wrap_i64])); repeat (with_reducible refine ah ?_)))
   (have ct := fa (s.size : Int) 1 6; (first | refine al.at ct ⟨leA, leA, leA, trivial⟩ ?_ | refine ak.at ct ⟨leA, leA, leA, trivial⟩ ?_); clear ct)
   (repeat ((repeat1' (first | simp -implicitDefEqProofs -dsimp only [go_sem] | simp -dsimp (disch := omega) only [wrap_i64])); repeat (with_reducible refine ah ?_)))
   refine bc.split (fun g1 => ?_) (fun g1 => ?_) <;> (repeat ((repeat1' (first | simp -implicitDefEqProofs -dsimp only [go_sem, g1] | simp -dsimp (disch := omega) only [wrap_i64])); repeat (with_reducible refine ah ?_)))
   · have hr : ¬ (1 ≤ s.size ∧ s.size ≤ 6) := by
      have : ed (s.size : Int) 1 6 = false := by simpa using g1
      intro hx
      have h2 : ed (s.size : Int) 1 6 = true := fe.2 ⟨by omega, by omega⟩
      rw [this] at h2; cases h2
     rw [jc, hB.no (.inl hr)]
     exact aj.au rfl (by rfl)
   have hr : ed (s.size : Int) 1 6 = true := by simpa using g1
   have hr2 := fe.1 hr
   have hl : s.data.toList.length = s.size := ew s
   have hl6 : s.size ≤ 6 := by omega
   refine de.intro (fun i : Nat => i ≤ s.size ∧ (s.data.toList.take i).all fo = true) (fun i => ⟨[.str s, .undef, .undef, .undef, .str s, .int .i64 (jd 0 (s.data.toList.take i)), .int .i64 i, .undef, .undef, .undef, .undef, .undef, .undef, .undef, .undef, .undef, .undef, .undef, .undef, .undef, .undef, .undef, .undef, .undef, .undef, .undef, .undef, .undef, .undef, .undef, .undef, .undef, .undef, .undef, .undef, .undef, .undef, .undef, .undef, .undef, .undef, .undef, .undef, .undef, .undef, .undef, .undef, .undef, .undef, .undef, .undef, .undef, .undef, .undef, .undef, .undef, .undef, .undef], [], 0⟩) (fun i => s.size - i) 0 ⟨Nat.zero_le _, rfl⟩ ?_ (fun i hi => ?_)
   · refine bt.cut (0) (by simp) (by simp) ?_ ?_
     · simp [LeC, LeV, ren, br, kb]
     · rfl
   simp -implicitDefEqProofs -dsimp only [go_sem]
   refine bc.split (fun h1 => ?_) (fun h1 => ?_)
   · have hi' : i < s.size := by simpa using h1
     have hsm := ks hi.2 (by rw [List.length_take]; omega)
     have hst : s.data.toList.take (i + 1) = s.data.toList.take i ++ [s[i]'hi'] := by
      rw [List.take_succ_eq_append_getElem (by rw [hl]; exact hi'), lu s hi']
     have hbad : fo (s[i]'hi') = false → cq s = none := fun hd => hB.no (.inr (by
      rw [List.all_eq_false]
      exact ⟨s[i]'hi', by rw [← lu s hi']; exact List.getElem_mem _, by simp [hd]⟩))
     simp -implicitDefEqProofs -dsimp only [go_sem, h1]
     refine ⟨⟨by omega, hi'⟩, ?_⟩
     refine ax.ch (fun h2 => ?_) (fun h2 => ?_) <;> simp -implicitDefEqProofs -dsimp only [go_sem, h2]
     · refine ⟨⟨by omega, hi'⟩, ?_⟩
       refine bc.split (fun h3 => ?_) (fun h3 => ?_) <;> simp -implicitDefEqProofs -dsimp only [go_sem, h3]
       · rw [jc, hbad (by simp at h3; simp only [fo, Bool.and_eq_false_iff, decide_eq_false_iff_not]; omega)]
         exact aj.au rfl (by rfl)
       · have hdg : fo (s[i]'hi') = true := by simp at h2 h3; simp only [fo, Bool.and_eq_true, decide_eq_true_eq]; omega
         have hdg2 := hdg
         simp only [fo, Bool.and_eq_true, decide_eq_true_eq] at hdg2
         have hvs : jd 0 (s.data.toList.take (i + 1)) = jd 0 (s.data.toList.take i) * 10 + ((s[i]'hi').toNat - 48) := by rw [hst, w4, kz, kb, nk]
         have hw8 : IntKind.u8.wrap (((s[i]'hi').toNat : Int) - 48) = ((s[i]'hi').toNat : Int) - 48 := by rw [IntKind.wrap_u8]; omega
         refine ⟨⟨by omega, hi'⟩, i + 1, ⟨hi', by rw [hst, List.all_append, hi.2]; simp [hdg]⟩, ?_, by omega⟩
         refine bt.cut (0) (by simp) (by simp) ?_ ?_
         · rw [hvs, hw8, wrap_i64 (n := 10 * _) (by omega) (by omega), wrap_i64 (n := _ - 48) (by omega) (by omega), wrap_i64 (n := 10 * _ + _) (by omega) (by omega), wrap_i64 (n := (i : Int) + 1) (by omega) (by omega)]
           simp [LeC, LeV, ren, br]
           try omega
         · rfl
     · rw [jc, hbad (by simp at h2; simp only [fo, Bool.and_eq_false_iff, decide_eq_false_iff_not]; omega)]
       exact aj.au rfl (by rfl)
   · have hi' : i = s.size := by have := of_decide_eq_false h1; omega
     subst hi'
     have htk : s.data.toList.take s.size = s.data.toList := by rw [← hl, List.take_length]
     simp only [htk] at hi ⊢
     have hsm := ks hi.2 (by omega)
     simp -implicitDefEqProofs -dsimp only [go_sem, h1]
     have hsg : yw s s (jd 0 s.data.toList) = ((jd 0 s.data.toList : Nat) : Int) := by unfold yw; rw [if_neg (by omega)]
     (have ct := fh ((jd 0 s.data.toList : Nat) : Int) (by omega) (by omega); (first | refine al.at ct ⟨leA, trivial⟩ ?_ | refine ak.at ct ⟨leA, trivial⟩ ?_); clear ct)
     rw [← hsg]
     (repeat ((repeat1' (first | simp -implicitDefEqProofs -dsimp only [go_sem, gp] | simp -dsimp (disch := omega) only [wrap_i64])); repeat (with_reducible refine ah ?_)))
     refine bc.split (fun h3 => ?_) (fun h3 => ?_) <;> (repeat ((repeat1' (first | simp -implicitDefEqProofs -dsimp only [go_sem, h3] | simp -dsimp (disch := omega) only [wrap_i64])); repeat (with_reducible refine ah ?_)))
     · rw [jc, hB.not (by simpa using h3)]
       exact aj.au rfl (by rfl)
     · rw [jc, hB.yes hi.2 hl6 (by simpa using h3)]
       exact aj.au (by rw [hsg]; rfl) (by rfl)
end Go.Proofs
end
section
set_option maxRecDepth 100000
namespace Go.Proofs
open Go.Lv
structure ay where
 Station : Int
 Up : Bool
 Since : Int
def ay.cs (r : ay) : List V := [.int .i64 r.Station, .bool r.Up, .int .i64 r.Since]
def ay.v (r : ay) : V := .agg [.int .i64 r.Station, .bool r.Up, .int .i64 r.Since]
theorem ay.csl (a : ay) : a.cs.length = 3 := rfl
theorem ay.csp (a : ay) : a.cs.all (cb 2) = true := rfl
instance : pn ay.cs 3 := ⟨fun _ => rfl, fun _ d => by cases d <;> rfl, fun _ => rfl, fun _ => rfl⟩
def ay.ok (r : ay) : Prop := gz r.Station ∧ gz r.Since
abbrev ay.rows (L : List ay) : List V := Go.Lv.rows ay.cs L
abbrev ay.sl (L : List ay) : V := .sl L.length 3 (Go.Lv.rows ay.cs L)
abbrev ay.zs : List V := [.int .i64 0, .bool false, .int .i64 0]
def ay.mk1 (k : Int) : ay := ⟨k, ((k + 1).tmod 3 == 0), k + 1 + 1⟩
def ay.marks (k : Int) (n : Nat) : List ay := (List.range n).map fun i : Nat => ay.mk1 (k + 3 * (i : Int))
@[simp] theorem ay.fx (k : Int) (n : Nat) : (ay.marks k n).length = n := by simp [ay.marks]
theorem ay.kv (k : Int) (n : Nat) : ay.marks k (n + 1) = ay.marks k n ++ [ay.mk1 (k + 3 * (n : Int))] := by simp [ay.marks, List.range_succ]
theorem ay.ml (k : Int) (n : Nat) {i : Nat} (hi : i < (ay.marks k n).length) : (ay.marks k n)[i] = ay.mk1 (k + 3 * (i : Int)) := by simp [ay.marks]
theorem ad2 (r : ay) : Ctr Tryz.prog 218 [r.v] [] r.v [] := by
 refine Ctr.intro Tryz.mixed Tryz.func218 rfl Tryz.ayk ?_
 simp -implicitDefEqProofs -dsimp only [go_sem, Tryz.ntmps218, Tryz.results218]
 simp -implicitDefEqProofs -dsimp only [go_sem, ay.v]
 exact aj.au rfl rfl
theorem abw (L : List ay) (hl : L.length ≤ 1048576) : Ctr Tryz.prog 173 [ay.sl L] [] (.osl 0 0 L.length 3) [some (rows ay.cs L)] := by
 refine Ctr.intro Tryz.mixed Tryz.func173 rfl Tryz.ayb ?_
 simp -implicitDefEqProofs -dsimp only [go_sem, Tryz.ntmps173, Tryz.results173]
 refine ⟨by omega, by omega, by omega, ?_⟩
 refine de.intro (fun i : Nat => i ≤ L.length) (fun i => ⟨[ay.sl L, .undef, .undef, .osl 0 0 L.length 3, .int .i64 i, .undef, .undef, .undef, .undef, .undef, .undef, .undef, .undef, .undef, .undef, .undef, .undef, .undef, .undef, .undef, .undef, .undef, .undef], [some (filled ay.cs 3 ay.zs L i)], 0⟩) (fun i => L.length - i) 0 (Nat.zero_le _) ?_ (fun i hi => ?_)
 · refine bt.cut (1) (by simp) (by simp) ?_ ?_
   · simp [LeC, LeV, ren, br]
   · rw [zg]
     simp only [cd, List.take, List.map]
     rw [ky (aba rfl (by decide) _)]
 simp -implicitDefEqProofs -dsimp only [go_sem]
 refine bc.split (fun h1 => ?_) (fun h1 => ?_)
 · simp -implicitDefEqProofs -dsimp only [go_sem, h1]
   have hi' : i < L.length := by simpa using h1
   rw [bu ay.csl hi']
   refine ⟨by omega, by simp [ay.csl], ?_⟩
   (first | refine al.at (ad2 L[i]) ⟨.inl rfl, trivial⟩ ?_ | refine ak.at (ad2 L[i]) ⟨.inl rfl, trivial⟩ ?_)
   simp -implicitDefEqProofs -dsimp only [go_sem, ay.v]
   refine ⟨⟨by omega, by omega⟩, by rw [abv ay.csl hi]; omega, i + 1, hi', ?_, by omega⟩
   refine bt.cut (1) (by simp) (by simp) ?_ ?_
   · rw [wrap_i64 (by omega) (by omega)]
     simp [LeC, LeV, ren, br]
   · have := zw (zs := ay.zs) ay.csl rfl hi'
     simp only [ay.cs] at this ⊢
     rw [this]
     simp only [cd, List.take, List.map]
     rw [ky (xt (by decide) rfl (fun a => by exact ay.csp a))]
 · simp -implicitDefEqProofs -dsimp only [go_sem, h1]
   have hi' : i = L.length := by simp at h1; omega
   subst hi'
   rw [abu ay.csl (Nat.le_refl _)]
   exact aj.refl _ _ _
theorem mg (L : List ay) (n : Int) (hl : L.length ≤ 9223372036854775807) (hn : 0 ≤ n) (hn2 : n ≤ 1048576) : Ctr Tryz.prog 171 [ay.sl L, .int .i64 n] [] (.int .i64 (if n < L.length then -1 else n - L.length)) [] := by
 refine Ctr.intro Tryz.mixed Tryz.func171 rfl Tryz.ayv ?_
 simp -implicitDefEqProofs -dsimp only [go_sem, Tryz.ntmps171, Tryz.results171]
 rw [wrap_i64 (by omega) (by omega)]
 refine bc.split (fun h1 => ?_) (fun h1 => ?_) <;> simp -implicitDefEqProofs -dsimp only [go_sem, h1]
 · exact aj.of_eq (by simp at h1; rw [if_pos (by omega)])
 · exact aj.of_eq (by simp at h1; rw [if_neg (by omega)])
theorem aec (r : ay) : Ctr Tryz.prog 220 [r.v, r.v] [] (.bool true) [] := by
 refine Ctr.intro Tryz.mixed Tryz.func220 rfl Tryz.av9 ?_
 simp -implicitDefEqProofs -dsimp only [go_sem, Tryz.ntmps220, Tryz.results220]
 simp -implicitDefEqProofs -dsimp only [go_sem, ay.v, bne_self_eq_false, beq_self_eq_true, Bool.not_true]
 exact aj.au rfl rfl
theorem aic (L : List ay) (hl : L.length ≤ 281474976710656) : Ctr Tryz.prog 175 [ay.sl L, ay.sl L] [] (.bool true) [] := by
 refine Ctr.intro Tryz.mixed Tryz.func175 rfl Tryz.av8 ?_
 simp -implicitDefEqProofs -dsimp only [go_sem, Tryz.ntmps175, Tryz.results175]
 refine de.intro (fun i : Nat => i ≤ L.length) (fun i => ⟨[ay.sl L, ay.sl L, .undef, .undef, .undef, .int .i64 i, .undef, .undef, .undef, .undef, .undef, .undef, .undef, .undef, .undef, .undef, .undef, .undef, .undef, .undef, .undef, .undef, .undef, .undef, .undef, .undef, .undef], [], 0⟩) (fun i => L.length - i) 0 (Nat.zero_le _) ?_ (fun i hi => ?_)
 · refine bt.cut (0) (by simp) (by simp) ?_ ?_
   · simp [LeC, LeV, ren, br]
   · rfl
 simp -implicitDefEqProofs -dsimp only [go_sem]
 refine bc.split (fun h1 => ?_) (fun h1 => ?_)
 · simp -implicitDefEqProofs -dsimp only [go_sem, h1]
   have hi' : i < L.length := by simpa using h1
   rw [bu ay.csl hi']
   have h5 := ay.csl L[i]
   refine ⟨by kernel_rfl, ⟨by omega, by omega⟩, by omega, ⟨by omega, by omega⟩, by omega, ?_⟩
   (first | refine al.at (aec L[i]) ⟨.inl rfl, .inl rfl, trivial⟩ ?_ | refine ak.at (aec L[i]) ⟨.inl rfl, .inl rfl, trivial⟩ ?_)
   simp -implicitDefEqProofs -dsimp only [go_sem]
   refine ⟨i + 1, hi', ?_, by omega⟩
   refine bt.cut (0) (by simp) (by simp) ?_ ?_
   · rw [wrap_i64 (by omega) (by omega)]
     simp [LeC, LeV, ren, br]
   · rfl
 · simp -implicitDefEqProofs -dsimp only [go_sem, h1]
   exact aj.refl _ _ _
theorem aem (L : List ay) (kk : Int) (hl : L.length ≤ 281474976710656) (hk : 0 ≤ kk) (hk2 : kk ≤ 281474976710656) : Ctr Tryz.prog 177 [.osl 0 0 L.length 3, .int .i64 kk] [some (rows ay.cs L)] (.int .i64 (kk + 3 * L.length)) [some (rows ay.cs (ay.marks kk L.length))] := by
 refine Ctr.intro Tryz.mixed Tryz.func177 rfl Tryz.avv ?_
 simp -implicitDefEqProofs -dsimp only [go_sem, Tryz.ntmps177, Tryz.results177]
 refine de.intro (fun i : Nat => i ≤ L.length) (fun i => ⟨[.osl 0 0 L.length 3, .int .i64 (kk + 3 * (i : Int)), .undef, .undef, .undef, .int .i64 i, .undef, .undef, .undef, .undef, .undef, .undef, .undef, .undef, .undef, .undef, .undef, .undef, .undef, .undef, .undef, .undef, .undef, .undef, .undef, .undef, .undef, .undef, .undef, .undef, .undef, .undef, .undef, .undef, .undef, .undef], [some (rows ay.cs (ay.marks kk i ++ L.drop i))], 1⟩) (fun i => L.length - i) 0 (Nat.zero_le _) ?_ (fun i hi => ?_)
 · refine bt.cut (1) (by simp) (by simp) ?_ ?_
   · simp [LeC, LeV, ren, br]
   · simp only [cd, List.take, List.map]
     rw [ky (ji ay.csp _)]
     simp [ay.marks]
 simp -implicitDefEqProofs -dsimp only [go_sem]
 refine bc.split (fun h1 => ?_) (fun h1 => ?_)
 · simp -implicitDefEqProofs -dsimp only [go_sem, h1]
   have hi' : i < L.length := by simpa using h1
   have hA : (rows ay.cs (ay.marks kk i)).length = i * 3 := by rw [jk ay.csl, ay.fx]
   have hB : rows ay.cs (ay.marks kk i ++ L.drop i) = rows ay.cs (ay.marks kk i) ++ (ay.cs L[i] ++ rows ay.cs (L.drop (i + 1))) := by
    rw [c8, List.drop_eq_getElem_cons hi', dx]
   rw [hB]
   have hsp : ∀ (M ns : List V) (j : Nat), ck (rows ay.cs (ay.marks kk i) ++ M) (i * 3 + j) ns = rows ay.cs (ay.marks kk i) ++ ck M j ns := fun M ns j => sk hA
   have hsp0 : ∀ (M ns : List V), ck (rows ay.cs (ay.marks kk i) ++ M) (i * 3) ns = rows ay.cs (ay.marks kk i) ++ ck M 0 ns := fun M ns => uu hA
   (repeat1' (first | simp -implicitDefEqProofs -dsimp only [go_sem, hsp, hsp0, List.length_append, hA, ay.cs] | simp -dsimp (disch := omega) only [wrap_i64]))
   repeat (with_reducible refine ah ?_)
   refine ⟨i + 1, hi', ?_, by omega⟩
   refine bt.cut (1) (by simp) (by simp) ?_ ?_
   · simp [LeC, LeV, ren, br]
     omega
   · have e : rows ay.cs (ay.marks kk (i + 1) ++ L.drop (i + 1)) = rows ay.cs (ay.marks kk i) ++ (ay.cs (ay.mk1 (kk + 3 * (i : Int))) ++ rows ay.cs (L.drop (i + 1))) := by
      rw [ay.kv, List.append_assoc, c8, c8, wz]
     rw [e]
     simp only [cd, List.take, List.map]
     rw [ky (by rw [List.all_append, ji ay.csp]; simp only [List.all_cons, cb, ji ay.csp, Bool.and_self])]
     simp [ay.cs, ay.mk1, Int.add_assoc]
 · simp -implicitDefEqProofs -dsimp only [go_sem, h1]
   have hi' : i = L.length := by simp at h1; omega
   subst hi'
   rw [List.drop_length, List.append_nil]
   exact aj.of_eq (by simp)
theorem afp (n : Nat) (kk : Int) (hl : n ≤ 281474976710656) (hk : 0 ≤ kk) (hk2 : kk ≤ 281474976710656) : Ctr Tryz.prog 179 [ay.sl (ay.marks kk n), .int .i64 kk] [] (.int .i64 (kk + 3 * n)) [] := by
 refine Ctr.intro Tryz.mixed Tryz.func179 rfl Tryz.aye ?_
 simp -implicitDefEqProofs -dsimp only [go_sem, Tryz.ntmps179, Tryz.results179]
 refine de.intro (fun i : Nat => i ≤ n) (fun i => ⟨[ay.sl (ay.marks kk n), .int .i64 (kk + 3 * (i : Int)), .undef, .undef, .undef, .int .i64 i, .undef, .undef, .undef, .undef, .undef, .undef, .undef, .undef, .undef, .undef, .undef, .undef, .undef, .undef, .undef, .undef, .undef, .undef, .undef, .undef, .undef, .undef, .undef, .undef, .undef, .undef, .undef, .undef, .undef, .undef, .undef, .undef, .undef, .undef, .undef, .undef], [], 0⟩) (fun i => n - i) 0 (Nat.zero_le _) ?_ (fun i hi => ?_)
 · refine bt.cut (0) (by simp) (by simp) ?_ ?_
   · simp [LeC, LeV, ren, br]
   · rfl
 simp -implicitDefEqProofs -dsimp only [go_sem]
 refine bc.split (fun h1 => ?_) (fun h1 => ?_)
 · simp -implicitDefEqProofs -dsimp only [go_sem, h1]
   have hi' : i < n := by simpa using h1
   have hr := bu ay.csl (L := ay.marks kk n) (i := i) (by rw [ay.fx]; exact hi')
   rw [ay.ml] at hr
   (repeat1' (first | simp -implicitDefEqProofs -dsimp only [go_sem, hr, ay.fx, ay.cs, ay.mk1, bne_self_eq_false, beq_self_eq_true] | simp -dsimp (disch := omega) only [wrap_i64]))
   repeat (with_reducible refine ah ?_)
   refine ⟨i + 1, hi', ?_, by omega⟩
   refine bt.cut (0) (by simp) (by simp) ?_ ?_
   · simp [LeC, LeV, ren, br]
     omega
   · rfl
 · simp -implicitDefEqProofs -dsimp only [go_sem, h1]
   have hi' : i = n := by simp at h1; omega
   subst hi'
   exact aj.of_eq (by simp)
theorem rq (L : List ay) (p : ay → Bool) (key : ay → Int) (most : Int) (fv fk : Nat) (vc kc : List V) (hvc : ∀ d, vc.all (cb d) = true) (hkc : ∀ d, kc.all (cb d) = true) (hv : ∀ x, Ctr Tryz.prog fv (ay.v x :: vc) [] (.bool (p x)) []) (hkey : ∀ x, Ctr Tryz.prog fk (ay.v x :: kc) [] (.int .i64 (key x)) []) (m : Nat) (hm : most = m) (hl : L.length ≤ 281474976710656) :
 Ctr Tryz.prog 167 [ay.sl L, .int .i64 most, .fn (.func fv) [] vc, .fn (.func fk) [] kc] [] (.bool (ib p key m L)) [] := by
 subst hm
 refine Ctr.intro Tryz.mixed Tryz.func167 rfl Tryz.aw9 ?_
 simp -implicitDefEqProofs -dsimp only [go_sem, Tryz.ntmps167, Tryz.results167]
 have hvc2 : ∀ f d, vc.map (ren f d) = vc := fun f d => oe f (hvc d)
 have hkc2 : ∀ f d, kc.map (ren f d) = kc := fun f d => oe f (hkc d)
 refine de.intro (fun i : Nat => i ≤ L.length ∧ (List.range i).all (fj p key L) = true) (fun i => ⟨[ay.sl L, .int .i64 m, .fn (.func fv) [] vc, .fn (.func fk) [] kc, .undef, .undef, .undef, .undef, .undef, .undef, .undef, ay.sl L, .int .i64 L.length, .int .i64 i, .undef, .undef, .undef, .undef, .undef, .undef, .undef, .undef, .undef, .undef, .undef, .undef, .undef, .undef, .undef, .undef, .undef, .undef, .undef, .undef, .undef, .undef, .undef, .undef, .undef, .undef, .undef, .undef, .undef, .undef], [], 0⟩) (fun i => L.length - i) 0 ⟨Nat.zero_le _, rfl⟩ ?_ (fun i hi => ?_)
 · refine bt.cut (0) (by simp) (by simp) ?_ ?_
   · simp [LeC, LeV, ren, br, hvc2, hkc2]
   · rfl
 simp -implicitDefEqProofs -dsimp only [go_sem]
 refine bc.split (fun h1 => ?_) (fun h1 => ?_)
 · simp -implicitDefEqProofs -dsimp only [go_sem, h1]
   have hi' : i < L.length := by simpa using h1
   have h5 := ay.csl L[i]
   have hr := bu ay.csl hi'
   (repeat1' (first | simp -implicitDefEqProofs -dsimp only [go_sem, hr, ay.cs] | simp -dsimp (disch := omega) only [wrap_i64]))
   repeat (with_reducible refine ah ?_)
   refine al.intro (hv L[i]) ⟨.inl rfl, ki (hvc2 _ _)⟩ (.inl (by simp only [List.nil_append, List.cons_append, List.all_cons, hvc, Bool.and_true]; rfl)) ⟨ru (hvc 3), rfl⟩ ?_
   simp -implicitDefEqProofs -dsimp only [go_sem]
   refine ax.ch (fun h2 => ?_) (fun h2 => ?_) <;> simp -implicitDefEqProofs -dsimp only [go_sem, h2]
   · have hw : p L[i] = true := by simpa using h2
     refine ax.bq (fun h3 => ?_) (fun h3 => ?_) <;> simp -implicitDefEqProofs -dsimp only [go_sem, h3]
     · obtain ⟨j, rfl⟩ : ∃ j, i = j + 1 := ⟨i - 1, by simp at h3; omega⟩
       have hj : j < L.length := by omega
       refine al.intro (hkey L[j + 1]) ⟨.inl rfl, ki (hkc2 _ _)⟩ (.inl (by simp only [List.nil_append, List.cons_append, List.all_cons, hkc, Bool.and_true]; rfl)) ⟨ru (hkc 3), rfl⟩ ?_
       have hw1 : IntKind.i64.wrap (((j + 1 : Nat) : Int) - 1) = (j : Int) := by rw [wrap_i64 (by omega) (by omega)]; omega
       have hr2 := bu ay.csl hj
       (repeat1' (first | simp -implicitDefEqProofs -dsimp only [go_sem, hw1, hr2, ay.cs] | simp -dsimp (disch := omega) only [wrap_i64]))
       repeat (with_reducible refine ah ?_)
       refine al.intro (hkey L[j]) ⟨.inl rfl, ki (hkc2 _ _)⟩ (.inl (by simp only [List.nil_append, List.cons_append, List.all_cons, hkc, Bool.and_true]; rfl)) ⟨ru (hkc 3), rfl⟩ ?_
       (repeat1' (first | simp -implicitDefEqProofs -dsimp only [go_sem] | simp -dsimp (disch := omega) only [wrap_i64]))
       refine bc.split (fun h4 => ?_) (fun h4 => ?_) <;> simp -implicitDefEqProofs -dsimp only [go_sem, h4]
       · refine aj.au ?_ rfl
         have hq : fj p key L (j + 1) = false := by
          rw [fu hi', hw]
          simp at h4 ⊢
          omega
         rw [iy hi' hq]
       · refine ⟨j + 1 + 1, ⟨hi', fg hi.2 (by rw [fu hi', hw]; simp at h4 ⊢; omega)⟩, ?_, by omega⟩
         refine bt.cut (0) (by simp) (by simp) ?_ ?_
         · rw [wrap_i64 (by omega) (by omega)]
           simp [LeC, LeV, ren, br, hvc2, hkc2]
         · rfl
     · have h0 : i = 0 := by simp at h3; omega
       refine ⟨i + 1, ⟨hi', fg hi.2 (by subst h0; rw [jy hi', hw])⟩, ?_, by omega⟩
       refine bt.cut (0) (by simp) (by simp) ?_ ?_
       · rw [wrap_i64 (by omega) (by omega)]
         simp [LeC, LeV, ren, br, hvc2, hkc2]
       · rfl
   · have hw : p L[i] = false := by simpa using h2
     refine aj.au ?_ rfl
     have hq : fj p key L i = false := by simp [fj, hi', hw]
     rw [iy hi' hq]
 · simp -implicitDefEqProofs -dsimp only [go_sem, h1]
   refine aj.au ?_ rfl
   have : i = L.length := by simp at h1; omega
   subst this
   rw [ib, hi.2]
   simp
   try omega
end Go.Proofs
end
section
set_option maxRecDepth 100000
namespace Go.Proofs
open Go.Lv
structure ai where
 Number : Int
 State : Int
 Seen : Int
 Size : Int
 Tick : Int
def ai.cs (r : ai) : List V := [.int .i64 r.Number, .int .i64 r.State, .int .i64 r.Seen, .int .i64 r.Size, .int .i64 r.Tick]
def ai.v (r : ai) : V := .agg [.int .i64 r.Number, .int .i64 r.State, .int .i64 r.Seen, .int .i64 r.Size, .int .i64 r.Tick]
theorem ai.csl (a : ai) : a.cs.length = 5 := rfl
theorem ai.csp (a : ai) : a.cs.all (cb 2) = true := rfl
instance : pn ai.cs 5 := ⟨fun _ => rfl, fun _ d => by cases d <;> rfl, fun _ => rfl, fun _ => rfl⟩
def ai.ok (r : ai) : Prop := gz r.Number ∧ gz r.State ∧ gz r.Seen ∧ gz r.Size ∧ gz r.Tick
abbrev ai.rows (L : List ai) : List V := Go.Lv.rows ai.cs L
abbrev ai.sl (L : List ai) : V := .sl L.length 5 (Go.Lv.rows ai.cs L)
abbrev ai.zs : List V := [.int .i64 0, .int .i64 0, .int .i64 0, .int .i64 0, .int .i64 0]
def ai.mk1 (k : Int) : ai := ⟨k, k + 1, k + 1 + 1, k + 1 + 1 + 1, k + 1 + 1 + 1 + 1⟩
def ai.marks (k : Int) (n : Nat) : List ai := (List.range n).map fun i : Nat => ai.mk1 (k + 5 * (i : Int))
@[simp] theorem ai.fx (k : Int) (n : Nat) : (ai.marks k n).length = n := by simp [ai.marks]
theorem ai.kv (k : Int) (n : Nat) : ai.marks k (n + 1) = ai.marks k n ++ [ai.mk1 (k + 5 * (n : Int))] := by simp [ai.marks, List.range_succ]
theorem ai.ml (k : Int) (n : Nat) {i : Nat} (hi : i < (ai.marks k n).length) : (ai.marks k n)[i] = ai.mk1 (k + 5 * (i : Int)) := by simp [ai.marks]
theorem aco (r : ai) : Ctr Tryz.prog 219 [r.v] [] r.v [] := by
 refine Ctr.intro Tryz.mixed Tryz.func219 rfl Tryz.awa ?_
 simp -implicitDefEqProofs -dsimp only [go_sem, Tryz.ntmps219, Tryz.results219]
 simp -implicitDefEqProofs -dsimp only [go_sem, ai.v]
 exact aj.au rfl rfl
theorem zn (L : List ai) (hl : L.length ≤ 1048576) : Ctr Tryz.prog 174 [ai.sl L] [] (.osl 0 0 L.length 5) [some (rows ai.cs L)] := by
 refine Ctr.intro Tryz.mixed Tryz.func174 rfl Tryz.avu ?_
 simp -implicitDefEqProofs -dsimp only [go_sem, Tryz.ntmps174, Tryz.results174]
 refine ⟨by omega, by omega, by omega, ?_⟩
 refine de.intro (fun i : Nat => i ≤ L.length) (fun i => ⟨[ai.sl L, .undef, .undef, .osl 0 0 L.length 5, .int .i64 i, .undef, .undef, .undef, .undef, .undef, .undef, .undef, .undef, .undef, .undef, .undef, .undef, .undef, .undef, .undef, .undef, .undef, .undef], [some (filled ai.cs 5 ai.zs L i)], 0⟩) (fun i => L.length - i) 0 (Nat.zero_le _) ?_ (fun i hi => ?_)
 · refine bt.cut (1) (by simp) (by simp) ?_ ?_
   · simp [LeC, LeV, ren, br]
   · rw [zg]
     simp only [cd, List.take, List.map]
     rw [ky (aba rfl (by decide) _)]
 simp -implicitDefEqProofs -dsimp only [go_sem]
 refine bc.split (fun h1 => ?_) (fun h1 => ?_)
 · simp -implicitDefEqProofs -dsimp only [go_sem, h1]
   have hi' : i < L.length := by simpa using h1
   rw [bu ai.csl hi']
   refine ⟨by omega, by simp [ai.csl], ?_⟩
   (first | refine al.at (aco L[i]) ⟨.inl rfl, trivial⟩ ?_ | refine ak.at (aco L[i]) ⟨.inl rfl, trivial⟩ ?_)
   simp -implicitDefEqProofs -dsimp only [go_sem, ai.v]
   refine ⟨⟨by omega, by omega⟩, by rw [abv ai.csl hi]; omega, i + 1, hi', ?_, by omega⟩
   refine bt.cut (1) (by simp) (by simp) ?_ ?_
   · rw [wrap_i64 (by omega) (by omega)]
     simp [LeC, LeV, ren, br]
   · have := zw (zs := ai.zs) ai.csl rfl hi'
     simp only [ai.cs] at this ⊢
     rw [this]
     simp only [cd, List.take, List.map]
     rw [ky (xt (by decide) rfl (fun a => by exact ai.csp a))]
 · simp -implicitDefEqProofs -dsimp only [go_sem, h1]
   have hi' : i = L.length := by simp at h1; omega
   subst hi'
   rw [abu ai.csl (Nat.le_refl _)]
   exact aj.refl _ _ _
theorem qd (L : List ai) (n : Int) (hl : L.length ≤ 9223372036854775807) (hn : 0 ≤ n) (hn2 : n ≤ 1048576) : Ctr Tryz.prog 172 [ai.sl L, .int .i64 n] [] (.int .i64 (if n < L.length then -1 else n - L.length)) [] := by
 refine Ctr.intro Tryz.mixed Tryz.func172 rfl Tryz.aw3 ?_
 simp -implicitDefEqProofs -dsimp only [go_sem, Tryz.ntmps172, Tryz.results172]
 rw [wrap_i64 (by omega) (by omega)]
 refine bc.split (fun h1 => ?_) (fun h1 => ?_) <;> simp -implicitDefEqProofs -dsimp only [go_sem, h1]
 · exact aj.of_eq (by simp at h1; rw [if_pos (by omega)])
 · exact aj.of_eq (by simp at h1; rw [if_neg (by omega)])
theorem aa5 (r : ai) : Ctr Tryz.prog 221 [r.v, r.v] [] (.bool true) [] := by
 refine Ctr.intro Tryz.mixed Tryz.func221 rfl Tryz.auo ?_
 simp -implicitDefEqProofs -dsimp only [go_sem, Tryz.ntmps221, Tryz.results221]
 simp -implicitDefEqProofs -dsimp only [go_sem, ai.v, bne_self_eq_false, beq_self_eq_true, Bool.not_true]
 exact aj.au rfl rfl
theorem ag4 (L : List ai) (hl : L.length ≤ 281474976710656) : Ctr Tryz.prog 176 [ai.sl L, ai.sl L] [] (.bool true) [] := by
 refine Ctr.intro Tryz.mixed Tryz.func176 rfl Tryz.ayj ?_
 simp -implicitDefEqProofs -dsimp only [go_sem, Tryz.ntmps176, Tryz.results176]
 refine de.intro (fun i : Nat => i ≤ L.length) (fun i => ⟨[ai.sl L, ai.sl L, .undef, .undef, .undef, .int .i64 i, .undef, .undef, .undef, .undef, .undef, .undef, .undef, .undef, .undef, .undef, .undef, .undef, .undef, .undef, .undef, .undef, .undef, .undef, .undef, .undef, .undef], [], 0⟩) (fun i => L.length - i) 0 (Nat.zero_le _) ?_ (fun i hi => ?_)
 · refine bt.cut (0) (by simp) (by simp) ?_ ?_
   · simp [LeC, LeV, ren, br]
   · rfl
 simp -implicitDefEqProofs -dsimp only [go_sem]
 refine bc.split (fun h1 => ?_) (fun h1 => ?_)
 · simp -implicitDefEqProofs -dsimp only [go_sem, h1]
   have hi' : i < L.length := by simpa using h1
   rw [bu ai.csl hi']
   have h5 := ai.csl L[i]
   refine ⟨by kernel_rfl, ⟨by omega, by omega⟩, by omega, ⟨by omega, by omega⟩, by omega, ?_⟩
   (first | refine al.at (aa5 L[i]) ⟨.inl rfl, .inl rfl, trivial⟩ ?_ | refine ak.at (aa5 L[i]) ⟨.inl rfl, .inl rfl, trivial⟩ ?_)
   simp -implicitDefEqProofs -dsimp only [go_sem]
   refine ⟨i + 1, hi', ?_, by omega⟩
   refine bt.cut (0) (by simp) (by simp) ?_ ?_
   · rw [wrap_i64 (by omega) (by omega)]
     simp [LeC, LeV, ren, br]
   · rfl
 · simp -implicitDefEqProofs -dsimp only [go_sem, h1]
   exact aj.refl _ _ _
theorem ac2 (L : List ai) (kk : Int) (hl : L.length ≤ 281474976710656) (hk : 0 ≤ kk) (hk2 : kk ≤ 281474976710656) : Ctr Tryz.prog 178 [.osl 0 0 L.length 5, .int .i64 kk] [some (rows ai.cs L)] (.int .i64 (kk + 5 * L.length)) [some (rows ai.cs (ai.marks kk L.length))] := by
 refine Ctr.intro Tryz.mixed Tryz.func178 rfl Tryz.awr ?_
 simp -implicitDefEqProofs -dsimp only [go_sem, Tryz.ntmps178, Tryz.results178]
 refine de.intro (fun i : Nat => i ≤ L.length) (fun i => ⟨[.osl 0 0 L.length 5, .int .i64 (kk + 5 * (i : Int)), .undef, .undef, .undef, .int .i64 i, .undef, .undef, .undef, .undef, .undef, .undef, .undef, .undef, .undef, .undef, .undef, .undef, .undef, .undef, .undef, .undef, .undef, .undef, .undef, .undef, .undef, .undef, .undef, .undef, .undef, .undef, .undef, .undef, .undef, .undef, .undef, .undef, .undef, .undef, .undef, .undef, .undef, .undef, .undef, .undef, .undef, .undef], [some (rows ai.cs (ai.marks kk i ++ L.drop i))], 1⟩) (fun i => L.length - i) 0 (Nat.zero_le _) ?_ (fun i hi => ?_)
 · refine bt.cut (1) (by simp) (by simp) ?_ ?_
   · simp [LeC, LeV, ren, br]
   · simp only [cd, List.take, List.map]
     rw [ky (ji ai.csp _)]
     simp [ai.marks]
 simp -implicitDefEqProofs -dsimp only [go_sem]
 refine bc.split (fun h1 => ?_) (fun h1 => ?_)
 · simp -implicitDefEqProofs -dsimp only [go_sem, h1]
   have hi' : i < L.length := by simpa using h1
   have hA : (rows ai.cs (ai.marks kk i)).length = i * 5 := by rw [jk ai.csl, ai.fx]
   have hB : rows ai.cs (ai.marks kk i ++ L.drop i) = rows ai.cs (ai.marks kk i) ++ (ai.cs L[i] ++ rows ai.cs (L.drop (i + 1))) := by
    rw [c8, List.drop_eq_getElem_cons hi', dx]
   rw [hB]
   have hsp : ∀ (M ns : List V) (j : Nat), ck (rows ai.cs (ai.marks kk i) ++ M) (i * 5 + j) ns = rows ai.cs (ai.marks kk i) ++ ck M j ns := fun M ns j => sk hA
   have hsp0 : ∀ (M ns : List V), ck (rows ai.cs (ai.marks kk i) ++ M) (i * 5) ns = rows ai.cs (ai.marks kk i) ++ ck M 0 ns := fun M ns => uu hA
   (repeat1' (first | simp -implicitDefEqProofs -dsimp only [go_sem, hsp, hsp0, List.length_append, hA, ai.cs] | simp -dsimp (disch := omega) only [wrap_i64]))
   repeat (with_reducible refine ah ?_)
   refine ⟨i + 1, hi', ?_, by omega⟩
   refine bt.cut (1) (by simp) (by simp) ?_ ?_
   · simp [LeC, LeV, ren, br]
     omega
   · have e : rows ai.cs (ai.marks kk (i + 1) ++ L.drop (i + 1)) = rows ai.cs (ai.marks kk i) ++ (ai.cs (ai.mk1 (kk + 5 * (i : Int))) ++ rows ai.cs (L.drop (i + 1))) := by
      rw [ai.kv, List.append_assoc, c8, c8, wz]
     rw [e]
     simp only [cd, List.take, List.map]
     rw [ky (by rw [List.all_append, ji ai.csp]; simp only [List.all_cons, cb, ji ai.csp, Bool.and_self])]
     simp [ai.cs, ai.mk1, Int.add_assoc]
 · simp -implicitDefEqProofs -dsimp only [go_sem, h1]
   have hi' : i = L.length := by simp at h1; omega
   subst hi'
   rw [List.drop_length, List.append_nil]
   exact aj.of_eq (by simp)
theorem ac9 (n : Nat) (kk : Int) (hl : n ≤ 281474976710656) (hk : 0 ≤ kk) (hk2 : kk ≤ 281474976710656) : Ctr Tryz.prog 180 [ai.sl (ai.marks kk n), .int .i64 kk] [] (.int .i64 (kk + 5 * n)) [] := by
 refine Ctr.intro Tryz.mixed Tryz.func180 rfl Tryz.ay7 ?_
 simp -implicitDefEqProofs -dsimp only [go_sem, Tryz.ntmps180, Tryz.results180]
 refine de.intro (fun i : Nat => i ≤ n) (fun i => ⟨[ai.sl (ai.marks kk n), .int .i64 (kk + 5 * (i : Int)), .undef, .undef, .undef, .int .i64 i, .undef, .undef, .undef, .undef, .undef, .undef, .undef, .undef, .undef, .undef, .undef, .undef, .undef, .undef, .undef, .undef, .undef, .undef, .undef, .undef, .undef, .undef, .undef, .undef, .undef, .undef, .undef, .undef, .undef, .undef, .undef, .undef, .undef, .undef, .undef, .undef, .undef, .undef, .undef, .undef, .undef, .undef, .undef, .undef, .undef, .undef, .undef, .undef, .undef, .undef, .undef, .undef], [], 0⟩) (fun i => n - i) 0 (Nat.zero_le _) ?_ (fun i hi => ?_)
 · refine bt.cut (0) (by simp) (by simp) ?_ ?_
   · simp [LeC, LeV, ren, br]
   · rfl
 simp -implicitDefEqProofs -dsimp only [go_sem]
 refine bc.split (fun h1 => ?_) (fun h1 => ?_)
 · simp -implicitDefEqProofs -dsimp only [go_sem, h1]
   have hi' : i < n := by simpa using h1
   have hr := bu ai.csl (L := ai.marks kk n) (i := i) (by rw [ai.fx]; exact hi')
   rw [ai.ml] at hr
   (repeat1' (first | simp -implicitDefEqProofs -dsimp only [go_sem, hr, ai.fx, ai.cs, ai.mk1, bne_self_eq_false, beq_self_eq_true] | simp -dsimp (disch := omega) only [wrap_i64]))
   repeat (with_reducible refine ah ?_)
   refine ⟨i + 1, hi', ?_, by omega⟩
   refine bt.cut (0) (by simp) (by simp) ?_ ?_
   · simp [LeC, LeV, ren, br]
     omega
   · rfl
 · simp -implicitDefEqProofs -dsimp only [go_sem, h1]
   have hi' : i = n := by simp at h1; omega
   subst hi'
   exact aj.of_eq (by simp)
theorem qs (L : List ai) (p : ai → Bool) (key : ai → Int) (most : Int) (fv fk : Nat) (vc kc : List V) (hvc : ∀ d, vc.all (cb d) = true) (hkc : ∀ d, kc.all (cb d) = true) (hv : ∀ x, Ctr Tryz.prog fv (ai.v x :: vc) [] (.bool (p x)) []) (hkey : ∀ x, Ctr Tryz.prog fk (ai.v x :: kc) [] (.int .i64 (key x)) []) (m : Nat) (hm : most = m) (hl : L.length ≤ 281474976710656) :
 Ctr Tryz.prog 169 [ai.sl L, .int .i64 most, .fn (.func fv) [] vc, .fn (.func fk) [] kc] [] (.bool (ib p key m L)) [] := by
 subst hm
 refine Ctr.intro Tryz.mixed Tryz.func169 rfl Tryz.axe ?_
 simp -implicitDefEqProofs -dsimp only [go_sem, Tryz.ntmps169, Tryz.results169]
 have hvc2 : ∀ f d, vc.map (ren f d) = vc := fun f d => oe f (hvc d)
 have hkc2 : ∀ f d, kc.map (ren f d) = kc := fun f d => oe f (hkc d)
 refine de.intro (fun i : Nat => i ≤ L.length ∧ (List.range i).all (fj p key L) = true) (fun i => ⟨[ai.sl L, .int .i64 m, .fn (.func fv) [] vc, .fn (.func fk) [] kc, .undef, .undef, .undef, .undef, .undef, .undef, .undef, ai.sl L, .int .i64 L.length, .int .i64 i, .undef, .undef, .undef, .undef, .undef, .undef, .undef, .undef, .undef, .undef, .undef, .undef, .undef, .undef, .undef, .undef, .undef, .undef, .undef, .undef, .undef, .undef, .undef, .undef, .undef, .undef, .undef, .undef, .undef, .undef], [], 0⟩) (fun i => L.length - i) 0 ⟨Nat.zero_le _, rfl⟩ ?_ (fun i hi => ?_)
 · refine bt.cut (0) (by simp) (by simp) ?_ ?_
   · simp [LeC, LeV, ren, br, hvc2, hkc2]
   · rfl
 simp -implicitDefEqProofs -dsimp only [go_sem]
 refine bc.split (fun h1 => ?_) (fun h1 => ?_)
 · simp -implicitDefEqProofs -dsimp only [go_sem, h1]
   have hi' : i < L.length := by simpa using h1
   have h5 := ai.csl L[i]
   have hr := bu ai.csl hi'
   (repeat1' (first | simp -implicitDefEqProofs -dsimp only [go_sem, hr, ai.cs] | simp -dsimp (disch := omega) only [wrap_i64]))
   repeat (with_reducible refine ah ?_)
   refine al.intro (hv L[i]) ⟨.inl rfl, ki (hvc2 _ _)⟩ (.inl (by simp only [List.nil_append, List.cons_append, List.all_cons, hvc, Bool.and_true]; rfl)) ⟨ru (hvc 3), rfl⟩ ?_
   simp -implicitDefEqProofs -dsimp only [go_sem]
   refine ax.ch (fun h2 => ?_) (fun h2 => ?_) <;> simp -implicitDefEqProofs -dsimp only [go_sem, h2]
   · have hw : p L[i] = true := by simpa using h2
     refine ax.bq (fun h3 => ?_) (fun h3 => ?_) <;> simp -implicitDefEqProofs -dsimp only [go_sem, h3]
     · obtain ⟨j, rfl⟩ : ∃ j, i = j + 1 := ⟨i - 1, by simp at h3; omega⟩
       have hj : j < L.length := by omega
       refine al.intro (hkey L[j + 1]) ⟨.inl rfl, ki (hkc2 _ _)⟩ (.inl (by simp only [List.nil_append, List.cons_append, List.all_cons, hkc, Bool.and_true]; rfl)) ⟨ru (hkc 3), rfl⟩ ?_
       have hw1 : IntKind.i64.wrap (((j + 1 : Nat) : Int) - 1) = (j : Int) := by rw [wrap_i64 (by omega) (by omega)]; omega
       have hr2 := bu ai.csl hj
       (repeat1' (first | simp -implicitDefEqProofs -dsimp only [go_sem, hw1, hr2, ai.cs] | simp -dsimp (disch := omega) only [wrap_i64]))
       repeat (with_reducible refine ah ?_)
       refine al.intro (hkey L[j]) ⟨.inl rfl, ki (hkc2 _ _)⟩ (.inl (by simp only [List.nil_append, List.cons_append, List.all_cons, hkc, Bool.and_true]; rfl)) ⟨ru (hkc 3), rfl⟩ ?_
       (repeat1' (first | simp -implicitDefEqProofs -dsimp only [go_sem] | simp -dsimp (disch := omega) only [wrap_i64]))
       refine bc.split (fun h4 => ?_) (fun h4 => ?_) <;> simp -implicitDefEqProofs -dsimp only [go_sem, h4]
       · refine aj.au ?_ rfl
         have hq : fj p key L (j + 1) = false := by
          rw [fu hi', hw]
          simp at h4 ⊢
          omega
         rw [iy hi' hq]
       · refine ⟨j + 1 + 1, ⟨hi', fg hi.2 (by rw [fu hi', hw]; simp at h4 ⊢; omega)⟩, ?_, by omega⟩
         refine bt.cut (0) (by simp) (by simp) ?_ ?_
         · rw [wrap_i64 (by omega) (by omega)]
           simp [LeC, LeV, ren, br, hvc2, hkc2]
         · rfl
     · have h0 : i = 0 := by simp at h3; omega
       refine ⟨i + 1, ⟨hi', fg hi.2 (by subst h0; rw [jy hi', hw])⟩, ?_, by omega⟩
       refine bt.cut (0) (by simp) (by simp) ?_ ?_
       · rw [wrap_i64 (by omega) (by omega)]
         simp [LeC, LeV, ren, br, hvc2, hkc2]
       · rfl
   · have hw : p L[i] = false := by simpa using h2
     refine aj.au ?_ rfl
     have hq : fj p key L i = false := by simp [fj, hi', hw]
     rw [iy hi' hq]
 · simp -implicitDefEqProofs -dsimp only [go_sem, h1]
   refine aj.au ?_ rfl
   have : i = L.length := by simp at h1; omega
   subst this
   rw [ib, hi.2]
   simp
   try omega
theorem um (L : List ai) (p : ai → Bool) (fv : Nat) (vc : List V) (hvc : ∀ d, vc.all (cb d) = true) (hv : ∀ x, Ctr Tryz.prog fv (ai.v x :: vc) [] (.bool (p x)) []) (hl : L.length ≤ 16777216) :
 Ctr Tryz.prog 247 [ai.sl L, .fn (.func fv) [] vc] [] (.osl 0 0 (L.filter p).length 5) [some (rows ai.cs (L.filter p))] := by
 refine Ctr.intro Tryz.mixed Tryz.func247 rfl Tryz.aw1 ?_
 simp -implicitDefEqProofs -dsimp only [go_sem, Tryz.ntmps247, Tryz.results247]
 have hvc2 : ∀ f d, vc.map (ren f d) = vc := fun f d => oe f (hvc d)
 have hstep : ∀ {i : Nat} (hi : i < L.length), (L.take (i + 1)).filter p = (L.take i).filter p ++ if p L[i] then [L[i]] else [] := fun {i} hi => by
  rw [List.take_succ_eq_append_getElem hi, List.filter_append]
  congr 1
  cases h : p L[i] <;> simp [h]
 refine de.intro (fun i : Nat => i ≤ L.length) (fun i => ⟨[.undef, .fn (.func fv) [] vc, .undef, .undef, .undef, .osl 0 0 ((L.take i).filter p).length 5, .undef, .undef, .undef, ai.sl L, .int .i64 L.length, .int .i64 i, .undef, .undef, .undef, .undef, .undef, .undef, .undef, .undef, .undef, .undef, .undef, .undef], [some (rows ai.cs ((L.take i).filter p))], 0⟩) (fun i => L.length - i) 0 (Nat.zero_le _) ?_ (fun i hi => ?_)
 · refine bt.cut (1) (by simp) (by simp) ?_ ?_
   · simp [LeC, LeV, ren, br, hvc2]
   · simp [cd, dd, rows]
 simp -implicitDefEqProofs -dsimp only [go_sem]
 refine bc.split (fun h1 => ?_) (fun h1 => ?_)
 · simp -implicitDefEqProofs -dsimp only [go_sem, h1]
   have hi' : i < L.length := by simpa using h1
   have hf : ((L.take i).filter p).length ≤ i := Nat.le_trans (List.length_filter_le _ _) (by simp; omega)
   have h5 := ai.csl L[i]
   have hr := bu ai.csl hi'
   (repeat1' (first | simp -implicitDefEqProofs -dsimp only [go_sem, hr, ai.cs] | simp -dsimp (disch := omega) only [wrap_i64]))
   repeat (with_reducible refine ah ?_)
   refine ak.intro (hv L[i]) ⟨.inl rfl, ki (hvc2 _ _)⟩ (.inl (by simp only [List.nil_append, List.cons_append, List.all_cons, hvc, Bool.and_true]; rfl)) ?_
   simp -implicitDefEqProofs -dsimp only [go_sem]
   refine bc.split (fun h2 => ?_) (fun h2 => ?_) <;> simp -implicitDefEqProofs -dsimp only [go_sem, h2]
   · try (repeat1' (first | simp -implicitDefEqProofs -dsimp only [go_sem, aw, Nat.mul_one, a8, List.length_append, List.length_cons, List.length_nil] | simp -dsimp (disch := omega) only [wrap_i64]))
     repeat (with_reducible refine ah ?_)
     refine ⟨i + 1, hi', ?_, by omega⟩
     refine bt.cut (1) (by simp) (by simp) ?_ ?_
     · rw [hstep hi', h2]
       simp [LeC, LeV, ren, br, hvc2]
     · rw [hstep hi', h2, if_pos rfl, ← eg]
       simp [cd, dd, ae, cz, ren, ai.cs]
   · refine ⟨i + 1, hi', ?_, by omega⟩
     refine bt.cut (1) (by simp) (by simp) ?_ ?_
     · rw [hstep hi', h2, wrap_i64 (by omega) (by omega)]
       simp [LeC, LeV, ren, br, hvc2]
     · rw [hstep hi', h2]
       simp [cd, dd, ae]
 · simp -implicitDefEqProofs -dsimp only [go_sem, h1]
   have hi' : i = L.length := by simp at h1; omega
   subst hi'
   rw [List.take_length]
   exact aj.refl _ _ _
end Go.Proofs
end
section
set_option maxRecDepth 100000
namespace Go.Proofs
open Go.Lv
structure ab where
 Now : Int
 Posts : List ay
 Shocks : List ai
 Next : Int
 Archived : Int
def ab.cs (r : ab) : List V := [.int .i64 r.Now, .sl r.Posts.length 3 (Go.Lv.rows ay.cs r.Posts), .sl r.Shocks.length 5 (Go.Lv.rows ai.cs r.Shocks), .int .i64 r.Next, .int .i64 r.Archived]
def ab.v (r : ab) : V := .agg [.int .i64 r.Now, .sl r.Posts.length 3 (Go.Lv.rows ay.cs r.Posts), .sl r.Shocks.length 5 (Go.Lv.rows ai.cs r.Shocks), .int .i64 r.Next, .int .i64 r.Archived]
def ab.o (r : ab) (i0 i1 : Nat) : V := .agg [.int .i64 r.Now, .osl i0 0 r.Posts.length 3, .osl i1 0 r.Shocks.length 5, .int .i64 r.Next, .int .i64 r.Archived]
theorem ab.csl (a : ab) : a.cs.length = 5 := rfl
def ab.ok (r : ab) : Prop := gz r.Now ∧ aoi ay.ok r.Posts ∧ aoi ai.ok r.Shocks ∧ gz r.Next ∧ gz r.Archived
theorem ab.le {h : Hp} {r : ab} {i0 i1 : Nat} (h0 : h[i0]? = some (some (rows ay.cs r.Posts))) (h1 : h[i1]? = some (some (rows ai.cs r.Shocks))) : LeV (ren (ef h 3) 3 (r.o i0 i1)) r.v := by
 refine .inl ?_
 simp only [ab.o, ab.v, ren, List.map_cons, List.map_nil, ef, h0, h1, ae, List.drop_zero, ig]
theorem ai6 (r : ab) (hl0 : r.Posts.length ≤ 1048576) (hl1 : r.Shocks.length ≤ 1048576) : Ctr Tryz.prog 107 [r.v] [] (r.o 0 1) [some (rows ay.cs r.Posts), some (rows ai.cs r.Shocks)] := by
 refine Ctr.intro Tryz.mixed Tryz.func107 rfl Tryz.awp ?_
 simp -implicitDefEqProofs -dsimp only [go_sem, Tryz.ntmps107, Tryz.results107]
 simp -implicitDefEqProofs -dsimp only [go_sem, ab.v]
 (first | refine al.at (abw r.Posts hl0) ⟨.inl rfl, trivial⟩ ?_ | refine ak.at (abw r.Posts hl0) ⟨.inl rfl, trivial⟩ ?_)
 simp -implicitDefEqProofs -dsimp only [go_sem]
 (first | refine al.at (zn r.Shocks hl1) ⟨.inl rfl, trivial⟩ ?_ | refine ak.at (zn r.Shocks hl1) ⟨.inl rfl, trivial⟩ ?_)
 simp -implicitDefEqProofs -dsimp only [go_sem]
 refine aj.pick [3, 4] (by decide) (fun j hj => by omega) (.inl ?_) ?_
 · rfl
 · simp only [bb, List.map_cons, List.map_nil, bj, List.getElem?_cons_zero, List.getElem?_cons_succ, ae]
theorem ai7 (r : ab) (hr : r.ok) (n : Int) (hn : 0 ≤ n) (hn2 : n ≤ 1048576) : ∃ z : Int, (z < 0 ∨ 0 ≤ z ∧ z = n - (r.Posts.length : Int) - (r.Shocks.length : Int) ∧ r.Posts.length ≤ 1048576 ∧ r.Shocks.length ≤ 1048576) ∧ Ctr Tryz.prog 106 [r.v, .int .i64 n] [] (.int .i64 z) [] := by
 obtain ⟨o0, o1, o2, o3, o4⟩ := hr
 by_cases c0 : n < (r.Posts.length : Int)
 · refine ⟨-1, .inl (by omega), ?_⟩
   refine Ctr.intro Tryz.mixed Tryz.func106 rfl Tryz.aie ?_
   simp -implicitDefEqProofs -dsimp only [go_sem, Tryz.ntmps106, Tryz.results106]
   simp -implicitDefEqProofs -dsimp only [go_sem, ab.v]
   (first | refine al.at (mg r.Posts (n) o1.1 (by omega) (by omega)) ⟨.inl rfl, .inl rfl, trivial⟩ ?_ | refine ak.at (mg r.Posts (n) o1.1 (by omega) (by omega)) ⟨.inl rfl, .inl rfl, trivial⟩ ?_)
   rw [if_pos c0]
   simp -implicitDefEqProofs -dsimp only [go_sem]
   exact aj.au rfl (by rfl)
 by_cases c1 : n - (r.Posts.length : Int) < (r.Shocks.length : Int)
 · refine ⟨-1, .inl (by omega), ?_⟩
   refine Ctr.intro Tryz.mixed Tryz.func106 rfl Tryz.aie ?_
   simp -implicitDefEqProofs -dsimp only [go_sem, Tryz.ntmps106, Tryz.results106]
   simp -implicitDefEqProofs -dsimp only [go_sem, ab.v]
   (first | refine al.at (mg r.Posts (n) o1.1 (by omega) (by omega)) ⟨.inl rfl, .inl rfl, trivial⟩ ?_ | refine ak.at (mg r.Posts (n) o1.1 (by omega) (by omega)) ⟨.inl rfl, .inl rfl, trivial⟩ ?_)
   rw [if_neg c0]
   simp -implicitDefEqProofs -dsimp only [go_sem]
   refine bc.split (fun hh => absurd hh (by simp; omega)) (fun hh => ?_)
   simp -implicitDefEqProofs -dsimp only [go_sem, hh]
   (first | refine al.at (qd r.Shocks (n - (r.Posts.length : Int)) o2.1 (by omega) (by omega)) ⟨.inl rfl, .inl rfl, trivial⟩ ?_ | refine ak.at (qd r.Shocks (n - (r.Posts.length : Int)) o2.1 (by omega) (by omega)) ⟨.inl rfl, .inl rfl, trivial⟩ ?_)
   rw [if_pos c1]
   simp -implicitDefEqProofs -dsimp only [go_sem]
   exact aj.au rfl (by rfl)
 · refine ⟨n - (r.Posts.length : Int) - (r.Shocks.length : Int), .inr ⟨by omega, rfl, by omega, by omega⟩, ?_⟩
   refine Ctr.intro Tryz.mixed Tryz.func106 rfl Tryz.aie ?_
   simp -implicitDefEqProofs -dsimp only [go_sem, Tryz.ntmps106, Tryz.results106]
   simp -implicitDefEqProofs -dsimp only [go_sem, ab.v]
   (first | refine al.at (mg r.Posts (n) o1.1 (by omega) (by omega)) ⟨.inl rfl, .inl rfl, trivial⟩ ?_ | refine ak.at (mg r.Posts (n) o1.1 (by omega) (by omega)) ⟨.inl rfl, .inl rfl, trivial⟩ ?_)
   rw [if_neg c0]
   simp -implicitDefEqProofs -dsimp only [go_sem]
   refine bc.split (fun hh => absurd hh (by simp; omega)) (fun hh => ?_)
   simp -implicitDefEqProofs -dsimp only [go_sem, hh]
   (first | refine al.at (qd r.Shocks (n - (r.Posts.length : Int)) o2.1 (by omega) (by omega)) ⟨.inl rfl, .inl rfl, trivial⟩ ?_ | refine ak.at (qd r.Shocks (n - (r.Posts.length : Int)) o2.1 (by omega) (by omega)) ⟨.inl rfl, .inl rfl, trivial⟩ ?_)
   rw [if_neg c1]
   simp -implicitDefEqProofs -dsimp only [go_sem]
   refine bc.split (fun hh => absurd hh (by simp; omega)) (fun hh => ?_)
   simp -implicitDefEqProofs -dsimp only [go_sem, hh]
   exact aj.au rfl (by rfl)
theorem ai3 (r : ab) (hl0 : r.Posts.length ≤ 281474976710656) (hl1 : r.Shocks.length ≤ 281474976710656) : Ctr Tryz.prog 108 [r.v, r.v] [] (.bool true) [] := by
 refine Ctr.intro Tryz.mixed Tryz.func108 rfl Tryz.ax7 ?_
 simp -implicitDefEqProofs -dsimp only [go_sem, Tryz.ntmps108, Tryz.results108]
 simp -implicitDefEqProofs -dsimp only [go_sem, ab.v]
 (have ct := aic r.Posts hl0; (first | refine al.at ct ⟨leA, leA, trivial⟩ ?_ | refine ak.at ct ⟨leA, leA, trivial⟩ ?_); clear ct)
 simp -implicitDefEqProofs -dsimp only [go_sem]
 (have ct := ag4 r.Shocks hl1; (first | refine al.at ct ⟨leA, leA, trivial⟩ ?_ | refine ak.at ct ⟨leA, leA, trivial⟩ ?_); clear ct)
 simp -implicitDefEqProofs -dsimp only [go_sem]
 exact aj.au rfl (by rfl)
theorem afl (r : ab) (kk : Int) (hl0 : r.Posts.length ≤ 16777216) (hl1 : r.Shocks.length ≤ 16777216) (hk : 0 ≤ kk) (hk2 : kk ≤ 16777216) : Ctr Tryz.prog 110 [.agg [.int .i64 r.Now, .osl 0 0 r.Posts.length 3, .osl 1 0 r.Shocks.length 5, .int .i64 r.Next, .int .i64 r.Archived], .int .i64 kk] [some (rows ay.cs r.Posts), some (rows ai.cs r.Shocks)] (.int .i64 (kk + 3 * (r.Posts.length : Int) + 5 * (r.Shocks.length : Int))) [some (rows ay.cs (ay.marks (kk) r.Posts.length)), some (rows ai.cs (ai.marks (kk + 3 * (r.Posts.length : Int)) r.Shocks.length))] := by
 refine Ctr.intro Tryz.mixed Tryz.func110 rfl Tryz.ayw ?_
 simp -implicitDefEqProofs -dsimp only [go_sem, Tryz.ntmps110, Tryz.results110]
 refine ak.tj [0] false ( aem r.Posts (kk) (by omega) (by omega) (by omega)) (by decide) ⟨leO, leO, trivial⟩ xh ( mq (by simp)) (.inl rfl) ?_
 simp -implicitDefEqProofs -dsimp only [go_sem]
 refine ak.tj [1] false ( ac2 r.Shocks (kk + 3 * (r.Posts.length : Int)) (by omega) (by omega) (by omega)) (by decide) ⟨leO, leO, trivial⟩ xh ( mq (by simp)) (.inl rfl) ?_
 simp -implicitDefEqProofs -dsimp only [go_sem]
 refine aj.pick [0, 1] (by decide) (by decide) (.inl rfl) ?_
 simp only [bb, List.map_cons, List.map_nil, bj, List.getElem?_cons_zero, List.getElem?_cons_succ, ae]
theorem afw (r : ab) (n0 n1 : Nat) (kk : Int) (hn0 : n0 ≤ 16777216) (hn1 : n1 ≤ 16777216) (hk : 0 ≤ kk) (hk2 : kk ≤ 16777216) : Ctr Tryz.prog 111 [.agg [.int .i64 r.Now, .sl n0 3 (rows ay.cs (ay.marks (kk) n0)), .sl n1 5 (rows ai.cs (ai.marks (kk + 3 * (n0 : Int)) n1)), .int .i64 r.Next, .int .i64 r.Archived], .int .i64 kk] [] (.int .i64 (kk + 3 * (n0 : Int) + 5 * (n1 : Int))) [] := by
 refine Ctr.intro Tryz.mixed Tryz.func111 rfl Tryz.ayh ?_
 simp -implicitDefEqProofs -dsimp only [go_sem, Tryz.ntmps111, Tryz.results111]
 have c0 := afp n0 (kk) (by omega) (by omega) (by omega)
 simp only [ay.sl, ay.fx] at c0
 (first | refine al.at (c0) ⟨leA, leA, trivial⟩ ?_ | refine ak.at (c0) ⟨leA, leA, trivial⟩ ?_)
 simp -implicitDefEqProofs -dsimp only [go_sem]
 refine bc.split (fun hh => absurd hh (by simp; omega)) (fun hh => ?_)
 simp -implicitDefEqProofs -dsimp only [go_sem, hh]
 have c1 := ac9 n1 (kk + 3 * (n0 : Int)) (by omega) (by omega) (by omega)
 simp only [ai.sl, ai.fx] at c1
 (first | refine al.at (c1) ⟨leA, leA, trivial⟩ ?_ | refine ak.at (c1) ⟨leA, leA, trivial⟩ ?_)
 simp -implicitDefEqProofs -dsimp only [go_sem]
 refine bc.split (fun hh => absurd hh (by simp; omega)) (fun hh => ?_)
 simp -implicitDefEqProofs -dsimp only [go_sem, hh]
 exact aj.au rfl (by rfl)
end Go.Proofs
end
section
set_option maxRecDepth 100000
namespace Go.Proofs
open Go.Lv
def IntS.cs (x : Int) : List V := [.int .i64 x]
instance : pn IntS.cs 1 := ⟨fun _ => rfl, fun _ d => by cases d <;> rfl, fun _ => rfl, fun _ => rfl⟩
theorem IntS.csl (a : Int) : (IntS.cs a).length = 1 := rfl
theorem IntS.csp (a : Int) : (IntS.cs a).all (cb 2) = true := rfl
abbrev IntS.ok (x : Int) : Prop := gz x
abbrev IntS.sl (L : List Int) : V := .sl L.length 1 (Go.Lv.rows IntS.cs L)
abbrev IntS.zs : List V := [.int .i64 0]
def IntS.marks (k : Int) (n : Nat) : List Int := (List.range n).map fun i : Nat => k + (i : Int)
@[simp] theorem IntS.fx (k : Int) (n : Nat) : (IntS.marks k n).length = n := by simp [IntS.marks]
theorem IntS.kv (k : Int) (n : Nat) : IntS.marks k (n + 1) = IntS.marks k n ++ [k + (n : Int)] := by simp [IntS.marks, List.range_succ]
theorem IntS.ml (k : Int) (n : Nat) {i : Nat} (hi : i < (IntS.marks k n).length) : (IntS.marks k n)[i] = k + (i : Int) := by simp [IntS.marks]
abbrev IntS.v (x : Int) : V := .int .i64 x
end Go.Proofs
end
section
set_option maxRecDepth 100000
set_option maxHeartbeats 2000000
namespace Go.Proofs
open Go.Lv
def ao1 : Option (az × Nat) → V
 | some r => .tup [r.1.v, .int .i64 r.2, .bool true]
 | none => .tup [.agg [.str ⟨#[]⟩, .str ⟨#[]⟩], .int .i64 0, .bool false]
theorem aly (k : Int) (s : ByteArray) (hs : s.size ≤ 16777216) : Ctr Tryz.prog 181 [.int .i64 k, .str s] [] (ao1 (gw k s)) [] := by
 have z1 := ri 10 s
 have z2 := ri 35 (bef 10 s)
 have z3 := ahi 32 (bef 35 (bef 10 s))
 have z4 := ri 64 (aft 32 (bef 35 (bef 10 s)))
 have z5 := ahi 64 (aft 32 (bef 35 (bef 10 s)))
 refine Ctr.intro Tryz.mixed Tryz.func181 rfl Tryz.axz ?_
 simp -implicitDefEqProofs -dsimp only [go_sem, Tryz.ntmps181, Tryz.results181]
 repeat (with_reducible refine And.intro ?_ ?_; focus (first | omega | with_reducible rfl | (show bo _ = true; kernel_rfl) | (simp only [aw, a8, List.length_append, List.length_cons, List.length_nil, List.all_append, List.all_cons, List.all_nil, bp, Nat.mul_one, Nat.one_mul, Bool.and_self]; first | done | omega) | (simp only [ByteArray.size_append, bm, List.size_toArray, List.length_cons, List.length_nil]; omega)))
 (have ct := afs s 10 (by omega); (first | refine al.at ct ⟨leA, leA, trivial⟩ ?_ | refine ak.at ct ⟨leA, leA, trivial⟩ ?_); clear ct)
 simp -implicitDefEqProofs -dsimp only [go_sem]
 have no : gw k s = none → ∀ h, aj 0 (.tup [.agg [.str ByteArray.empty, .str ByteArray.empty], .int .i64 0, .bool false]) h (ao1 (gw k s)) [] := fun e h => aj.au (by rw [e]; rfl) (by rfl)
 cases hf : fnd 10 s with
 | false =>
  have hn : gw k s = none := by rw [gw, hf]; rfl
  simp -implicitDefEqProofs -dsimp only [go_sem, hf, Bool.not_false]
  repeat (with_reducible refine And.intro ?_ ?_; focus (first | omega | with_reducible rfl | (show bo _ = true; kernel_rfl) | (simp only [aw, a8, List.length_append, List.length_cons, List.length_nil, List.all_append, List.all_cons, List.all_nil, bp, Nat.mul_one, Nat.one_mul, Bool.and_self]; first | done | omega) | (simp only [ByteArray.size_append, bm, List.size_toArray, List.length_cons, List.length_nil]; omega)))
  exact no hn _
 | true =>
  have hd : gw k s = (y8 k (bef 10 s)).map fun e => (e, (bef 10 s).size + 1) := by rw [gw, if_pos hf]
  have hsz := aa4 hf
  simp -implicitDefEqProofs -dsimp only [go_sem, hf, Bool.not_true]
  refine bc.split (fun g1 => ?_) (fun g1 => ?_) <;> (repeat ((repeat1' (first | simp -implicitDefEqProofs -dsimp only [go_sem, g1] | simp -dsimp (disch := omega) only [wrap_i64])); repeat (with_reducible refine And.intro ?_ ?_; focus (first | omega | with_reducible rfl | (show bo _ = true; kernel_rfl) | (simp only [aw, a8, List.length_append, List.length_cons, List.length_nil, List.all_append, List.all_cons, List.all_nil, bp, Nat.mul_one, Nat.one_mul, Bool.and_self]; first | done | omega) | (simp only [ByteArray.size_append, bm, List.size_toArray, List.length_cons, List.length_nil]; omega)))))
  · refine no ?_ _
    rw [hd, yj]
    · rfl
    · rintro e ⟨hk, he, hl⟩
      have := gr hk he
      have := iv (di k e)
      rw [hl] at this
      simp at g1
      omega
  (have ct := afs (bef 10 s) 35 (by omega); (first | refine al.at ct ⟨leA, leA, trivial⟩ ?_ | refine ak.at ct ⟨leA, leA, trivial⟩ ?_); clear ct)
  simp -implicitDefEqProofs -dsimp only [go_sem]
  (have ct := afs (bef 35 (bef 10 s)) 32 (by omega); (first | refine al.at ct ⟨leA, leA, trivial⟩ ?_ | refine ak.at ct ⟨leA, leA, trivial⟩ ?_); clear ct)
  simp -implicitDefEqProofs -dsimp only [go_sem]
  (have ct := afs (aft 32 (bef 35 (bef 10 s))) 64 (by omega); (first | refine al.at ct ⟨leA, leA, trivial⟩ ?_ | refine ak.at ct ⟨leA, leA, trivial⟩ ?_); clear ct)
  (repeat ((repeat1' (first | simp -implicitDefEqProofs -dsimp only [go_sem] | simp -dsimp (disch := omega) only [wrap_i64])); repeat (with_reducible refine And.intro ?_ ?_; focus (first | omega | with_reducible rfl | (show bo _ = true; kernel_rfl) | (simp only [aw, a8, List.length_append, List.length_cons, List.length_nil, List.all_append, List.all_cons, List.all_nil, bp, Nat.mul_one, Nat.one_mul, Bool.and_self]; first | done | omega) | (simp only [ByteArray.size_append, bm, List.size_toArray, List.length_cons, List.length_nil]; omega)))))
  have hE := rl k (j7 (bef 10 s)) (by show (bef 64 _).size ≤ _; omega) (by show (aft 64 _).size ≤ _; omega)
  have pc : (j7 (bef 10 s)).Command = bef 64 (aft 32 (bef 35 (bef 10 s))) := rfl
  have pr : (j7 (bef 10 s)).Reply = aft 64 (aft 32 (bef 35 (bef 10 s))) := rfl
  by_cases hc : ed k 0 59 = true ∧ ix (j7 (bef 10 s)) = true
  · rw [ajb, if_pos hc] at hE
    have t1 := gr (fe.1 hc.1) hc.2
    have t2 := iv (di k (j7 (bef 10 s)))
    have t3 : (gm k (j7 (bef 10 s))).size = (nt (di k (j7 (bef 10 s)))).size + 1 := by rw [gm, ByteArray.size_append]; rfl
    (first | refine al.at (hE) ⟨leA, leA, trivial⟩ ?_ | refine ak.at (hE) ⟨leA, leA, trivial⟩ ?_)
    (repeat ((repeat1' (first | simp -implicitDefEqProofs -dsimp only [go_sem, gp] | simp -dsimp (disch := omega) only [wrap_i64])); repeat (with_reducible refine And.intro ?_ ?_; focus (first | omega | with_reducible rfl | (show bo _ = true; kernel_rfl) | (simp only [aw, a8, List.length_append, List.length_cons, List.length_nil, List.all_append, List.all_cons, List.all_nil, bp, Nat.mul_one, Nat.one_mul, Bool.and_self]; first | done | omega) | (simp only [ByteArray.size_append, bm, List.size_toArray, List.length_cons, List.length_nil]; omega)))))
    by_cases hq : gm k (j7 (bef 10 s)) = bef 10 s ++ ⟨#[10]⟩
    · have hdq : decide (gm k (j7 (bef 10 s)) = bef 10 s ++ (⟨#[10]⟩ : ByteArray)) = true := decide_eq_true hq
      have hs' : y8 k (bef 10 s) = some (j7 (bef 10 s)) := oz.2 ⟨fe.1 hc.1, hc.2, append_right_inj hq⟩
      (repeat ((repeat1' (first | simp -implicitDefEqProofs -dsimp only [go_sem, hdq, Bool.not_true] | simp -dsimp (disch := omega) only [wrap_i64])); repeat (with_reducible refine And.intro ?_ ?_; focus (first | omega | with_reducible rfl | (show bo _ = true; kernel_rfl) | (simp only [aw, a8, List.length_append, List.length_cons, List.length_nil, List.all_append, List.all_cons, List.all_nil, bp, Nat.mul_one, Nat.one_mul, Bool.and_self]; first | done | omega) | (simp only [ByteArray.size_append, bm, List.size_toArray, List.length_cons, List.length_nil]; omega)))))
      refine aj.au ?_ (by rfl)
      rw [hd, hs']
      simp only [Option.map_some, ao1, az.v, pc, pr]
      rfl
    · have hdq : decide (gm k (j7 (bef 10 s)) = bef 10 s ++ (⟨#[10]⟩ : ByteArray)) = false := decide_eq_false hq
      have hn : gw k s = none := by
       rw [hd, yj]
       · rfl
       · rintro e ⟨hk, he, hl⟩
         have := y1 hk he
         rw [hl] at this
         rw [this] at hq
         exact hq (by rw [gm, hl])
      (repeat ((repeat1' (first | simp -implicitDefEqProofs -dsimp only [go_sem, hdq, Bool.not_false] | simp -dsimp (disch := omega) only [wrap_i64])); repeat (with_reducible refine And.intro ?_ ?_; focus (first | omega | with_reducible rfl | (show bo _ = true; kernel_rfl) | (simp only [aw, a8, List.length_append, List.length_cons, List.length_nil, List.all_append, List.all_cons, List.all_nil, bp, Nat.mul_one, Nat.one_mul, Bool.and_self]; first | done | omega) | (simp only [ByteArray.size_append, bm, List.size_toArray, List.length_cons, List.length_nil]; omega)))))
      exact no hn _
  · rw [ajb, if_neg hc] at hE
    have hn : gw k s = none := by
     rw [hd, yj]
     · rfl
     · rintro e ⟨hk, he, hl⟩
       have := y1 hk he
       rw [hl] at this
       rw [this] at hc
       exact hc ⟨fe.2 hk, he⟩
    (first | refine al.at (hE) ⟨leA, leA, trivial⟩ ?_ | refine ak.at (hE) ⟨leA, leA, trivial⟩ ?_)
    (repeat ((repeat1' (first | simp -implicitDefEqProofs -dsimp only [go_sem, Bool.not_false] | simp -dsimp (disch := omega) only [wrap_i64])); repeat (with_reducible refine And.intro ?_ ?_; focus (first | omega | with_reducible rfl | (show bo _ = true; kernel_rfl) | (simp only [aw, a8, List.length_append, List.length_cons, List.length_nil, List.all_append, List.all_cons, List.all_nil, bp, Nat.mul_one, Nat.one_mul, Bool.and_self]; first | done | omega) | (simp only [ByteArray.size_append, bm, List.size_toArray, List.length_cons, List.length_nil]; omega)))))
    exact no hn _
def am2 (s : ByteArray) : V := .tup [.osl 0 0 (db s).length 2, .osl 1 0 (db s).length 1]
def ao5 (s : ByteArray) : Hp := [some (rows az.cs (db s)), some (rows IntS.cs (nz s (db s).length))]
theorem aq1 (s : ByteArray) (hs : s.size ≤ 16777216) : Ctr Tryz.prog 117 [.str s] [] (am2 s) (ao5 s) := by
 refine Ctr.intro Tryz.mixed Tryz.func117 rfl Tryz.ay0 ?_
 simp -implicitDefEqProofs -dsimp only [go_sem, Tryz.ntmps117, Tryz.results117]
 refine de.intro (fun i : Nat => (rdN s i).1.length = i) (fun i => ⟨[.str s, .undef, .undef, .undef, .osl 0 0 i 2, .osl 1 0 i 1, .int .i64 (rdN s i).2, .undef, .undef, .undef, .undef, .undef, .undef, .undef, .undef, .undef, .undef, .undef, .undef, .undef, .undef, .undef, .undef, .undef, .undef, .undef, .undef, .undef, .undef, .undef, .undef, .undef, .undef, .undef, .undef, .undef, .undef], [some (rows az.cs (rdN s i).1), some (rows IntS.cs (nz s i))], 0⟩) (fun i => 61 - i) 0 rfl ?_ (fun i hi => ?_)
 · refine bt.cut (2) (by simp) (by simp) ?_ ?_
   · simp [LeC, LeV, ren, br, rdN]
   · simp [cd, dd, rdN, rows, nz]
 have hb := wm s i
 have h60 := vz s i
 have hez : (s.extract (rdN s i).2 s.size).size ≤ 16777216 := by rw [ByteArray.size_extract]; omega
 have hen := wv s i
 rw [hi] at h60
 simp -implicitDefEqProofs -dsimp only [go_sem]
 repeat (with_reducible refine And.intro ?_ ?_; focus (first | omega | with_reducible rfl | (show bo _ = true; kernel_rfl) | (simp only [aw, a8, List.length_append, List.length_cons, List.length_nil, List.all_append, List.all_cons, List.all_nil, bp, Nat.mul_one, Nat.one_mul, Bool.and_self]; first | done | omega) | (simp only [ByteArray.size_append, bm, List.size_toArray, List.length_cons, List.length_nil]; omega)))
 (have ct := aly (i : Int) (s.extract (rdN s i).2 s.size) hez; (first | refine al.at ct ⟨leA, leA, trivial⟩ ?_ | refine ak.at ct ⟨leA, leA, trivial⟩ ?_); clear ct)
 cases hd : gw (i : Int) (s.extract (rdN s i).2 s.size) with
 | none =>
  have e := xl hi hd
  (repeat ((repeat1' (first | simp -implicitDefEqProofs -dsimp only [go_sem, ao1, Bool.not_false] | simp -dsimp (disch := omega) only [wrap_i64])); repeat (with_reducible refine And.intro ?_ ?_; focus (first | omega | with_reducible rfl | (show bo _ = true; kernel_rfl) | (simp only [aw, a8, List.length_append, List.length_cons, List.length_nil, List.all_append, List.all_cons, List.all_nil, bp, Nat.mul_one, Nat.one_mul, Bool.and_self]; first | done | omega) | (simp only [ByteArray.size_append, bm, List.size_toArray, List.length_cons, List.length_nil]; omega)))))
  have e1 : db s = (rdN s i).1 := by rw [db, e]
  rw [am2, ao5, e1, hi]
  refine aj.pick [0, 1] (by decide) (fun j hj => by omega) (.inl ?_) ?_
  · first | rfl | (simp [ren, bf, posOf]; done)
  · simp only [bb, List.map_cons, List.map_nil, bj, List.getElem?_cons_zero, List.getElem?_cons_succ, ae]
 | some r =>
  have hz := y5 hd
  rw [ByteArray.size_extract] at hz
  have hk := aio hd
  have hS : rdN s (i + 1) = ((rdN s i).1 ++ [r.1], (rdN s i).2 + r.2) := kf (by rw [hi]; exact hd)
  (repeat ((repeat1' (first | simp -implicitDefEqProofs -dsimp only [go_sem, ao1, Bool.not_true, az.v] | simp -dsimp (disch := omega) only [wrap_i64])); repeat (with_reducible refine And.intro ?_ ?_; focus (first | omega | with_reducible rfl | (show bo _ = true; kernel_rfl) | (simp only [aw, a8, List.length_append, List.length_cons, List.length_nil, List.all_append, List.all_cons, List.all_nil, bp, Nat.mul_one, Nat.one_mul, Bool.and_self]; first | done | omega) | (simp only [ByteArray.size_append, bm, List.size_toArray, List.length_cons, List.length_nil]; omega)))))
  refine ⟨i + 1, by rw [hS]; simp [hi], ?_, by omega⟩
  have e2 := aht s i
  rw [hS] at e2
  refine bt.cut (2) (by simp) (by simp) ?_ ?_
  · rw [hS]; simp [LeC, LeV, ren, br]
  · rw [e2, hS, ← eg, ← eg]
    simp [cd, dd, ren, br, ae, cz, mc, az.cs, IntS.cs]
theorem aif (k : Int) (s : ByteArray) (hk : 0 ≤ k ∧ k ≤ 59) (hs : s.size ≤ 16777216) : Ctr Tryz.prog 194 [.str s, .int .i64 k] [] (.tup [(kq k s).1.v, .bool (kq k s).2]) [] := by
 have n1 := j0 (n := k) (by omega) (by omega)
 have z2 := ri 35 s
 obtain ⟨l, hl, _⟩ := rn 35 s
 have hsp := sf s 35 hs
 rw [hl] at hsp
 have c35 : (((35 : UInt8).toNat : Nat) : Int) = 35 := rfl
 have c64 : (((64 : UInt8).toNat : Nat) : Int) = 64 := rfl
 rw [c35] at hsp
 refine Ctr.intro Tryz.mixed Tryz.func194 rfl Tryz.awz ?_
 simp -implicitDefEqProofs -dsimp only [go_sem, Tryz.ntmps194, Tryz.results194]
 repeat (with_reducible refine And.intro ?_ ?_; focus (first | omega | with_reducible rfl | (show bo _ = true; kernel_rfl) | (simp only [aw, a8, List.length_append, List.length_cons, List.length_nil, List.all_append, List.all_cons, List.all_nil, bp, Nat.mul_one, Nat.one_mul, Bool.and_self]; first | done | omega) | (simp only [ByteArray.size_append, bm, List.size_toArray, List.length_cons, List.length_nil]; omega)))
 repeat (first | ((have ct := fh k (by omega) (by omega); (first | refine al.at ct ⟨leA, trivial⟩ ?_ | refine ak.at ct ⟨leA, trivial⟩ ?_); clear ct); simp -implicitDefEqProofs -dsimp only [go_sem]) | (with_reducible refine And.intro (by first | omega | (show bo _ = true; kernel_rfl) | (simp only [ByteArray.size_append, bm, List.size_toArray, List.length_cons, List.length_nil]; omega)) ?_; try (repeat1' (first | simp -implicitDefEqProofs -dsimp only [go_sem] | simp -dsimp (disch := omega) only [wrap_i64]))))
 (first | refine al.at (hsp) ⟨leA, leA, trivial⟩ ?_ | refine ak.at (hsp) ⟨leA, leA, trivial⟩ ?_)
 (repeat ((repeat1' (first | simp -implicitDefEqProofs -dsimp only [go_sem, List.length_cons, dx, StringS.cs] | simp -dsimp (disch := omega) only [wrap_i64])); repeat (with_reducible refine And.intro ?_ ?_; focus (first | omega | with_reducible rfl | (show bo _ = true; kernel_rfl) | (simp only [aw, a8, List.length_append, List.length_cons, List.length_nil, List.all_append, List.all_cons, List.all_nil, bp, Nat.mul_one, Nat.one_mul, Bool.and_self]; first | done | omega) | (simp only [ByteArray.size_append, bm, List.size_toArray, List.length_cons, List.length_nil]; omega)))))
 have h32 : ((#[32] : Array UInt8).size) = 1 := rfl
 have hN : (num k ++ (⟨#[32]⟩ : ByteArray)).size = (num k).size + 1 := ByteArray.size_append
 rw [h32]
 refine ax.ch (fun g1 => ?_) (fun g1 => ?_) <;> simp -implicitDefEqProofs -dsimp only [go_sem, g1, h32]
 rotate_left
 · repeat (with_reducible refine And.intro ?_ ?_; focus (first | omega | with_reducible rfl | (show bo _ = true; kernel_rfl) | (simp only [aw, a8, List.length_append, List.length_cons, List.length_nil, List.all_append, List.all_cons, List.all_nil, bp, Nat.mul_one, Nat.one_mul, Bool.and_self]; first | done | omega) | (simp only [ByteArray.size_append, bm, List.size_toArray, List.length_cons, List.length_nil]; omega)))
   refine aj.au ?_ (by rfl)
   rw [kq, if_pos (.inl (by rw [hN]; simp at g1; omega))]
   rfl
 repeat (with_reducible refine And.intro ?_ ?_; focus (first | omega | with_reducible rfl | (show bo _ = true; kernel_rfl) | (simp only [aw, a8, List.length_append, List.length_cons, List.length_nil, List.all_append, List.all_cons, List.all_nil, bp, Nat.mul_one, Nat.one_mul, Bool.and_self]; first | done | omega) | (simp only [ByteArray.size_append, bm, List.size_toArray, List.length_cons, List.length_nil]; omega)))
 simp -implicitDefEqProofs -dsimp only [go_sem, gp]
 have g1' : (num k).size + 1 ≤ (bef 35 s).size := by simp at g1; omega
 refine ⟨by omega, ?_⟩
 refine bc.split (fun g2 => ?_) (fun g2 => ?_) <;> simp -implicitDefEqProofs -dsimp only [go_sem, g2, h32]
 · repeat (with_reducible refine And.intro ?_ ?_; focus (first | omega | with_reducible rfl | (show bo _ = true; kernel_rfl) | (simp only [aw, a8, List.length_append, List.length_cons, List.length_nil, List.all_append, List.all_cons, List.all_nil, bp, Nat.mul_one, Nat.one_mul, Bool.and_self]; first | done | omega) | (simp only [ByteArray.size_append, bm, List.size_toArray, List.length_cons, List.length_nil]; omega)))
   refine aj.au ?_ (by rfl)
   rw [kq, if_pos (.inr (by rw [hN]; simpa using g2))]
   rfl
 have hno : ¬ ((bef 35 s).size < (num k ++ (⟨#[32]⟩ : ByteArray)).size ∨ ¬ (bef 35 s).extract 0 (num k ++ (⟨#[32]⟩ : ByteArray)).size = num k ++ (⟨#[32]⟩ : ByteArray)) := by
  rw [hN]
  rintro (q | q)
  · omega
  · simp at g2; exact q g2
 have hP : kq k s = wb k s ((bef 35 s).extract ((num k).size + 1) (bef 35 s).size) := by rw [kq, if_neg hno, hN]
 have hRs : ((bef 35 s).extract ((num k).size + 1) (bef 35 s).size).size ≤ s.size := by rw [ByteArray.size_extract]; omega
 repeat (with_reducible refine And.intro ?_ ?_; focus (first | omega | with_reducible rfl | (show bo _ = true; kernel_rfl) | (simp only [aw, a8, List.length_append, List.length_cons, List.length_nil, List.all_append, List.all_cons, List.all_nil, bp, Nat.mul_one, Nat.one_mul, Bool.and_self]; first | done | omega) | (simp only [ByteArray.size_append, bm, List.size_toArray, List.length_cons, List.length_nil]; omega)))
 generalize hR : (bef 35 s).extract ((num k).size + 1) (bef 35 s).size = R at hP hRs ⊢
 have hz4 := ri 64 R
 obtain ⟨l2, hl2, _⟩ := rn 64 R
 have hsp2 := sf R 64 (by omega)
 rw [hl2, c64] at hsp2
 (first | refine al.at (hsp2) ⟨leA, leA, trivial⟩ ?_ | refine ak.at (hsp2) ⟨leA, leA, trivial⟩ ?_)
 (repeat ((repeat1' (first | simp -implicitDefEqProofs -dsimp only [go_sem, List.length_cons, dx, StringS.cs] | simp -dsimp (disch := omega) only [wrap_i64])); repeat (with_reducible refine And.intro ?_ ?_; focus (first | omega | with_reducible rfl | (show bo _ = true; kernel_rfl) | (simp only [aw, a8, List.length_append, List.length_cons, List.length_nil, List.all_append, List.all_cons, List.all_nil, bp, Nat.mul_one, Nat.one_mul, Bool.and_self]; first | done | omega) | (simp only [ByteArray.size_append, bm, List.size_toArray, List.length_cons, List.length_nil]; omega)))))
 refine bc.split (fun g3 => ?_) (fun g3 => ?_) <;> simp -implicitDefEqProofs -dsimp only [go_sem, g3]
 · repeat (with_reducible refine And.intro ?_ ?_; focus (first | omega | with_reducible rfl | (show bo _ = true; kernel_rfl) | (simp only [aw, a8, List.length_append, List.length_cons, List.length_nil, List.all_append, List.all_cons, List.all_nil, bp, Nat.mul_one, Nat.one_mul, Bool.and_self]; first | done | omega) | (simp only [ByteArray.size_append, bm, List.size_toArray, List.length_cons, List.length_nil]; omega)))
   refine aj.au ?_ (by rfl)
   rw [hP, wb, if_pos (by simp at g3; omega)]
   rfl
 have g3' : (bef 64 R).size + 1 ≤ R.size := by simp at g3; omega
 have hP2 : wb k s R = (⟨bef 64 R, R.extract ((bef 64 R).size + 1) R.size⟩, ix ⟨bef 64 R, R.extract ((bef 64 R).size + 1) R.size⟩ && decide (gm k ⟨bef 64 R, R.extract ((bef 64 R).size + 1) R.size⟩ = s ++ ⟨#[10]⟩)) := by
  rw [wb, if_neg (by omega)]
 have hq : IntKind.i64.wrap (((bef 64 R).size : Int) + 1) = (((bef 64 R).size + 1 : Nat) : Int) := by rw [wrap_i64 (by omega) (by omega)]; omega
 have hEz : (R.extract ((bef 64 R).size + 1) R.size).size ≤ R.size := by rw [ByteArray.size_extract]; omega
 (repeat ((repeat1' (first | simp -implicitDefEqProofs -dsimp only [go_sem, hq] | simp -dsimp (disch := omega) only [wrap_i64])); repeat (with_reducible refine And.intro ?_ ?_; focus (first | omega | with_reducible rfl | (show bo _ = true; kernel_rfl) | (simp only [aw, a8, List.length_append, List.length_cons, List.length_nil, List.all_append, List.all_cons, List.all_nil, bp, Nat.mul_one, Nat.one_mul, Bool.and_self]; first | done | omega) | (simp only [ByteArray.size_append, bm, List.size_toArray, List.length_cons, List.length_nil]; omega)))))
 have hE1 : R.extract (IntKind.i64.wrap (((bef 64 R).size : Int) + 1)).toNat R.size = R.extract ((bef 64 R).size + 1) R.size := by rw [hq]; rfl
 rw [hE1]
 generalize hE : R.extract ((bef 64 R).size + 1) R.size = E at hP2 hEz ⊢
 (first | refine al.at (s9 ⟨bef 64 R, E⟩ (by show (bef 64 R).size ≤ _; omega) (by show E.size ≤ _; omega)) ⟨leA, trivial⟩ ?_ | refine ak.at (s9 ⟨bef 64 R, E⟩ (by show (bef 64 R).size ≤ _; omega) (by show E.size ≤ _; omega)) ⟨leA, trivial⟩ ?_)
 cases hb : ix ⟨bef 64 R, E⟩ with
 | false =>
  simp -implicitDefEqProofs -dsimp only [go_sem]
  repeat (with_reducible refine And.intro ?_ ?_; focus (first | omega | with_reducible rfl | (show bo _ = true; kernel_rfl) | (simp only [aw, a8, List.length_append, List.length_cons, List.length_nil, List.all_append, List.all_cons, List.all_nil, bp, Nat.mul_one, Nat.one_mul, Bool.and_self]; first | done | omega) | (simp only [ByteArray.size_append, bm, List.size_toArray, List.length_cons, List.length_nil]; omega)))
  refine aj.au ?_ (by rfl)
  rw [hP, hP2, hb]
  rfl
 | true =>
  have t1 := gr hk hb
  have t2 := iv (di k ⟨bef 64 R, E⟩)
  simp -implicitDefEqProofs -dsimp only [go_sem]
  have hLn := abo k ⟨bef 64 R, E⟩ hk hb
  simp only [az.v] at hLn
  (first | refine al.at (hLn) ⟨leA, leA, trivial⟩ ?_ | refine ak.at (hLn) ⟨leA, leA, trivial⟩ ?_)
  (repeat ((repeat1' (first | simp -implicitDefEqProofs -dsimp only [go_sem, gp] | simp -dsimp (disch := omega) only [wrap_i64])); repeat (with_reducible refine And.intro ?_ ?_; focus (first | omega | with_reducible rfl | (show bo _ = true; kernel_rfl) | (simp only [aw, a8, List.length_append, List.length_cons, List.length_nil, List.all_append, List.all_cons, List.all_nil, bp, Nat.mul_one, Nat.one_mul, Bool.and_self]; first | done | omega) | (simp only [ByteArray.size_append, bm, List.size_toArray, List.length_cons, List.length_nil]; omega)))))
  refine aj.au ?_ (by rfl)
  rw [hP, hP2, hb, Bool.true_and]
  rfl
end Go.Proofs
end
section
set_option maxRecDepth 100000
set_option maxHeartbeats 2000000
namespace Go.Proofs
open Go.Lv
def acg (s : ByteArray) : V := .tup [.osl 0 0 (db s).length 2, .int .i64 (p7 s)]
def aa8 (s : ByteArray) : Hp := [some (rows az.cs (db s))]
theorem abm {k : Int} {s : ByteArray} (h : s.size = 0) : gw k s = none := by
 cases g : gw k s with
 | none => rfl
 | some r => have := y5 g; omega
theorem acm (s : ByteArray) (hs : s.size ≤ 16777216) : Ctr Tryz.prog 135 [.str s] [] (acg s) (aa8 s) := by
 refine Ctr.intro Tryz.mixed Tryz.func135 rfl Tryz.axr ?_
 simp -implicitDefEqProofs -dsimp only [go_sem, Tryz.ntmps135, Tryz.results135]
 refine de.intro (fun i : Nat => (rdN s i).1.length = i) (fun i => ⟨[.str s, .undef, .undef, .undef, .osl 0 0 i 2, .int .i64 (rdN s i).2, .undef, .undef, .undef, .undef, .undef, .undef, .undef, .undef, .undef, .undef, .undef, .undef, .undef, .undef, .undef, .undef, .undef, .undef, .undef, .undef, .undef, .undef, .undef, .undef, .undef, .undef, .undef, .undef, .undef, .undef, .undef, .undef, .undef, .undef, .undef, .undef, .undef, .undef, .undef, .undef, .undef, .undef, .undef, .undef, .undef, .undef], [some (rows az.cs (rdN s i).1)], 0⟩) (fun i => 61 - i) 0 rfl ?_ (fun i hi => ?_)
 · refine bt.cut (1) (by simp) (by simp) ?_ ?_
   · simp [LeC, LeV, ren, br, rdN]
   · simp [cd, dd, rdN, rows]
 have hb := wm s i
 have h60 := vz s i
 have hez : (s.extract (rdN s i).2 s.size).size ≤ 16777216 := by rw [ByteArray.size_extract]; omega
 rw [hi] at h60
 have stop : gw (i : Int) (s.extract (rdN s i).2 s.size) = none → (db s = (rdN s i).1 ∧ p7 s = (rdN s i).2) := fun hd => by
  have e := xl hi hd
  exact ⟨by rw [db, e], by rw [p7, e]⟩
 simp -implicitDefEqProofs -dsimp only [go_sem]
 refine ax.bq (fun g1 => ?_) (fun g1 => ?_) <;> simp -implicitDefEqProofs -dsimp only [go_sem, g1]
 rotate_left
 · obtain ⟨e1, e2⟩ := stop (abm (by rw [ByteArray.size_extract]; simp at g1; omega))
   rw [acg, aa8, e1, e2, hi]
   refine aj.pick [0] (by decide) (fun j hj => by omega) (.inl ?_) ?_
   · first | rfl | (simp [ren, bf, posOf]; done)
   · simp only [bb, List.map_cons, List.map_nil, bj, List.getElem?_cons_zero, List.getElem?_cons_succ, ae]
 refine bc.split (fun g2 => ?_) (fun g2 => ?_) <;> simp -implicitDefEqProofs -dsimp only [go_sem, g2]
 rotate_left
 · have hn : gw (i : Int) (s.extract (rdN s i).2 s.size) = none := by
    cases g : gw (i : Int) (s.extract (rdN s i).2 s.size) with
    | none => rfl
    | some r => have := aio g; simp at g2; omega
   obtain ⟨e1, e2⟩ := stop hn
   rw [acg, aa8, e1, e2, hi]
   refine aj.pick [0] (by decide) (fun j hj => by omega) (.inl ?_) ?_
   · first | rfl | (simp [ren, bf, posOf]; done)
   · simp only [bb, List.map_cons, List.map_nil, bj, List.getElem?_cons_zero, List.getElem?_cons_succ, ae]
 have hk : (0 : Int) ≤ (i : Int) ∧ (i : Int) ≤ 59 := by simp at g2; omega
 repeat (with_reducible refine And.intro ?_ ?_; focus (first | omega | with_reducible rfl | (show bo _ = true; kernel_rfl) | (simp only [aw, a8, List.length_append, List.length_cons, List.length_nil, List.all_append, List.all_cons, List.all_nil, bp, Nat.mul_one, Nat.one_mul, Bool.and_self]; first | done | omega) | (simp only [ByteArray.size_append, bm, List.size_toArray, List.length_cons, List.length_nil]; omega)))
 generalize hR : s.extract (rdN s i).2 s.size = R at hez stop ⊢
 obtain ⟨l, hl, hl0⟩ := rn 10 R
 have hsp := sf R 10 hez
 have c10 : (((10 : UInt8).toNat : Nat) : Int) = 10 := rfl
 rw [hl, c10] at hsp
 (first | refine al.at (hsp) ⟨leA, leA, trivial⟩ ?_ | refine ak.at (hsp) ⟨leA, leA, trivial⟩ ?_)
 have hz := ri 10 R
 (repeat ((repeat1' (first | simp -implicitDefEqProofs -dsimp only [go_sem, List.length_cons, dx, StringS.cs] | simp -dsimp (disch := omega) only [wrap_i64])); repeat (with_reducible refine And.intro ?_ ?_; focus (first | omega | with_reducible rfl | (show bo _ = true; kernel_rfl) | (simp only [aw, a8, List.length_append, List.length_cons, List.length_nil, List.all_append, List.all_cons, List.all_nil, bp, Nat.mul_one, Nat.one_mul, Bool.and_self]; first | done | omega) | (simp only [ByteArray.size_append, bm, List.size_toArray, List.length_cons, List.length_nil]; omega)))))
 (have ct := aif (i : Int) (bef 10 R) hk (by omega); (first | refine al.at ct ⟨leA, leA, trivial⟩ ?_ | refine ak.at ct ⟨leA, leA, trivial⟩ ?_); clear ct)
 (repeat ((repeat1' (first | simp -implicitDefEqProofs -dsimp only [go_sem, az.v] | simp -dsimp (disch := omega) only [wrap_i64])); repeat (with_reducible refine And.intro ?_ ?_; focus (first | omega | with_reducible rfl | (show bo _ = true; kernel_rfl) | (simp only [aw, a8, List.length_append, List.length_cons, List.length_nil, List.all_append, List.all_cons, List.all_nil, bp, Nat.mul_one, Nat.one_mul, Bool.and_self]; first | done | omega) | (simp only [ByteArray.size_append, bm, List.size_toArray, List.length_cons, List.length_nil]; omega)))))
 refine ax.ch (fun g3 => ?_) (fun g3 => ?_) <;> simp -implicitDefEqProofs -dsimp only [go_sem, g3]
 rotate_left
 · have hf : fnd 10 R = false := hl0.1 (by
    cases l with
    | nil => rfl
    | cons a l => simp at g3; omega)
   obtain ⟨e1, e2⟩ := stop (by rw [gw, hf]; rfl)
   rw [acg, aa8, e1, e2, hi]
   refine aj.pick [0] (by decide) (fun j hj => by omega) (.inl ?_) ?_
   · first | rfl | (simp [ren, bf, posOf]; done)
   · simp only [bb, List.map_cons, List.map_nil, bj, List.getElem?_cons_zero, List.getElem?_cons_succ, ae]
 have hf : fnd 10 R = true := by
  cases q : fnd 10 R with
  | true => rfl
  | false => rw [hl0.2 q] at g3; simp at g3
 have hd : gw (i : Int) R = (y8 (i : Int) (bef 10 R)).map fun e => (e, (bef 10 R).size + 1) := by rw [gw, if_pos hf]
 have hfs := aa4 hf
 have hRs : R.size + (rdN s i).2 ≤ s.size := by
  rw [← hR, ByteArray.size_extract]; omega
 refine bc.split (fun g4 => ?_) (fun g4 => ?_)
 · simp -implicitDefEqProofs -dsimp only [go_sem, g4]
   have hp : (kq (i : Int) (bef 10 R)).2 = false := by simpa using g4
   obtain ⟨e1, e2⟩ := stop (by
    rw [hd]
    cases q : y8 (i : Int) (bef 10 R) with
    | none => rfl
    | some e => rw [al1 q] at hp; cases hp)
   rw [acg, aa8, e1, e2, hi]
   refine aj.pick [0] (by decide) (fun j hj => by omega) (.inl ?_) ?_
   · first | rfl | (simp [ren, bf, posOf]; done)
   · simp only [bb, List.map_cons, List.map_nil, bj, List.getElem?_cons_zero, List.getElem?_cons_succ, ae]
 · have hp : (kq (i : Int) (bef 10 R)).2 = true := by simpa using g4
   have hs' := agf hk hp
   rw [hs'] at hd
   have hS : rdN s (i + 1) = ((rdN s i).1 ++ [(kq (i : Int) (bef 10 R)).1], (rdN s i).2 + ((bef 10 R).size + 1)) := kf (r := ((kq (i : Int) (bef 10 R)).1, (bef 10 R).size + 1)) (by rw [hi, hR, hd]; rfl)
   (repeat ((repeat1' (first | simp -implicitDefEqProofs -dsimp only [go_sem, g4, aw, a8, hi, Nat.mul_one, List.length_cons, dx, StringS.cs] | simp -dsimp (disch := omega) only [wrap_i64])); repeat (with_reducible refine And.intro ?_ ?_; focus (first | omega | with_reducible rfl | (show bo _ = true; kernel_rfl) | (simp only [aw, a8, List.length_append, List.length_cons, List.length_nil, List.all_append, List.all_cons, List.all_nil, bp, Nat.mul_one, Nat.one_mul, Bool.and_self]; first | done | omega) | (simp only [ByteArray.size_append, bm, List.size_toArray, List.length_cons, List.length_nil]; omega)))))
   refine ⟨i + 1, by rw [hS]; simp [hi], ?_, by omega⟩
   refine bt.cut (1) (by simp) (by simp) ?_ ?_
   · rw [hS]; (simp [LeC, LeV, ren, br]; try omega)
   · rw [hS, ← eg]
     simp [cd, dd, ren, br, ae, cz, mc, az.cs]
end Go.Proofs
end
section
set_option maxRecDepth 100000
namespace Go.Proofs
open Go.Lv
structure Log where
 Durable : ByteArray
 Pending : ByteArray
 Count : Int
def Log.cs (r : Log) : List V := [.str r.Durable, .str r.Pending, .int .i64 r.Count]
def Log.v (r : Log) : V := .agg [.str r.Durable, .str r.Pending, .int .i64 r.Count]
theorem Log.csl (a : Log) : a.cs.length = 3 := rfl
theorem Log.csp (a : Log) : a.cs.all (cb 2) = true := rfl
instance : pn Log.cs 3 := ⟨fun _ => rfl, fun _ d => by cases d <;> rfl, fun _ => rfl, fun _ => rfl⟩
def Log.ok (r : Log) : Prop := agp r.Durable ∧ agp r.Pending ∧ gz r.Count
abbrev Log.rows (L : List Log) : List V := Go.Lv.rows Log.cs L
abbrev Log.sl (L : List Log) : V := .sl L.length 3 (Go.Lv.rows Log.cs L)
abbrev Log.zs : List V := [.str ByteArray.empty, .str ByteArray.empty, .int .i64 0]
theorem ahf (r : Log) : Ctr Tryz.prog 28 [r.v] [] r.v [] := by
 refine Ctr.intro Tryz.mixed Tryz.func28 rfl Tryz.a5h ?_
 simp -implicitDefEqProofs -dsimp only [go_sem, Tryz.ntmps28, Tryz.results28]
 simp -implicitDefEqProofs -dsimp only [go_sem, Log.v]
 exact aj.au rfl rfl
theorem agz (r : Log) : Ctr Tryz.prog 109 [r.v, r.v] [] (.bool true) [] := by
 refine Ctr.intro Tryz.mixed Tryz.func109 rfl Tryz.ave ?_
 simp -implicitDefEqProofs -dsimp only [go_sem, Tryz.ntmps109, Tryz.results109]
 simp -implicitDefEqProofs -dsimp only [go_sem, Log.v, bne_self_eq_false, beq_self_eq_true, Bool.not_true]
 exact aj.au rfl rfl
end Go.Proofs
end
section
set_option maxRecDepth 100000
set_option maxHeartbeats 2000000
namespace Go.Proofs
open Go.Lv
theorem akc (s : ByteArray) : ∃ i, i ≤ 60 ∧ (rdN s i).1.length = i ∧ rdN s 60 = rdN s i ∧ gw i (s.extract (rdN s i).2 s.size) = none := by
 have key : ∀ m, (rdN s m).1.length = m ∨ ∃ i, (rdN s i).1.length = i ∧ gw i (s.extract (rdN s i).2 s.size) = none := by
  intro m
  induction m with
  | zero => exact .inl rfl
  | succ m ih =>
   rcases ih with h | h
   · cases g : gw (m : Int) (s.extract (rdN s m).2 s.size) with
     | none => exact .inr ⟨m, h, g⟩
     | some r =>
      refine .inl ?_
      rw [kf (r := r) (by rw [h]; exact g)]
      simp [h]
   · exact .inr h
 rcases key 61 with h | ⟨i, h1, h2⟩
 · have := vz s 61; omega
 · have := vz s i
   exact ⟨i, by omega, h1, xl h1 h2, h2⟩
theorem xf (s : ByteArray) : (rdN s (db s).length).1.length = (db s).length ∧ rdN s 60 = rdN s (db s).length ∧ gw (db s).length (s.extract (p7 s) s.size) = none ∧ (db s).length ≤ 60 := by
 obtain ⟨i, h0, h1, h2, h3⟩ := akc s
 have e : (db s).length = i := by rw [db, h2, h1]
 have e2 : p7 s = (rdN s i).2 := by rw [p7, h2]
 rw [e, e2]
 exact ⟨h1, h2, h3, h0⟩
theorem ajq (s : ByteArray) : p7 s = (rdN s (db s).length).2 := by rw [p7, (xf s).2.1]
theorem aqa (s : ByteArray) : p7 s ≤ s.size ∧ p7 s ≤ 25380 := by
 have h1 := wm s 60
 have h2 := vz s 60
 unfold p7; omega
theorem aj2 {c : UInt8} {x y : ByteArray} (h : fnd c x = true) : fnd c (x ++ y) = true ∧ bef c (x ++ y) = bef c x := by
 obtain ⟨a, b, rfl, ha⟩ := xc h
 have e : (a ++ (⟨#[c]⟩ ++ b)) ++ y = a ++ (⟨#[c]⟩ ++ (b ++ y)) := by simp only [ByteArray.append_assoc]
 rw [e]
 exact ⟨(qu ha).2.2.2, by rw [(qu ha).2.1, (qu ha).2.1]⟩
theorem aom {k : Int} {x y : ByteArray} {r : az × Nat} (h : gw k x = some r) : gw k (x ++ y) = some r := by
 obtain ⟨h1, h2, h3⟩ := vh h
 obtain ⟨g1, g2⟩ := aj2 (y := y) h1
 rw [gw, if_pos g1, g2, h2]
 simp only [Option.map_some]
 rw [← h3]
theorem ard {c : UInt8} {x y : ByteArray} (h : fnd c (x ++ y) = true) (hs : (bef c (x ++ y)).size + 1 ≤ x.size) : fnd c x = true := by
 cases g : fnd c x with
 | true => rfl
 | false =>
  exfalso
  obtain ⟨a, b, e, ha⟩ := xc h
  rw [e, (qu ha).2.1] at hs
  have hx : x.data.toList ++ y.data.toList = a.data.toList ++ c :: b.data.toList := by
   rw [← lk, e, lk, lk]; rfl
  have hc : x.data.toList[a.size]? = some c := by
   have h1 : (x.data.toList ++ y.data.toList)[a.size]? = some c := by
    rw [hx, List.getElem?_append_right (by rw [ew]; exact Nat.le_refl _), ew]
    simp
   rwa [List.getElem?_append_left (by rw [ew]; omega)] at h1
  have hne : Lib.indexByte x.data.toList c = -1 := by
   have h1 := Lib.indexByte_ge x.data.toList c
   have h2 : ¬ 0 ≤ Lib.indexByte x.data.toList c := by
    intro q
    have : fnd c x = true := decide_eq_true q
    rw [this] at g; cases g
   omega
  exact Lib.indexByte_none hne a.size hc
theorem aoz {k : Int} {x y : ByteArray} {r : az × Nat} (h : gw k (x ++ y) = some r) (hs : r.2 ≤ x.size) : gw k x = some r := by
 obtain ⟨h1, h2, h3⟩ := vh h
 have g1 := ard h1 (by omega)
 have g2 := (aj2 (y := y) g1).2
 rw [g2] at h2 h3
 rw [gw, if_pos g1, h2]
 simp only [Option.map_some]
 rw [← h3]
theorem aj8 {D P : ByteArray} {a : Nat} (h : a ≤ D.size) : (D ++ P).extract a (D ++ P).size = D.extract a D.size ++ P := by
 apply ra
 have hl : (D ++ P).size = (D ++ P).data.toList.length := rfl
 have hl2 : D.size = D.data.toList.length := rfl
 rw [lk, dn, dn, hl, List.take_length, hl2, List.take_length, lk]
 exact List.drop_append_of_le_length (by rw [ew]; exact h)
theorem an2 {D P : ByteArray} : ∀ {j : Nat}, (rdN D j).1.length = j → rdN (D ++ P) j = rdN D j
 | 0, _ => rfl
 | j + 1, h => by
  have hj := aan h (Nat.le_succ j)
  have ih := an2 (P := P) hj
  cases g : gw (j : Int) (D.extract (rdN D j).2 D.size) with
  | none => rw [rk (by rw [hj]; exact g)] at h; omega
  | some r =>
   rw [kf (s := D) (r := r) (by rw [hj]; exact g)]
   rw [kf (s := D ++ P) (r := r) (by rw [ih, hj, aj8 (wm D j).1]; exact aom g), ih]
theorem aos {D P : ByteArray} : ∀ {j : Nat}, (rdN (D ++ P) j).1.length = j → (rdN (D ++ P) j).2 ≤ D.size → rdN D j = rdN (D ++ P) j
 | 0, _, _ => rfl
 | j + 1, h, hs => by
  have hj := aan h (Nat.le_succ j)
  cases g : gw (j : Int) ((D ++ P).extract (rdN (D ++ P) j).2 (D ++ P).size) with
  | none => rw [rk (by rw [hj]; exact g)] at h; omega
  | some r =>
   have hS := kf (s := D ++ P) (n := j) (r := r) (by rw [hj]; exact g)
   rw [hS] at hs ⊢
   simp only at hs
   have ih := aos hj (by omega)
   rw [← ih] at g hs
   rw [aj8 (wm D j).1] at g
   have g2 := aoz g (by rw [ByteArray.size_extract]; omega)
   rw [kf (s := D) (r := r) (by
    have e : (rdN D j).1.length = j := by rw [ih]; exact hj
    rw [e]; exact g2), ih]
theorem ago {D P : ByteArray} : (∃ j, j ≤ (db (D ++ P)).length ∧ (rdN (D ++ P) j).2 = D.size) ↔ p7 D = D.size := by
 obtain ⟨h1, h2, h3, h4⟩ := xf (D ++ P)
 constructor
 · rintro ⟨j, hj, e⟩
   have hl := aan h1 hj
   have hp := aos hl (by omega)
   have hd : gw (j : Int) (D.extract (rdN D j).2 D.size) = none := abm (by rw [hp, e, ByteArray.size_extract]; omega)
   have := xl (s := D) (by rw [hp]; exact hl) hd
   rw [p7, this, hp, e]
 · intro e
   obtain ⟨i, k0, k1, k2, k3⟩ := akc D
   have ha := an2 (P := P) k1
   have hi : (rdN (D ++ P) i).1.length = i := by rw [ha]; exact k1
   refine ⟨i, ?_, by rw [ha, ← e, p7, k2]⟩
   by_cases c : i ≤ (db (D ++ P)).length
   · exact c
   · exfalso
     have h5 : gw ((db (D ++ P)).length : Int) ((D ++ P).extract (rdN (D ++ P) (db (D ++ P)).length).2 (D ++ P).size) = none := by
      rw [← ajq]; exact h3
     have := y3 (s := D ++ P) (n := (db (D ++ P)).length) (by rw [h1]; exact h5) (i - (db (D ++ P)).length)
     have e2 : (db (D ++ P)).length + (i - (db (D ++ P)).length) = i := by omega
     rw [e2] at this
     rw [this, h1] at hi
     omega
def qx (l : Log) : Bool := decide (l.Durable.size + l.Pending.size ≤ 30000) && (decide (p7 (l.Durable ++ l.Pending) = l.Durable.size + l.Pending.size) && (decide (p7 l.Durable = l.Durable.size) && decide (((db (l.Durable ++ l.Pending)).length : Int) = l.Count)))
theorem ad5 (l : Log) (hd : l.Durable.size ≤ 4194304) (hp : l.Pending.size ≤ 4194304) : Ctr Tryz.prog 87 [l.v] [] (.bool (qx l)) [] := by
 have hsz : (l.Durable ++ l.Pending).size = l.Durable.size + l.Pending.size := ByteArray.size_append
 have hw : IntKind.i64.wrap ((l.Durable.size : Int) + (l.Pending.size : Int)) = (l.Durable.size : Int) + (l.Pending.size : Int) := wrap_i64 (by omega) (by omega)
 refine Ctr.intro Tryz.mixed Tryz.func87 rfl Tryz.a45 ?_
 simp -implicitDefEqProofs -dsimp only [go_sem, Tryz.ntmps87, Tryz.results87]
 (repeat ((repeat1' (first | simp -implicitDefEqProofs -dsimp only [go_sem, Log.v, hw] | simp -dsimp (disch := omega) only [wrap_i64])); repeat (with_reducible refine And.intro ?_ ?_; focus (first | omega | with_reducible rfl | (show bo _ = true; kernel_rfl) | (simp only [aw, a8, List.length_append, List.length_cons, List.length_nil, List.all_append, List.all_cons, List.all_nil, bp, Nat.mul_one, Nat.one_mul, Bool.and_self]; first | done | omega) | (simp only [ByteArray.size_append, bm, List.size_toArray, List.length_cons, List.length_nil]; omega)))))
 refine bc.split (fun g1 => ?_) (fun g1 => ?_) <;> (repeat ((repeat1' (first | simp -implicitDefEqProofs -dsimp only [go_sem, g1] | simp -dsimp (disch := omega) only [wrap_i64])); repeat (with_reducible refine And.intro ?_ ?_; focus (first | omega | with_reducible rfl | (show bo _ = true; kernel_rfl) | (simp only [aw, a8, List.length_append, List.length_cons, List.length_nil, List.all_append, List.all_cons, List.all_nil, bp, Nat.mul_one, Nat.one_mul, Bool.and_self]; first | done | omega) | (simp only [ByteArray.size_append, bm, List.size_toArray, List.length_cons, List.length_nil]; omega)))))
 · refine aj.au ?_ (by rfl)
   have : ¬ l.Durable.size + l.Pending.size ≤ 30000 := by simp at g1; omega
   simp [qx, this]
 (have ct := acm (l.Durable ++ l.Pending) (by rw [hsz]; omega); (first | refine al.at ct ⟨leA, trivial⟩ ?_ | refine ak.at ct ⟨leA, trivial⟩ ?_); clear ct)
 (repeat ((repeat1' (first | simp -implicitDefEqProofs -dsimp only [go_sem, acg, aa8, hw] | simp -dsimp (disch := omega) only [wrap_i64])); repeat (with_reducible refine And.intro ?_ ?_; focus (first | omega | with_reducible rfl | (show bo _ = true; kernel_rfl) | (simp only [aw, a8, List.length_append, List.length_cons, List.length_nil, List.all_append, List.all_cons, List.all_nil, bp, Nat.mul_one, Nat.one_mul, Bool.and_self]; first | done | omega) | (simp only [ByteArray.size_append, bm, List.size_toArray, List.length_cons, List.length_nil]; omega)))))
 (have ct := acm l.Durable (by omega); (first | refine al.at ct ⟨leA, trivial⟩ ?_ | refine ak.at ct ⟨leA, trivial⟩ ?_); clear ct)
 (repeat ((repeat1' (first | simp -implicitDefEqProofs -dsimp only [go_sem, acg, aa8, hw] | simp -dsimp (disch := omega) only [wrap_i64])); repeat (with_reducible refine And.intro ?_ ?_; focus (first | omega | with_reducible rfl | (show bo _ = true; kernel_rfl) | (simp only [aw, a8, List.length_append, List.length_cons, List.length_nil, List.all_append, List.all_cons, List.all_nil, bp, Nat.mul_one, Nat.one_mul, Bool.and_self]; first | done | omega) | (simp only [ByteArray.size_append, bm, List.size_toArray, List.length_cons, List.length_nil]; omega)))))
 have hb : decide (l.Durable.size + l.Pending.size ≤ 30000) = true := by simp at g1 ⊢; omega
 have c1 : (((p7 (l.Durable ++ l.Pending) : Nat) : Int) == (l.Durable.size : Int) + (l.Pending.size : Int)) = decide (p7 (l.Durable ++ l.Pending) = l.Durable.size + l.Pending.size) := by rw [Bool.eq_iff_iff]; simp; omega
 have c2 : (((p7 l.Durable : Nat) : Int) == (l.Durable.size : Int)) = decide (p7 l.Durable = l.Durable.size) := by rw [Bool.eq_iff_iff]; simp; omega
 refine ax.bq (fun g2 => ?_) (fun g2 => ?_) <;> simp -implicitDefEqProofs -dsimp only [go_sem, g2, hw]
 rotate_left
 · refine aj.au ?_ (by rfl)
   rw [c1] at g2
   simp only [qx, g2, Bool.false_and, Bool.and_false]
 refine ax.bq (fun g3 => ?_) (fun g3 => ?_) <;> simp -implicitDefEqProofs -dsimp only [go_sem, g3, hw]
 rotate_left
 · refine aj.au ?_ (by rfl)
   rw [c2] at g3
   simp only [qx, g3, Bool.false_and, Bool.and_false]
 refine aj.au ?_ (by rfl)
 rw [c1] at g2
 rw [c2] at g3
 simp only [qx, hb, g2, g3, Bool.true_and]
 congr 1
def dk (s : ByteArray) : List Int := 0 :: nz s (db s).length
theorem sn (s : ByteArray) : (dk s).length = (db s).length + 1 := by simp [dk, wv]
theorem se {s : ByteArray} {i : Nat} (h : i < (dk s).length) : (dk s)[i] = ((rdN s i).2 : Int) := by
 cases i with
 | zero => rfl
 | succ i => simp [dk, nz]
def awk (l : Log) : Bool := (dk (l.Durable ++ l.Pending)).any fun a => a == (l.Durable.size : Int)
theorem ari (l : Log) : awk l = decide (p7 l.Durable = l.Durable.size) := by
 rw [Bool.eq_iff_iff, decide_eq_true_eq, ← ago (P := l.Pending), awk, List.any_eq_true]
 constructor
 · rintro ⟨a, ha, e⟩
   obtain ⟨i, hi, rfl⟩ := List.getElem_of_mem ha
   rw [se hi] at e
   rw [sn] at hi
   exact ⟨i, by omega, by simp at e; omega⟩
 · rintro ⟨j, hj, e⟩
   have hi : j < (dk (l.Durable ++ l.Pending)).length := by rw [sn]; omega
   exact ⟨_, List.getElem_mem hi, by rw [se hi, e]; simp⟩
def ag2 (l : Log) : V := .tup [.osl 0 0 (db (l.Durable ++ l.Pending)).length 2, .bool (qx l)]
def ajw (l : Log) : Hp := [some (rows az.cs (db (l.Durable ++ l.Pending)))]
theorem aja (l : Log) (hd : l.Durable.size ≤ 4194304) (hp : l.Pending.size ≤ 4194304) : Ctr Tryz.prog 89 [l.v] [] (ag2 l) (ajw l) := by
 have hsz : (l.Durable ++ l.Pending).size = l.Durable.size + l.Pending.size := ByteArray.size_append
 refine Ctr.intro Tryz.mixed Tryz.func89 rfl Tryz.a4m ?_
 simp -implicitDefEqProofs -dsimp only [go_sem, Tryz.ntmps89, Tryz.results89]
 (repeat ((repeat1' (first | simp -implicitDefEqProofs -dsimp only [go_sem, Log.v] | simp -dsimp (disch := omega) only [wrap_i64])); repeat (with_reducible refine And.intro ?_ ?_; focus (first | omega | with_reducible rfl | (show bo _ = true; kernel_rfl) | (simp only [aw, a8, List.length_append, List.length_cons, List.length_nil, List.all_append, List.all_cons, List.all_nil, bp, Nat.mul_one, Nat.one_mul, Bool.and_self]; first | done | omega) | (simp only [ByteArray.size_append, bm, List.size_toArray, List.length_cons, List.length_nil]; omega)))))
 (have ct := aq1 (l.Durable ++ l.Pending) (by rw [hsz]; omega); (first | refine al.at ct ⟨leA, trivial⟩ ?_ | refine ak.at ct ⟨leA, trivial⟩ ?_); clear ct)
 have h60 := (xf (l.Durable ++ l.Pending)).2.2.2
 have hen := wv (l.Durable ++ l.Pending) (db (l.Durable ++ l.Pending)).length
 have htk : List.take (db (l.Durable ++ l.Pending)).length (rows IntS.cs (nz (l.Durable ++ l.Pending) (db (l.Durable ++ l.Pending)).length)) = rows IntS.cs (nz (l.Durable ++ l.Pending) (db (l.Durable ++ l.Pending)).length) :=
  List.take_of_length_le (by rw [aw, hen]; omega)
 (repeat ((repeat1' (first | simp -implicitDefEqProofs -dsimp only [go_sem, am2, ao5, aw, a8, hen, htk, Nat.mul_one, List.length_cons, List.length_nil] | simp -dsimp (disch := omega) only [wrap_i64])); repeat (with_reducible refine And.intro ?_ ?_; focus (first | omega | with_reducible rfl | (show bo _ = true; kernel_rfl) | (simp only [aw, a8, List.length_append, List.length_cons, List.length_nil, List.all_append, List.all_cons, List.all_nil, bp, Nat.mul_one, Nat.one_mul, Bool.and_self]; first | done | omega) | (simp only [ByteArray.size_append, bm, List.size_toArray, List.length_cons, List.length_nil]; omega)))))
 have hsl := sn (l.Durable ++ l.Pending)
 have hw : IntKind.i64.wrap ((l.Durable.size : Int) + (l.Pending.size : Int)) = (l.Durable.size : Int) + (l.Pending.size : Int) := wrap_i64 (by omega) (by omega)
 refine de.intro (fun i : Nat => i ≤ (dk (l.Durable ++ l.Pending)).length) (fun i => ⟨[.undef, .ptr 0 0, .undef, .undef, .str (l.Durable ++ l.Pending), .osl 1 0 (db (l.Durable ++ l.Pending)).length 2, .undef, .osl 2 0 (dk (l.Durable ++ l.Pending)).length 1, .bool (((dk (l.Durable ++ l.Pending)).take i).any fun a => a == (l.Durable.size : Int)), .undef, .undef, .undef, .undef, .undef, .undef, .undef, .undef, .undef, .undef, .undef, .undef, .undef, .undef, .undef, .osl 2 0 (dk (l.Durable ++ l.Pending)).length 1, .int .i64 (dk (l.Durable ++ l.Pending)).length, .int .i64 i, .undef, .undef, .undef, .undef, .undef, .undef, .undef, .undef, .undef, .undef, .undef, .undef, .undef, .undef, .undef, .undef, .undef, .undef, .undef, .undef, .undef, .undef, .undef, .undef, .undef, .undef, .undef, .undef, .undef, .undef, .undef, .undef], [some l.cs, some (rows az.cs (db (l.Durable ++ l.Pending))), some (rows IntS.cs (dk (l.Durable ++ l.Pending)))], 0⟩) (fun i => (dk (l.Durable ++ l.Pending)).length - i) 0 (Nat.zero_le _) ?_ (fun i hi => ?_)
 · refine bt.pick [0, 1, 3] (by decide) (fun j hj => by omega) ?_ ?_
   · simp [LeG, LeV, ren, bf, posOf, hsl]
     omega
   · simp [bb, bj, ren, bf, posOf, ae, Log.cs]
     rw [dk, dx]
     simp only [IntS.cs, List.cons_append, List.nil_append]
 simp -implicitDefEqProofs -dsimp only [go_sem, Log.cs]
 refine bc.split (fun h1 => ?_) (fun h1 => ?_)
 · simp -implicitDefEqProofs -dsimp only [go_sem, h1]
   have hi' : i < (dk (l.Durable ++ l.Pending)).length := by simpa using h1
   have hr := bu IntS.csl hi'
   repeat (with_reducible refine And.intro ?_ ?_; focus (first | omega | with_reducible rfl | (show bo _ = true; kernel_rfl) | (simp only [aw, a8, List.length_append, List.length_cons, List.length_nil, List.all_append, List.all_cons, List.all_nil, bp, Nat.mul_one, Nat.one_mul, Bool.and_self]; first | done | omega) | (simp only [ByteArray.size_append, bm, List.size_toArray, List.length_cons, List.length_nil]; omega)))
   have e1 : ((dk (l.Durable ++ l.Pending)).take (i + 1)).any (fun a => a == (l.Durable.size : Int)) = (((dk (l.Durable ++ l.Pending)).take i).any (fun a => a == (l.Durable.size : Int)) || ((dk (l.Durable ++ l.Pending))[i] == (l.Durable.size : Int))) := by
    rw [List.take_succ_eq_append_getElem hi', List.any_append]; simp
   rw [hr]
   refine ax.ch (fun h2 => ?_) (fun h2 => ?_) <;> (repeat ((repeat1' (first | simp -implicitDefEqProofs -dsimp only [go_sem, h2, IntS.cs, Log.cs] | simp -dsimp (disch := omega) only [wrap_i64])); repeat (with_reducible refine And.intro ?_ ?_; focus (first | omega | with_reducible rfl | (show bo _ = true; kernel_rfl) | (simp only [aw, a8, List.length_append, List.length_cons, List.length_nil, List.all_append, List.all_cons, List.all_nil, bp, Nat.mul_one, Nat.one_mul, Bool.and_self]; first | done | omega) | (simp only [ByteArray.size_append, bm, List.size_toArray, List.length_cons, List.length_nil]; omega)))))
   · refine ⟨i + 1, hi', ?_, by omega⟩
     refine bt.cut (3) (by simp) (by simp) ?_ ?_
     · rw [e1, h2]; simp [LeC, LeV, ren, br]
     · simp [cd, dd, ren, ae, Log.cs]
   · refine ⟨i + 1, hi', ?_, by omega⟩
     refine bt.cut (3) (by simp) (by simp) ?_ ?_
     · rw [e1, h2]; simp [LeC, LeV, ren, br]
     · simp [cd, dd, ren, ae, Log.cs]
 · simp -implicitDefEqProofs -dsimp only [go_sem, h1]
   have hi' : i = (dk (l.Durable ++ l.Pending)).length := by simp at h1; omega
   subst hi'
   rw [List.take_length]
   have hdu : ((dk (l.Durable ++ l.Pending)).any fun a => a == (l.Durable.size : Int)) = awk l := rfl
   rw [hdu]
   repeat (with_reducible refine And.intro ?_ ?_; focus (first | omega | with_reducible rfl | (show bo _ = true; kernel_rfl) | (simp only [aw, a8, List.length_append, List.length_cons, List.length_nil, List.all_append, List.all_cons, List.all_nil, bp, Nat.mul_one, Nat.one_mul, Bool.and_self]; first | done | omega) | (simp only [ByteArray.size_append, bm, List.size_toArray, List.length_cons, List.length_nil]; omega)))
   have hlast : (db (l.Durable ++ l.Pending)).length < (dk (l.Durable ++ l.Pending)).length := by rw [hsl]; omega
   have hr2 := bu IntS.csl hlast
   rw [se hlast, ← ajq] at hr2
   have hw2 : IntKind.i64.wrap (((dk (l.Durable ++ l.Pending)).length : Int) - 1) = ((db (l.Durable ++ l.Pending)).length : Int) := by rw [wrap_i64 (by omega) (by omega)]; omega
   have hdb := ari l
   refine ax.bq (fun g1 => ?_) (fun g1 => ?_) <;> simp -implicitDefEqProofs -dsimp only [go_sem, g1]
   · (repeat ((repeat1' (first | simp -implicitDefEqProofs -dsimp only [go_sem, hr2, hw2, hsz, IntS.cs] | simp -dsimp (disch := omega) only [wrap_i64])); repeat (with_reducible refine And.intro ?_ ?_; focus (first | omega | with_reducible rfl | (show bo _ = true; kernel_rfl) | (simp only [aw, a8, List.length_append, List.length_cons, List.length_nil, List.all_append, List.all_cons, List.all_nil, bp, Nat.mul_one, Nat.one_mul, Bool.and_self]; first | done | omega) | (simp only [ByteArray.size_append, bm, List.size_toArray, List.length_cons, List.length_nil]; omega)))))
     rw [hdb] at g1
     have hab := (aqa (l.Durable ++ l.Pending)).2
     have c1 : (((p7 (l.Durable ++ l.Pending) : Nat) : Int) == ((l.Durable.size + l.Pending.size : Nat) : Int)) = decide (p7 (l.Durable ++ l.Pending) = l.Durable.size + l.Pending.size) := by rw [Bool.eq_iff_iff]; simp; omega
     refine ax.bq (fun g2 => ?_) (fun g2 => ?_) <;> simp -implicitDefEqProofs -dsimp only [go_sem, g2]
     · rw [c1] at g2
       have hb : decide (l.Durable.size + l.Pending.size ≤ 30000) = true := by simp at g2 ⊢; omega
       have hL : qx l = (l.Count == ((db (l.Durable ++ l.Pending)).length : Int)) := by
        simp only [qx, hb, g1, g2, Bool.true_and]
        rw [Bool.eq_iff_iff]
        simp
        exact ⟨fun h => h.symm, fun h => h.symm⟩
       repeat (with_reducible refine And.intro ?_ ?_; focus (first | omega | with_reducible rfl | (show bo _ = true; kernel_rfl) | (simp only [aw, a8, List.length_append, List.length_cons, List.length_nil, List.all_append, List.all_cons, List.all_nil, bp, Nat.mul_one, Nat.one_mul, Bool.and_self]; first | done | omega) | (simp only [ByteArray.size_append, bm, List.size_toArray, List.length_cons, List.length_nil]; omega)))
       rw [ag2, ajw, hL]
       refine aj.pick [1] (by decide) (fun j hj => by omega) (.inl ?_) ?_
       · first | rfl | (simp [ren, bf, posOf]; done)
       · simp only [bb, List.map_cons, List.map_nil, bj, List.getElem?_cons_zero, List.getElem?_cons_succ, ae]
     · rw [c1] at g2
       have hL : qx l = false := by simp only [qx, g2, Bool.false_and, Bool.and_false]
       repeat (with_reducible refine And.intro ?_ ?_; focus (first | omega | with_reducible rfl | (show bo _ = true; kernel_rfl) | (simp only [aw, a8, List.length_append, List.length_cons, List.length_nil, List.all_append, List.all_cons, List.all_nil, bp, Nat.mul_one, Nat.one_mul, Bool.and_self]; first | done | omega) | (simp only [ByteArray.size_append, bm, List.size_toArray, List.length_cons, List.length_nil]; omega)))
       rw [ag2, ajw, hL]
       refine aj.pick [1] (by decide) (fun j hj => by omega) (.inl ?_) ?_
       · first | rfl | (simp [ren, bf, posOf]; done)
       · simp only [bb, List.map_cons, List.map_nil, bj, List.getElem?_cons_zero, List.getElem?_cons_succ, ae]
   · rw [hdb] at g1
     have hL : qx l = false := by simp only [qx, g1, Bool.false_and, Bool.and_false]
     rw [ag2, ajw, hL]
     refine aj.pick [1] (by decide) (fun j hj => by omega) (.inl ?_) ?_
     · first | rfl | (simp [ren, bf, posOf]; done)
     · simp only [bb, List.map_cons, List.map_nil, bj, List.getElem?_cons_zero, List.getElem?_cons_succ, ae]
theorem ud (l : Log) (hd : l.Durable.size ≤ 4194304) (hp : l.Pending.size ≤ 4194304) : Ctr Tryz.prog 103 [l.v] [] (.bool (qx l)) [] := by
 refine Ctr.intro Tryz.mixed Tryz.func103 rfl Tryz.av4 ?_
 simp -implicitDefEqProofs -dsimp only [go_sem, Tryz.ntmps103, Tryz.results103]
 simp -implicitDefEqProofs -dsimp only [go_sem, Log.v]
 (have ct := aja l hd hp; (first | refine al.at ct ⟨leA, trivial⟩ ?_ | refine ak.at ct ⟨leA, trivial⟩ ?_); clear ct)
 simp -implicitDefEqProofs -dsimp only [go_sem, ag2]
 exact aj.au rfl (by rfl)
end Go.Proofs
end
section
set_option maxRecDepth 100000
set_option maxHeartbeats 2000000
namespace Go.Proofs
open Go.Lv
theorem amv (r : Log) (hr : r.ok) (n : Int) (hn : 0 ≤ n) (hn2 : n ≤ 1048576) : ∃ z : Int, (z < 0 ∨ 0 ≤ z ∧ z = n - (r.Durable.size : Int) - (r.Pending.size : Int) ∧ r.Durable.size ≤ 1048576 ∧ r.Pending.size ≤ 1048576) ∧ Ctr Tryz.prog 25 [r.v, .int .i64 n] [] (.int .i64 z) [] := by
 obtain ⟨o0, o1, _⟩ := hr
 simp only [agp] at o0 o1
 by_cases c0 : n < (r.Durable.size : Int)
 · refine ⟨-1, .inl (by omega), ?_⟩
   refine Ctr.intro Tryz.mixed Tryz.func25 rfl Tryz.ant ?_
   simp -implicitDefEqProofs -dsimp only [go_sem, Tryz.ntmps25, Tryz.results25]
   (repeat1' (first | simp -implicitDefEqProofs -dsimp only [go_sem, Log.v] | simp -dsimp (disch := omega) only [wrap_i64]))
   refine bc.split (fun h1 => ?_) (fun h1 => ?_)
   · simp -implicitDefEqProofs -dsimp only [go_sem, h1]
     exact aj.au rfl (by rfl)
   · exact absurd h1 (by simp; omega)
 · by_cases c1 : n - (r.Durable.size : Int) < (r.Pending.size : Int)
   · refine ⟨-1, .inl (by omega), ?_⟩
     refine Ctr.intro Tryz.mixed Tryz.func25 rfl Tryz.ant ?_
     simp -implicitDefEqProofs -dsimp only [go_sem, Tryz.ntmps25, Tryz.results25]
     (repeat1' (first | simp -implicitDefEqProofs -dsimp only [go_sem, Log.v] | simp -dsimp (disch := omega) only [wrap_i64]))
     refine bc.split (fun h1 => absurd h1 (by simp; omega)) (fun h1 => ?_)
     (repeat1' (first | simp -implicitDefEqProofs -dsimp only [go_sem, h1] | simp -dsimp (disch := omega) only [wrap_i64]))
     refine bc.split (fun h2 => ?_) (fun h2 => ?_)
     · simp -implicitDefEqProofs -dsimp only [go_sem, h2]
       exact aj.au rfl (by rfl)
     · exact absurd h2 (by simp; omega)
   · refine ⟨n - (r.Durable.size : Int) - (r.Pending.size : Int), .inr ⟨by omega, rfl, by omega, by omega⟩, ?_⟩
     refine Ctr.intro Tryz.mixed Tryz.func25 rfl Tryz.ant ?_
     simp -implicitDefEqProofs -dsimp only [go_sem, Tryz.ntmps25, Tryz.results25]
     (repeat1' (first | simp -implicitDefEqProofs -dsimp only [go_sem, Log.v] | simp -dsimp (disch := omega) only [wrap_i64]))
     refine bc.split (fun h1 => absurd h1 (by simp; omega)) (fun h1 => ?_)
     (repeat1' (first | simp -implicitDefEqProofs -dsimp only [go_sem, h1] | simp -dsimp (disch := omega) only [wrap_i64]))
     refine bc.split (fun h2 => absurd h2 (by simp; omega)) (fun h2 => ?_)
     (repeat1' (first | simp -implicitDefEqProofs -dsimp only [go_sem, h2] | simp -dsimp (disch := omega) only [wrap_i64]))
     exact aj.au rfl (by rfl)
end Go.Proofs
end
section
set_option maxRecDepth 100000
namespace Go.Proofs
open Go.Lv
structure an where
 ab : ab
 Log : Log
def an.cs (r : an) : List V := [.int .i64 r.ab.Now, .sl r.ab.Posts.length 3 (Go.Lv.rows ay.cs r.ab.Posts), .sl r.ab.Shocks.length 5 (Go.Lv.rows ai.cs r.ab.Shocks), .int .i64 r.ab.Next, .int .i64 r.ab.Archived, .str r.Log.Durable, .str r.Log.Pending, .int .i64 r.Log.Count]
def an.v (r : an) : V := .agg [.int .i64 r.ab.Now, .sl r.ab.Posts.length 3 (Go.Lv.rows ay.cs r.ab.Posts), .sl r.ab.Shocks.length 5 (Go.Lv.rows ai.cs r.ab.Shocks), .int .i64 r.ab.Next, .int .i64 r.ab.Archived, .str r.Log.Durable, .str r.Log.Pending, .int .i64 r.Log.Count]
def an.o (r : an) (i0 i1 : Nat) : V := .agg [.int .i64 r.ab.Now, .osl i0 0 r.ab.Posts.length 3, .osl i1 0 r.ab.Shocks.length 5, .int .i64 r.ab.Next, .int .i64 r.ab.Archived, .str r.Log.Durable, .str r.Log.Pending, .int .i64 r.Log.Count]
theorem an.csl (a : an) : a.cs.length = 8 := rfl
def an.ok (r : an) : Prop := r.ab.ok ∧ r.Log.ok
theorem an.le {h : Hp} {r : an} {i0 i1 : Nat} (h0 : h[i0]? = some (some (rows ay.cs r.ab.Posts))) (h1 : h[i1]? = some (some (rows ai.cs r.ab.Shocks))) : LeV (ren (ef h 3) 3 (r.o i0 i1)) r.v := by
 refine .inl ?_
 simp only [an.o, an.v, ren, List.map_cons, List.map_nil, ef, h0, h1, ae, List.drop_zero, ig]
theorem aeo (r : an) (hl0 : r.ab.Posts.length ≤ 1048576) (hl1 : r.ab.Shocks.length ≤ 1048576) : Ctr Tryz.prog 46 [r.v] [] (r.o 0 1) [some (rows ay.cs r.ab.Posts), some (rows ai.cs r.ab.Shocks)] := by
 refine Ctr.intro Tryz.mixed Tryz.func46 rfl Tryz.a2c ?_
 simp -implicitDefEqProofs -dsimp only [go_sem, Tryz.ntmps46, Tryz.results46]
 simp -implicitDefEqProofs -dsimp only [go_sem, an.v]
 (have ct := ai6 r.ab hl0 hl1; (first | refine al.at ct ⟨leA, trivial⟩ ?_ | refine ak.at ct ⟨leA, trivial⟩ ?_); clear ct)
 (repeat ((repeat1' (first | simp -implicitDefEqProofs -dsimp only [go_sem, ab.o, ae] | simp -dsimp (disch := omega) only [wrap_i64])); repeat (with_reducible refine ah ?_)))
 (first | refine al.at (ahf r.Log) ⟨leA, trivial⟩ ?_ | refine ak.at (ahf r.Log) ⟨leA, trivial⟩ ?_)
 (repeat ((repeat1' (first | simp -implicitDefEqProofs -dsimp only [go_sem, Log.v, ae] | simp -dsimp (disch := omega) only [wrap_i64])); repeat (with_reducible refine ah ?_)))
 refine aj.pick [3, 4] (by decide) (fun j hj => by omega) (.inl ?_) ?_
 · rfl
 · simp only [bb, List.map_cons, List.map_nil, bj, List.getElem?_cons_zero, List.getElem?_cons_succ, ae]
theorem ae2 (r : an) (hr : r.ok) (n : Int) (hn : 0 ≤ n) (hn2 : n ≤ 1048576) : ∃ z : Int, (z < 0 ∨ 0 ≤ z ∧ z ≤ n ∧ r.ab.Posts.length ≤ 1048576 ∧ r.ab.Shocks.length ≤ 1048576 ∧ r.Log.Durable.size ≤ 1048576 ∧ r.Log.Pending.size ≤ 1048576) ∧ Ctr Tryz.prog 45 [r.v, .int .i64 n] [] (.int .i64 z) [] := by
 obtain ⟨o0, o1⟩ := hr
 obtain ⟨z0, hz0, c0⟩ := ai7 r.ab o0 n hn hn2
 rcases hz0 with hz0 | hz0
 · refine ⟨-1, .inl (by omega), ?_⟩
   refine Ctr.intro Tryz.mixed Tryz.func45 rfl Tryz.am0 ?_
   simp -implicitDefEqProofs -dsimp only [go_sem, Tryz.ntmps45, Tryz.results45]
   simp -implicitDefEqProofs -dsimp only [go_sem, an.v]
   (first | refine al.at (c0) ⟨leA, leA, trivial⟩ ?_ | refine ak.at (c0) ⟨leA, leA, trivial⟩ ?_)
   simp -implicitDefEqProofs -dsimp only [go_sem]
   refine bc.split (fun hh => ?_) (fun hh => absurd hz0 (by simpa using hh))
   simp -implicitDefEqProofs -dsimp only [go_sem, hh]
   exact aj.au rfl (by rfl)
 obtain ⟨z1, hz1, c1⟩ := amv r.Log o1 z0 hz0.1 (by omega)
 rcases hz1 with hz1 | hz1
 · refine ⟨-1, .inl (by omega), ?_⟩
   refine Ctr.intro Tryz.mixed Tryz.func45 rfl Tryz.am0 ?_
   simp -implicitDefEqProofs -dsimp only [go_sem, Tryz.ntmps45, Tryz.results45]
   simp -implicitDefEqProofs -dsimp only [go_sem, an.v]
   (first | refine al.at (c0) ⟨leA, leA, trivial⟩ ?_ | refine ak.at (c0) ⟨leA, leA, trivial⟩ ?_)
   simp -implicitDefEqProofs -dsimp only [go_sem]
   refine bc.split (fun hh => absurd hh (by simp; omega)) (fun hh => ?_)
   simp -implicitDefEqProofs -dsimp only [go_sem, hh]
   (first | refine al.at (c1) ⟨leA, leA, trivial⟩ ?_ | refine ak.at (c1) ⟨leA, leA, trivial⟩ ?_)
   simp -implicitDefEqProofs -dsimp only [go_sem]
   refine bc.split (fun hh => ?_) (fun hh => absurd hz1 (by simpa using hh))
   simp -implicitDefEqProofs -dsimp only [go_sem, hh]
   exact aj.au rfl (by rfl)
 · refine ⟨z1, .inr ⟨by omega, by omega, by omega, by omega, by omega, by omega⟩, ?_⟩
   refine Ctr.intro Tryz.mixed Tryz.func45 rfl Tryz.am0 ?_
   simp -implicitDefEqProofs -dsimp only [go_sem, Tryz.ntmps45, Tryz.results45]
   simp -implicitDefEqProofs -dsimp only [go_sem, an.v]
   (first | refine al.at (c0) ⟨leA, leA, trivial⟩ ?_ | refine ak.at (c0) ⟨leA, leA, trivial⟩ ?_)
   simp -implicitDefEqProofs -dsimp only [go_sem]
   refine bc.split (fun hh => absurd hh (by simp; omega)) (fun hh => ?_)
   simp -implicitDefEqProofs -dsimp only [go_sem, hh]
   (first | refine al.at (c1) ⟨leA, leA, trivial⟩ ?_ | refine ak.at (c1) ⟨leA, leA, trivial⟩ ?_)
   simp -implicitDefEqProofs -dsimp only [go_sem]
   refine bc.split (fun hh => absurd hh (by simp; omega)) (fun hh => ?_)
   simp -implicitDefEqProofs -dsimp only [go_sem, hh]
   exact aj.au rfl (by rfl)
theorem xb (r : an) (hl0 : r.ab.Posts.length ≤ 281474976710656) (hl1 : r.ab.Shocks.length ≤ 281474976710656) : Ctr Tryz.prog 47 [r.v, r.v] [] (.bool true) [] := by
 refine Ctr.intro Tryz.mixed Tryz.func47 rfl Tryz.a5q ?_
 simp -implicitDefEqProofs -dsimp only [go_sem, Tryz.ntmps47, Tryz.results47]
 simp -implicitDefEqProofs -dsimp only [go_sem, an.v]
 (have ct := ai3 r.ab hl0 hl1; (first | refine al.at ct ⟨leA, leA, trivial⟩ ?_ | refine ak.at ct ⟨leA, leA, trivial⟩ ?_); clear ct)
 simp -implicitDefEqProofs -dsimp only [go_sem]
 (first | refine al.at (agz r.Log) ⟨leA, leA, trivial⟩ ?_ | refine ak.at (agz r.Log) ⟨leA, leA, trivial⟩ ?_)
 simp -implicitDefEqProofs -dsimp only [go_sem]
 exact aj.au rfl (by rfl)
end Go.Proofs
end
section
set_option maxRecDepth 100000
namespace Go.Proofs
open Go.Lv
def aey (x y : Int) : Bool := ed x 0 999 && ed y 0 999
theorem ad9 (n : Int) : Ctr Tryz.prog 62 [.int .i64 n] [] (.bool (ed n 0 1000000)) [] := by
 refine Ctr.intro Tryz.mixed Tryz.func62 rfl Tryz.a2y ?_
 simp -implicitDefEqProofs -dsimp only [go_sem, Tryz.ntmps62, Tryz.results62]
 repeat' (first | (refine aj.au ?_ (by rfl); first | rfl | (simp [aey, *]; done)) | ((first | refine al.at (jt _ _ _) ⟨leA, leA, leA, trivial⟩ ?_ | refine ak.at (jt _ _ _) ⟨leA, leA, leA, trivial⟩ ?_); simp -implicitDefEqProofs -dsimp only [go_sem, *]) | (refine ax.bq (fun _ => ?_) (fun _ => ?_) <;> simp -implicitDefEqProofs -dsimp only [go_sem, *]) | (refine ax.ch (fun _ => ?_) (fun _ => ?_) <;> simp -implicitDefEqProofs -dsimp only [go_sem, *]) | (refine bc.split (fun _ => ?_) (fun _ => ?_) <;> simp -implicitDefEqProofs -dsimp only [go_sem, *]))
theorem aeh (n : Int) : Ctr Tryz.prog 79 [.int .i64 n] [] (.bool (ed n 0 1000000)) [] := by
 refine Ctr.intro Tryz.mixed Tryz.func79 rfl Tryz.a4i ?_
 simp -implicitDefEqProofs -dsimp only [go_sem, Tryz.ntmps79, Tryz.results79]
 repeat' (first | (refine aj.au ?_ (by rfl); first | rfl | (simp [aey, *]; done)) | ((first | refine al.at (fa _ _ _) ⟨leA, leA, leA, trivial⟩ ?_ | refine ak.at (fa _ _ _) ⟨leA, leA, leA, trivial⟩ ?_); simp -implicitDefEqProofs -dsimp only [go_sem, *]) | (refine ax.bq (fun _ => ?_) (fun _ => ?_) <;> simp -implicitDefEqProofs -dsimp only [go_sem, *]) | (refine ax.ch (fun _ => ?_) (fun _ => ?_) <;> simp -implicitDefEqProofs -dsimp only [go_sem, *]) | (refine bc.split (fun _ => ?_) (fun _ => ?_) <;> simp -implicitDefEqProofs -dsimp only [go_sem, *]))
theorem tu (n : Int) : Ctr Tryz.prog 164 [.int .i64 n] [] (.bool (ed n 1 99)) [] := by
 refine Ctr.intro Tryz.mixed Tryz.func164 rfl Tryz.awt ?_
 simp -implicitDefEqProofs -dsimp only [go_sem, Tryz.ntmps164, Tryz.results164]
 repeat' (first | (refine aj.au ?_ (by rfl); first | rfl | (simp [aey, *]; done)) | ((first | refine al.at (jt _ _ _) ⟨leA, leA, leA, trivial⟩ ?_ | refine ak.at (jt _ _ _) ⟨leA, leA, leA, trivial⟩ ?_); simp -implicitDefEqProofs -dsimp only [go_sem, *]) | (refine ax.bq (fun _ => ?_) (fun _ => ?_) <;> simp -implicitDefEqProofs -dsimp only [go_sem, *]) | (refine ax.ch (fun _ => ?_) (fun _ => ?_) <;> simp -implicitDefEqProofs -dsimp only [go_sem, *]) | (refine bc.split (fun _ => ?_) (fun _ => ?_) <;> simp -implicitDefEqProofs -dsimp only [go_sem, *]))
theorem l5 (n : Int) : Ctr Tryz.prog 166 [.int .i64 n] [] (.bool (ed n (-20) 95)) [] := by
 refine Ctr.intro Tryz.mixed Tryz.func166 rfl Tryz.axn ?_
 simp -implicitDefEqProofs -dsimp only [go_sem, Tryz.ntmps166, Tryz.results166]
 repeat' (first | (refine aj.au ?_ (by rfl); first | rfl | (simp [aey, *]; done)) | ((first | refine al.at (jt _ _ _) ⟨leA, leA, leA, trivial⟩ ?_ | refine ak.at (jt _ _ _) ⟨leA, leA, leA, trivial⟩ ?_); simp -implicitDefEqProofs -dsimp only [go_sem, *]) | (refine ax.bq (fun _ => ?_) (fun _ => ?_) <;> simp -implicitDefEqProofs -dsimp only [go_sem, *]) | (refine ax.ch (fun _ => ?_) (fun _ => ?_) <;> simp -implicitDefEqProofs -dsimp only [go_sem, *]) | (refine bc.split (fun _ => ?_) (fun _ => ?_) <;> simp -implicitDefEqProofs -dsimp only [go_sem, *]))
end Go.Proofs
end
section
set_option maxRecDepth 100000
namespace Go.Proofs
open Go.Lv
def qm (now : Int) (p : ay) : Bool := ed p.Station 1 99 && ed p.Since 0 now
def j9 (next now : Int) (x : ai) : Bool := ed x.Number 1 (next - 1) && ed x.State 0 3 && ed x.Seen 0 8 && ed x.Size (-20) 95 && (x.State != 0 || x.Size == 0) && ed x.Tick 0 now
def j1 (w : ab) : Bool := ed w.Now 0 1000000 && ed w.Next 1 999 && ed w.Archived 0 999
def wB (w : ab) : Bool := j1 w && ib (qm w.Now) ay.Station 8 w.Posts && ib (j9 w.Next w.Now) ai.Number 6 w.Shocks
theorem u3 {w : ab} : j1 w = true ↔ (0 ≤ w.Now ∧ w.Now ≤ 1000000) ∧ (1 ≤ w.Next ∧ w.Next ≤ 999) ∧ 0 ≤ w.Archived ∧ w.Archived ≤ 999 := by simp [j1, ed, and_assoc]
theorem o7 {now : Int} {p : ay} : qm now p = true ↔ (1 ≤ p.Station ∧ p.Station ≤ 99) ∧ 0 ≤ p.Since ∧ p.Since ≤ now := by simp [qm, ed, and_assoc]
theorem gj {next now : Int} {x : ai} : j9 next now x = true ↔ (1 ≤ x.Number ∧ x.Number ≤ next - 1) ∧ (0 ≤ x.State ∧ x.State ≤ 3) ∧ (0 ≤ x.Seen ∧ x.Seen ≤ 8) ∧ (-20 ≤ x.Size ∧ x.Size ≤ 95) ∧ (x.State ≠ 0 ∨ x.Size = 0) ∧ 0 ≤ x.Tick ∧ x.Tick ≤ now := by
 simp [j9, ed, and_assoc]
structure apz (w : ab) : Prop where
 now : 0 ≤ w.Now ∧ w.Now ≤ 1000000
 next : 1 ≤ w.Next ∧ w.Next ≤ 999
 arch : 0 ≤ w.Archived ∧ w.Archived ≤ 999
 posts : ∀ p ∈ w.Posts, qm w.Now p = true
 plen : w.Posts.length ≤ 8
 shocks : ∀ x ∈ w.Shocks, j9 w.Next w.Now x = true
 slen : w.Shocks.length ≤ 6
 pasc : (w.Posts.map ay.Station).Pairwise (· < ·)
 sasc : (w.Shocks.map ai.Number).Pairwise (· < ·)
theorem dt {w : ab} (h : wB w = true) : apz w := by
 simp only [wB, Bool.and_eq_true] at h
 obtain ⟨⟨h1, h2⟩, h3⟩ := h
 obtain ⟨a, b, c⟩ := u3.1 h1
 obtain ⟨d, e⟩ := zu h2
 obtain ⟨f, g⟩ := zu h3
 exact ⟨a, b, c, d, e, f, g, abg h2, abg h3⟩
theorem aej (w : ab) (p : ay) : Ctr Tryz.prog 163 [p.v, .pt w.cs] [] (.bool (qm w.Now p)) [] := by
 refine Ctr.intro Tryz.mixed Tryz.func163 rfl Tryz.aup ?_
 simp -implicitDefEqProofs -dsimp only [go_sem, Tryz.ntmps163, Tryz.results163]
 simp -implicitDefEqProofs -dsimp only [go_sem, ay.v, ab.cs]
 repeat' (first | (refine aj.au ?_ (by rfl); first | rfl | (simp [qm, *]; done)) | ((first | refine al.at (jt _ _ _) ⟨leA, leA, leA, trivial⟩ ?_ | refine ak.at (jt _ _ _) ⟨leA, leA, leA, trivial⟩ ?_); simp -implicitDefEqProofs -dsimp only [go_sem, *]) | ((first | refine al.at (tu _) ⟨leA, trivial⟩ ?_ | refine ak.at (tu _) ⟨leA, trivial⟩ ?_); simp -implicitDefEqProofs -dsimp only [go_sem, *]) | (refine ax.bq (fun _ => ?_) (fun _ => ?_) <;> simp -implicitDefEqProofs -dsimp only [go_sem, *]) | (refine ax.ch (fun _ => ?_) (fun _ => ?_) <;> simp -implicitDefEqProofs -dsimp only [go_sem, *]) | (refine bc.split (fun _ => ?_) (fun _ => ?_) <;> simp -implicitDefEqProofs -dsimp only [go_sem, *]))
theorem aa2 (w : ab) (hw : 1 ≤ w.Next ∧ w.Next ≤ 999) (x : ai) : Ctr Tryz.prog 165 [x.v, .pt w.cs] [] (.bool (j9 w.Next w.Now x)) [] := by
 refine Ctr.intro Tryz.mixed Tryz.func165 rfl Tryz.au4 ?_
 simp -implicitDefEqProofs -dsimp only [go_sem, Tryz.ntmps165, Tryz.results165]
 simp -implicitDefEqProofs -dsimp only [go_sem, ai.v, ab.cs]
 have hw1 : IntKind.i64.wrap (w.Next - 1) = w.Next - 1 := wrap_i64 (by omega) (by omega)
 repeat' (first | (refine aj.au ?_ (by rfl); first | rfl | (simp [j9, *]; done)) | ((first | refine al.at (jt _ _ _) ⟨leA, leA, leA, trivial⟩ ?_ | refine ak.at (jt _ _ _) ⟨leA, leA, leA, trivial⟩ ?_); simp -implicitDefEqProofs -dsimp only [go_sem, *]) | ((first | refine al.at (l5 _) ⟨leA, trivial⟩ ?_ | refine ak.at (l5 _) ⟨leA, trivial⟩ ?_); simp -implicitDefEqProofs -dsimp only [go_sem, *]) | (refine ax.bq (fun _ => ?_) (fun _ => ?_) <;> simp -implicitDefEqProofs -dsimp only [go_sem, *]) | (refine ax.ch (fun _ => ?_) (fun _ => ?_) <;> simp -implicitDefEqProofs -dsimp only [go_sem, *]))
theorem wx (p : ay) : Ctr Tryz.prog 168 [p.v] [] (.int .i64 p.Station) [] := by
 refine Ctr.intro Tryz.mixed Tryz.func168 rfl Tryz.axg ?_
 simp -implicitDefEqProofs -dsimp only [go_sem, Tryz.ntmps168, Tryz.results168]
 simp -implicitDefEqProofs -dsimp only [go_sem, ay.v]
 exact aj.au rfl (by rfl)
theorem zt (x : ai) : Ctr Tryz.prog 170 [x.v] [] (.int .i64 x.Number) [] := by
 refine Ctr.intro Tryz.mixed Tryz.func170 rfl Tryz.awe ?_
 simp -implicitDefEqProofs -dsimp only [go_sem, Tryz.ntmps170, Tryz.results170]
 simp -implicitDefEqProofs -dsimp only [go_sem, ai.v]
 exact aj.au rfl (by rfl)
theorem dj (w : ab) (hp : w.Posts.length ≤ 281474976710656) (hs : w.Shocks.length ≤ 281474976710656) : Ctr Tryz.prog 102 [w.v] [] (.bool (wB w)) [] := by
 refine Ctr.intro Tryz.mixed Tryz.func102 rfl Tryz.axu ?_
 simp -implicitDefEqProofs -dsimp only [go_sem, Tryz.ntmps102, Tryz.results102]
 simp -implicitDefEqProofs -dsimp only [go_sem, ab.v]
 have fin : ∀ b, b = wB w → aj 0 (.bool b) [some w.cs] (.bool (wB w)) [] := fun b h => aj.au (by rw [h]) (by rfl)
 (first | refine al.at (ad9 _) ⟨leA, trivial⟩ ?_ | refine ak.at (ad9 _) ⟨leA, trivial⟩ ?_)
 simp -implicitDefEqProofs -dsimp only [go_sem]
 refine ax.bq (fun h1 => ?_) (fun h1 => ?_) <;> simp -implicitDefEqProofs -dsimp only [go_sem, h1]
 rotate_left
 · exact aj.au (by simp [wB, j1, h1]) (by rfl)
 (first | refine al.at (jt _ _ _) ⟨leA, leA, leA, trivial⟩ ?_ | refine ak.at (jt _ _ _) ⟨leA, leA, leA, trivial⟩ ?_)
 simp -implicitDefEqProofs -dsimp only [go_sem, h1]
 refine ax.bq (fun h2 => ?_) (fun h2 => ?_) <;> simp -implicitDefEqProofs -dsimp only [go_sem, h1, h2]
 rotate_left
 · exact aj.au (by simp [wB, j1, h1, h2]) (by rfl)
 (first | refine al.at (jt _ _ _) ⟨leA, leA, leA, trivial⟩ ?_ | refine ak.at (jt _ _ _) ⟨leA, leA, leA, trivial⟩ ?_)
 simp -implicitDefEqProofs -dsimp only [go_sem, h1, h2]
 refine ax.bq (fun h3 => ?_) (fun h3 => ?_) <;> simp -implicitDefEqProofs -dsimp only [go_sem, h1, h2, h3]
 rotate_left
 · exact aj.au (by simp [wB, j1, h1, h2, h3]) (by rfl)
 have hc : j1 w = true := by simp [j1, h1, h2, h3]
 have hw := (u3.1 hc).2.1
 (first | refine al.at (rq w.Posts (qm w.Now) ay.Station 8 _ _ [.pt w.cs] [] (fun d => by cases d <;> rfl) (fun _ => rfl) (fun x => aej w x) wx 8 rfl hp) ⟨leA, leA, leA, leA, trivial⟩ ?_ | refine ak.at (rq w.Posts (qm w.Now) ay.Station 8 _ _ [.pt w.cs] [] (fun d => by cases d <;> rfl) (fun _ => rfl) (fun x => aej w x) wx 8 rfl hp) ⟨leA, leA, leA, leA, trivial⟩ ?_)
 simp -implicitDefEqProofs -dsimp only [go_sem, h1, h2, h3]
 refine ax.bq (fun h4 => ?_) (fun h4 => ?_) <;> simp -implicitDefEqProofs -dsimp only [go_sem, h1, h2, h3, h4]
 rotate_left
 · exact aj.au (by simp [wB, hc, h4]) (by rfl)
 (first | refine al.at (qs w.Shocks (j9 w.Next w.Now) ai.Number 6 _ _ [.pt w.cs] [] (fun d => by cases d <;> rfl) (fun _ => rfl) (fun x => aa2 w hw x) zt 6 rfl hs) ⟨leA, leA, leA, leA, trivial⟩ ?_ | refine ak.at (qs w.Shocks (j9 w.Next w.Now) ai.Number 6 _ _ [.pt w.cs] [] (fun d => by cases d <;> rfl) (fun _ => rfl) (fun x => aa2 w hw x) zt 6 rfl hs) ⟨leA, leA, leA, leA, trivial⟩ ?_)
 simp -implicitDefEqProofs -dsimp only [go_sem, h1, h2, h3, h4]
 exact aj.au (by simp [wB, hc, h4]) (by rfl)
theorem aci {α : Type} {p : α → Bool} {k : α → Int} {m : Nat} {L : List α} (h : (List.range L.length).all (fj p k L) = true) (hm : L.length ≤ m) : ib p k m L = true := by
 simp [ib, h, hm]
theorem zx (w : ab) (hw : 1 ≤ w.Next ∧ w.Next ≤ 999) (x : ai) : Ctr Tryz.prog 210 [w.v, x.v] [] (.bool (j9 w.Next w.Now x)) [] := by
 refine Ctr.intro Tryz.mixed Tryz.func210 rfl Tryz.aw8 ?_
 simp -implicitDefEqProofs -dsimp only [go_sem, Tryz.ntmps210, Tryz.results210]
 simp -implicitDefEqProofs -dsimp only [go_sem, ai.v, ab.v]
 have hw1 : IntKind.i64.wrap (w.Next - 1) = w.Next - 1 := wrap_i64 (by omega) (by omega)
 repeat' (first | (refine aj.au ?_ (by rfl); first | rfl | (simp [j9, *]; done)) | ((first | refine al.at (fa _ _ _) ⟨leA, leA, leA, trivial⟩ ?_ | refine ak.at (fa _ _ _) ⟨leA, leA, leA, trivial⟩ ?_); simp -implicitDefEqProofs -dsimp only [go_sem, *]) | (refine ax.bq (fun _ => ?_) (fun _ => ?_) <;> simp -implicitDefEqProofs -dsimp only [go_sem, *]) | (refine ax.ch (fun _ => ?_) (fun _ => ?_) <;> simp -implicitDefEqProofs -dsimp only [go_sem, *]))
theorem du (w : ab) (hp : w.Posts.length ≤ 281474976710656) (hs : w.Shocks.length ≤ 281474976710656) : Ctr Tryz.prog 153 [w.v] [] (.bool (wB w)) [] := by
 refine Ctr.intro Tryz.mixed Tryz.func153 rfl Tryz.auk ?_
 simp -implicitDefEqProofs -dsimp only [go_sem, Tryz.ntmps153, Tryz.results153]
 simp -implicitDefEqProofs -dsimp only [go_sem, ab.v]
 (first | refine al.at (aeh _) ⟨leA, trivial⟩ ?_ | refine ak.at (aeh _) ⟨leA, trivial⟩ ?_)
 simp -implicitDefEqProofs -dsimp only [go_sem]
 refine ax.ch (fun h1 => ?_) (fun h1 => ?_) <;> simp -implicitDefEqProofs -dsimp only [go_sem, h1]
 rotate_left
 · exact aj.au (by simp at h1; simp [wB, j1, h1]) (by rfl)
 refine ax.ch (fun h2 => ?_) (fun h2 => ?_) <;> simp -implicitDefEqProofs -dsimp only [go_sem, h2]
 rotate_left
 · have : ¬ w.Posts.length ≤ 8 := by simp at h2; omega
   exact aj.au (by simp [wB, ib, this]) (by rfl)
 refine ax.ch (fun h3 => ?_) (fun h3 => ?_) <;> simp -implicitDefEqProofs -dsimp only [go_sem, h3]
 rotate_left
 · have : ¬ w.Shocks.length ≤ 6 := by simp at h3; omega
   exact aj.au (by simp [wB, ib, this]) (by rfl)
 (first | refine al.at (fa _ _ _) ⟨leA, leA, leA, trivial⟩ ?_ | refine ak.at (fa _ _ _) ⟨leA, leA, leA, trivial⟩ ?_)
 simp -implicitDefEqProofs -dsimp only [go_sem]
 refine ax.ch (fun h4 => ?_) (fun h4 => ?_) <;> simp -implicitDefEqProofs -dsimp only [go_sem, h4]
 rotate_left
 · exact aj.au (by simp at h4; simp [wB, j1, h4]) (by rfl)
 (first | refine al.at (fa _ _ _) ⟨leA, leA, leA, trivial⟩ ?_ | refine ak.at (fa _ _ _) ⟨leA, leA, leA, trivial⟩ ?_)
 simp -implicitDefEqProofs -dsimp only [go_sem]
 refine bc.split (fun h5 => ?_) (fun h5 => ?_) <;> simp -implicitDefEqProofs -dsimp only [go_sem, h5]
 · exact aj.au (by simp at h5; simp [wB, j1, h5]) (by rfl)
 have hc : j1 w = true := by simp at h1 h4 h5; simp [j1, h1, h4, h5]
 have hcn := u3.1 hc
 have hpl : w.Posts.length ≤ 8 := by simp at h2; omega
 have hsl : w.Shocks.length ≤ 6 := by simp at h3; omega
 clear h1 h2 h3 h4 h5
 refine de.intro (fun i : Nat => i ≤ (w.Posts).length ∧ (List.range i).all (fj (qm w.Now) ay.Station (w.Posts)) = true) (fun i => ⟨[.undef, .ptr 0 0, .undef, .int .i64 i, .undef, .undef, .undef, .undef, .undef, .undef, .undef, .undef, .undef, .undef, .undef, .undef, .undef, .undef, .undef, .undef, .undef, .undef, .undef, .undef, .undef, .undef, .undef, .undef, .undef, .undef, .undef, .undef, .undef, .undef, .undef, .undef, .undef, .undef, .undef, .undef, .undef, .undef, .undef, .undef, .undef, .undef, .undef, .undef, .undef, .undef, .undef, .undef, .undef, .undef, .undef, .undef, .undef, .undef, .undef, .undef, .undef, .undef, .undef, .undef, .undef, .undef, .undef, .undef, .undef, .undef, .undef, .undef, .undef, .undef, .undef, .undef, .undef, .undef, .undef, .undef, .undef, .undef, .undef, .undef, .undef, .undef, .undef, .undef, .undef, .undef, .undef, .undef, .undef, .undef, .undef, .undef, .undef, .undef, .undef, .undef, .undef, .undef, .undef, .undef, .undef, .undef, .undef, .undef, .undef], [some w.cs], 0⟩) (fun i => (w.Posts).length - i) 0 ⟨Nat.zero_le _, rfl⟩ ?_ (fun i hi => ?_)
 · refine bt.cut (1) (by simp) (by simp) ?_ ?_
   · simp [LeC, LeV, ren, br]
   · first | rfl | simp [cd, dd, ren, ae, ab.cs]
 simp -implicitDefEqProofs -dsimp only [go_sem, ab.cs]
 refine bc.split (fun h1 => ?_) (fun h1 => ?_)
 rotate_left
 · simp -implicitDefEqProofs -dsimp only [go_sem, h1, ab.cs]
   have hi' : i = (w.Posts).length := by simp at h1; omega
   subst hi'
   have hpq := aci hi.2 hpl
   refine de.intro (fun i : Nat => i ≤ (w.Shocks).length ∧ (List.range i).all (fj (j9 w.Next w.Now) ai.Number (w.Shocks)) = true) (fun i => ⟨[.undef, .ptr 0 0, .undef, .undef, .undef, .int .i64 i, .undef, .undef, .undef, .undef, .undef, .undef, .undef, .undef, .undef, .undef, .undef, .undef, .undef, .undef, .undef, .undef, .undef, .undef, .undef, .undef, .undef, .undef, .undef, .undef, .undef, .undef, .undef, .undef, .undef, .undef, .undef, .undef, .undef, .undef, .undef, .undef, .undef, .undef, .undef, .undef, .undef, .undef, .undef, .undef, .undef, .undef, .undef, .undef, .undef, .undef, .undef, .undef, .undef, .undef, .undef, .undef, .undef, .undef, .undef, .undef, .undef, .undef, .undef, .undef, .undef, .undef, .undef, .undef, .undef, .undef, .undef, .undef, .undef, .undef, .undef, .undef, .undef, .undef, .undef, .undef, .undef, .undef, .undef, .undef, .undef, .undef, .undef, .undef, .undef, .undef, .undef, .undef, .undef, .undef, .undef, .undef, .undef, .undef, .undef, .undef, .undef, .undef, .undef], [some w.cs], 0⟩) (fun i => (w.Shocks).length - i) 0 ⟨Nat.zero_le _, rfl⟩ ?_ (fun i hi => ?_)
   · refine bt.cut (1) (by simp) (by simp) ?_ ?_
     · simp [LeC, LeV, ren, br]
     · first | rfl | simp [cd, dd, ren, ae, ab.cs]
   simp -implicitDefEqProofs -dsimp only [go_sem, ab.cs]
   refine bc.split (fun h1 => ?_) (fun h1 => ?_)
   rotate_left
   · simp -implicitDefEqProofs -dsimp only [go_sem, h1, ab.cs]
     have hi' : i = (w.Shocks).length := by simp at h1; omega
     subst hi'
     exact aj.au (by rw [wB, hc, hpq, aci hi.2 hsl]; rfl) (by rfl)
   · simp -implicitDefEqProofs -dsimp only [go_sem, h1, ab.cs]
     have hi' : i < (w.Shocks).length := by simpa using h1
     have h5 := ai.csl (w.Shocks)[i]
     have hr := bu ai.csl hi'
     have hbad : fj (j9 w.Next w.Now) ai.Number (w.Shocks) i = false → _ := fun hq => (show V.bool false = V.bool (wB w) by rw [wB, iy hi' hq]; simp)
     cases i with
     | zero =>
      have hz : ((0 : Nat) : Int) = 0 := rfl
      have hr0 := hr
      rw [Nat.zero_mul, List.drop_zero] at hr0
      (repeat ((repeat1' (first | simp -implicitDefEqProofs -dsimp only [go_sem, hr, hr0, hz, ai.cs, ab.cs] | simp -dsimp (disch := omega) only [wrap_i64])); repeat (with_reducible refine ah ?_)))
      repeat' (first | (refine aj.au (hbad ?_) (by rfl); (rw [jy hi']; (try simp only [Bool.not_eq_false', Bool.not_eq_true', decide_eq_false_iff_not, decide_eq_true_eq] at *); simp [*]; try omega; done)) | ((have ct := zx w hcn.2.1 (w.Shocks[0]); (first | refine al.at ct ⟨leA, leA, trivial⟩ ?_ | refine ak.at ct ⟨leA, leA, trivial⟩ ?_); clear ct); simp -implicitDefEqProofs -dsimp only [go_sem, *, ab.cs]) | (refine ax.bq (fun _ => ?_) (fun _ => ?_) <;> simp -implicitDefEqProofs -dsimp only [go_sem, *, ab.cs]) | (refine ax.ch (fun _ => ?_) (fun _ => ?_) <;> simp -implicitDefEqProofs -dsimp only [go_sem, *, ab.cs]) | (refine bc.split (fun _ => ?_) (fun _ => ?_) <;> simp -implicitDefEqProofs -dsimp only [go_sem, *, ab.cs]) | (with_reducible refine And.intro (by first | omega | (show bo _ = true; kernel_rfl)) ?_; (repeat ((repeat1' (first | simp -implicitDefEqProofs -dsimp only [go_sem, *, ai.cs, ab.cs] | simp -dsimp (disch := omega) only [wrap_i64])); repeat (with_reducible refine ah ?_)))) | (refine ⟨0 + 1, ⟨hi', fg hi.2 (by rw [jy hi']; (try simp only [Bool.not_eq_false', Bool.not_eq_true', decide_eq_false_iff_not, decide_eq_true_eq] at *); simp [*]; try omega)⟩, ?_, by omega⟩; refine bt.cut (1) (by simp) (by simp) ?_ ?_; (· (try (repeat1' (first | simp -implicitDefEqProofs -dsimp only [go_sem] | simp -dsimp (disch := omega) only [wrap_i64])); simp [LeC, LeV, ren, br]; try omega)); (· (first | rfl | simp [cd, dd, ren, ae, ab.cs]))))
     | succ j =>
      have hj : j < (w.Shocks).length := by omega
      have hw1 : IntKind.i64.wrap (((j + 1 : Nat) : Int) - 1) = (j : Int) := by rw [wrap_i64 (by omega) (by omega)]; omega
      have hg : decide ((0 : Int) < ((j + 1 : Nat) : Int)) = true := decide_eq_true (by omega)
      have hr2 := bu ai.csl hj
      (repeat ((repeat1' (first | simp -implicitDefEqProofs -dsimp only [go_sem, hr, hg, hw1, hr2, ai.cs, ab.cs] | simp -dsimp (disch := omega) only [wrap_i64])); repeat (with_reducible refine ah ?_)))
      repeat' (first | (refine aj.au (hbad ?_) (by rfl); (rw [fu hi']; (try simp only [Bool.not_eq_false', Bool.not_eq_true', decide_eq_false_iff_not, decide_eq_true_eq] at *); simp [*]; try omega; done)) | ((have ct := zx w hcn.2.1 (w.Shocks[j + 1]); (first | refine al.at ct ⟨leA, leA, trivial⟩ ?_ | refine ak.at ct ⟨leA, leA, trivial⟩ ?_); clear ct); simp -implicitDefEqProofs -dsimp only [go_sem, *, ab.cs]) | (refine ax.bq (fun _ => ?_) (fun _ => ?_) <;> simp -implicitDefEqProofs -dsimp only [go_sem, *, ab.cs]) | (refine ax.ch (fun _ => ?_) (fun _ => ?_) <;> simp -implicitDefEqProofs -dsimp only [go_sem, *, ab.cs]) | (refine bc.split (fun _ => ?_) (fun _ => ?_) <;> simp -implicitDefEqProofs -dsimp only [go_sem, *, ab.cs]) | (with_reducible refine And.intro (by first | omega | (show bo _ = true; kernel_rfl)) ?_; (repeat ((repeat1' (first | simp -implicitDefEqProofs -dsimp only [go_sem, *, ai.cs, ab.cs] | simp -dsimp (disch := omega) only [wrap_i64])); repeat (with_reducible refine ah ?_)))) | (refine ⟨j + 1 + 1, ⟨hi', fg hi.2 (by rw [fu hi']; (try simp only [Bool.not_eq_false', Bool.not_eq_true', decide_eq_false_iff_not, decide_eq_true_eq] at *); simp [*]; try omega)⟩, ?_, by omega⟩; refine bt.cut (1) (by simp) (by simp) ?_ ?_; (· (try (repeat1' (first | simp -implicitDefEqProofs -dsimp only [go_sem] | simp -dsimp (disch := omega) only [wrap_i64])); simp [LeC, LeV, ren, br]; try omega)); (· (first | rfl | simp [cd, dd, ren, ae, ab.cs]))))
 · simp -implicitDefEqProofs -dsimp only [go_sem, h1, ab.cs]
   have hi' : i < (w.Posts).length := by simpa using h1
   have h5 := ay.csl (w.Posts)[i]
   have hr := bu ay.csl hi'
   have hbad : fj (qm w.Now) ay.Station (w.Posts) i = false → _ := fun hq => (show V.bool false = V.bool (wB w) by rw [wB, iy hi' hq]; simp)
   cases i with
   | zero =>
    have hz : ((0 : Nat) : Int) = 0 := rfl
    have hr0 := hr
    rw [Nat.zero_mul, List.drop_zero] at hr0
    (repeat ((repeat1' (first | simp -implicitDefEqProofs -dsimp only [go_sem, hr, hr0, hz, ay.cs, ab.cs] | simp -dsimp (disch := omega) only [wrap_i64])); repeat (with_reducible refine ah ?_)))
    repeat' (first | (refine aj.au (hbad ?_) (by rfl); (rw [jy hi']; (try simp only [Bool.not_eq_false', Bool.not_eq_true', decide_eq_false_iff_not, decide_eq_true_eq] at *); simp [qm, *]; try omega; done)) | ((first | refine al.at (fa _ _ _) ⟨leA, leA, leA, trivial⟩ ?_ | refine ak.at (fa _ _ _) ⟨leA, leA, leA, trivial⟩ ?_); simp -implicitDefEqProofs -dsimp only [go_sem, *, ab.cs]) | (refine ax.bq (fun _ => ?_) (fun _ => ?_) <;> simp -implicitDefEqProofs -dsimp only [go_sem, *, ab.cs]) | (refine ax.ch (fun _ => ?_) (fun _ => ?_) <;> simp -implicitDefEqProofs -dsimp only [go_sem, *, ab.cs]) | (refine bc.split (fun _ => ?_) (fun _ => ?_) <;> simp -implicitDefEqProofs -dsimp only [go_sem, *, ab.cs]) | (with_reducible refine And.intro (by first | omega | (show bo _ = true; kernel_rfl)) ?_; (repeat ((repeat1' (first | simp -implicitDefEqProofs -dsimp only [go_sem, *, ay.cs, ab.cs] | simp -dsimp (disch := omega) only [wrap_i64])); repeat (with_reducible refine ah ?_)))) | (refine ⟨0 + 1, ⟨hi', fg hi.2 (by rw [jy hi']; (try simp only [Bool.not_eq_false', Bool.not_eq_true', decide_eq_false_iff_not, decide_eq_true_eq] at *); simp [qm, *]; try omega)⟩, ?_, by omega⟩; refine bt.cut (1) (by simp) (by simp) ?_ ?_; (· (try (repeat1' (first | simp -implicitDefEqProofs -dsimp only [go_sem] | simp -dsimp (disch := omega) only [wrap_i64])); simp [LeC, LeV, ren, br]; try omega)); (· (first | rfl | simp [cd, dd, ren, ae, ab.cs]))))
   | succ j =>
    have hj : j < (w.Posts).length := by omega
    have hw1 : IntKind.i64.wrap (((j + 1 : Nat) : Int) - 1) = (j : Int) := by rw [wrap_i64 (by omega) (by omega)]; omega
    have hg : decide ((0 : Int) < ((j + 1 : Nat) : Int)) = true := decide_eq_true (by omega)
    have hr2 := bu ay.csl hj
    (repeat ((repeat1' (first | simp -implicitDefEqProofs -dsimp only [go_sem, hr, hg, hw1, hr2, ay.cs, ab.cs] | simp -dsimp (disch := omega) only [wrap_i64])); repeat (with_reducible refine ah ?_)))
    repeat' (first | (refine aj.au (hbad ?_) (by rfl); (rw [fu hi']; (try simp only [Bool.not_eq_false', Bool.not_eq_true', decide_eq_false_iff_not, decide_eq_true_eq] at *); simp [qm, *]; try omega; done)) | ((first | refine al.at (fa _ _ _) ⟨leA, leA, leA, trivial⟩ ?_ | refine ak.at (fa _ _ _) ⟨leA, leA, leA, trivial⟩ ?_); simp -implicitDefEqProofs -dsimp only [go_sem, *, ab.cs]) | (refine ax.bq (fun _ => ?_) (fun _ => ?_) <;> simp -implicitDefEqProofs -dsimp only [go_sem, *, ab.cs]) | (refine ax.ch (fun _ => ?_) (fun _ => ?_) <;> simp -implicitDefEqProofs -dsimp only [go_sem, *, ab.cs]) | (refine bc.split (fun _ => ?_) (fun _ => ?_) <;> simp -implicitDefEqProofs -dsimp only [go_sem, *, ab.cs]) | (with_reducible refine And.intro (by first | omega | (show bo _ = true; kernel_rfl)) ?_; (repeat ((repeat1' (first | simp -implicitDefEqProofs -dsimp only [go_sem, *, ay.cs, ab.cs] | simp -dsimp (disch := omega) only [wrap_i64])); repeat (with_reducible refine ah ?_)))) | (refine ⟨j + 1 + 1, ⟨hi', fg hi.2 (by rw [fu hi']; (try simp only [Bool.not_eq_false', Bool.not_eq_true', decide_eq_false_iff_not, decide_eq_true_eq] at *); simp [qm, *]; try omega)⟩, ?_, by omega⟩; refine bt.cut (1) (by simp) (by simp) ?_ ?_; (· (try (repeat1' (first | simp -implicitDefEqProofs -dsimp only [go_sem] | simp -dsimp (disch := omega) only [wrap_i64])); simp [LeC, LeV, ren, br]; try omega)); (· (first | rfl | simp [cd, dd, ren, ae, ab.cs]))))
end Go.Proofs
end
section
namespace Go.Lv
def iw {α : Type} (p : α → Bool) (L : List α) : Int := match L.findIdx? p with
 | some i => i
 | none => -1
theorem sq {α : Type} {p : α → Bool} {L : List α} {i : Nat} (h : i < L.length) (h0 : (L.take i).any p = false) (h1 : p L[i] = true) : iw p L = i := by
 have : L.findIdx? p = some i := by
  rw [List.findIdx?_eq_some_iff_getElem]
  refine ⟨h, h1, fun j hj => ?_⟩
  have := List.any_eq_false.1 h0 L[j] (by rw [List.mem_take_iff_getElem]; exact ⟨j, by omega, rfl⟩)
  simpa using this
 simp [iw, this]
theorem vf {α : Type} {p : α → Bool} {L : List α} (h : L.any p = false) : iw p L = -1 := by
 have : L.findIdx? p = none := by
  rw [List.findIdx?_eq_none_iff]
  intro x hx
  have := List.any_eq_false.1 h x hx
  simpa using this
 simp [iw, this]
end Go.Lv
end
section
set_option maxRecDepth 100000
namespace Go.Proofs
open Go.Lv
theorem r7 (L : List ay) (p : ay → Bool) (fv : Nat) (vc : List V) (hvc : ∀ d, vc.all (cb d) = true) (hv : ∀ x, Ctr Tryz.prog fv (ay.v x :: vc) [] (.bool (p x)) []) (hl : L.length ≤ 281474976710656) :
 Ctr Tryz.prog 282 [ay.sl L, .fn (.func fv) [] vc] [] (.int .i64 (iw p L)) [] := by
 refine Ctr.intro Tryz.mixed Tryz.func282 rfl Tryz.ayr ?_
 simp -implicitDefEqProofs -dsimp only [go_sem, Tryz.ntmps282, Tryz.results282]
 have hvc2 : ∀ f d, vc.map (ren f d) = vc := fun f d => oe f (hvc d)
 refine de.intro (fun i : Nat => i ≤ L.length ∧ (L.take i).any p = false) (fun i => ⟨[ay.sl L, .fn (.func fv) [] vc, .undef, .undef, .undef, .undef, .undef, .int .i64 L.length, .int .i64 i, .undef, .undef, .undef, .undef, .undef, .undef, .undef, .undef, .undef, .undef], [], 0⟩) (fun i => L.length - i) 0 ⟨Nat.zero_le _, rfl⟩ ?_ (fun i hi => ?_)
 · refine bt.cut (0) (by simp) (by simp) ?_ ?_
   · simp [LeC, LeV, ren, br, hvc2]
   · rfl
 simp -implicitDefEqProofs -dsimp only [go_sem]
 refine bc.split (fun h1 => ?_) (fun h1 => ?_)
 · simp -implicitDefEqProofs -dsimp only [go_sem, h1]
   have hi' : i < L.length := by simpa using h1
   have h5 := ay.csl L[i]
   have hr := bu ay.csl hi'
   (repeat1' (first | simp -implicitDefEqProofs -dsimp only [go_sem, hr, ay.cs] | simp -dsimp (disch := omega) only [wrap_i64]))
   repeat (with_reducible refine ah ?_)
   refine ak.intro (hv L[i]) ⟨.inl rfl, ki (hvc2 _ _)⟩ (.inl (by simp only [List.nil_append, List.cons_append, List.all_cons, hvc, Bool.and_true]; rfl)) ?_
   simp -implicitDefEqProofs -dsimp only [go_sem]
   refine bc.split (fun h2 => ?_) (fun h2 => ?_) <;> simp -implicitDefEqProofs -dsimp only [go_sem, h2]
   · exact aj.au (by rw [sq hi' hi.2 h2]) (by rfl)
   · refine ⟨i + 1, ⟨hi', by rw [List.take_succ_eq_append_getElem hi']; simp only [List.any_append, hi.2, List.any_cons, h2, List.any_nil, Bool.or_self]⟩, ?_, by omega⟩
     refine bt.cut (0) (by simp) (by simp) ?_ ?_
     · rw [wrap_i64 (by omega) (by omega)]
       simp [LeC, LeV, ren, br, hvc2]
     · rfl
 · simp -implicitDefEqProofs -dsimp only [go_sem, h1]
   have hi' : i = L.length := by simp at h1; omega
   subst hi'
   have h2 := hi.2
   rw [List.take_length] at h2
   exact aj.au (by rw [vf h2]) (by rfl)
end Go.Proofs
end
section
set_option maxRecDepth 100000
namespace Go.Proofs
open Go.Lv
theorem qo (L : List ai) (p : ai → Bool) (fv : Nat) (vc : List V) (hvc : ∀ d, vc.all (cb d) = true) (hv : ∀ x, Ctr Tryz.prog fv (ai.v x :: vc) [] (.bool (p x)) []) (hl : L.length ≤ 281474976710656) :
 Ctr Tryz.prog 245 [ai.sl L, .fn (.func fv) [] vc] [] (.int .i64 (iw p L)) [] := by
 refine Ctr.intro Tryz.mixed Tryz.func245 rfl Tryz.ax4 ?_
 simp -implicitDefEqProofs -dsimp only [go_sem, Tryz.ntmps245, Tryz.results245]
 have hvc2 : ∀ f d, vc.map (ren f d) = vc := fun f d => oe f (hvc d)
 refine de.intro (fun i : Nat => i ≤ L.length ∧ (L.take i).any p = false) (fun i => ⟨[ai.sl L, .fn (.func fv) [] vc, .undef, .undef, .undef, .undef, .undef, .int .i64 L.length, .int .i64 i, .undef, .undef, .undef, .undef, .undef, .undef, .undef, .undef, .undef, .undef], [], 0⟩) (fun i => L.length - i) 0 ⟨Nat.zero_le _, rfl⟩ ?_ (fun i hi => ?_)
 · refine bt.cut (0) (by simp) (by simp) ?_ ?_
   · simp [LeC, LeV, ren, br, hvc2]
   · rfl
 simp -implicitDefEqProofs -dsimp only [go_sem]
 refine bc.split (fun h1 => ?_) (fun h1 => ?_)
 · simp -implicitDefEqProofs -dsimp only [go_sem, h1]
   have hi' : i < L.length := by simpa using h1
   have h5 := ai.csl L[i]
   have hr := bu ai.csl hi'
   (repeat1' (first | simp -implicitDefEqProofs -dsimp only [go_sem, hr, ai.cs] | simp -dsimp (disch := omega) only [wrap_i64]))
   repeat (with_reducible refine ah ?_)
   refine ak.intro (hv L[i]) ⟨.inl rfl, ki (hvc2 _ _)⟩ (.inl (by simp only [List.nil_append, List.cons_append, List.all_cons, hvc, Bool.and_true]; rfl)) ?_
   simp -implicitDefEqProofs -dsimp only [go_sem]
   refine bc.split (fun h2 => ?_) (fun h2 => ?_) <;> simp -implicitDefEqProofs -dsimp only [go_sem, h2]
   · exact aj.au (by rw [sq hi' hi.2 h2]) (by rfl)
   · refine ⟨i + 1, ⟨hi', by rw [List.take_succ_eq_append_getElem hi']; simp only [List.any_append, hi.2, List.any_cons, h2, List.any_nil, Bool.or_self]⟩, ?_, by omega⟩
     refine bt.cut (0) (by simp) (by simp) ?_ ?_
     · rw [wrap_i64 (by omega) (by omega)]
       simp [LeC, LeV, ren, br, hvc2]
     · rfl
 · simp -implicitDefEqProofs -dsimp only [go_sem, h1]
   have hi' : i = L.length := by simp at h1; omega
   subst hi'
   have h2 := hi.2
   rw [List.take_length] at h2
   exact aj.au (by rw [vf h2]) (by rfl)
end Go.Proofs
end
section
set_option maxRecDepth 100000
namespace Go.Proofs
open Go.Lv
def dh (n : Int) (x : ai) : Bool := x.Number == n
def j2 (n : Int) (x : ay) : Bool := x.Station == n
theorem aax (x : ai) (n : Int) : Ctr Tryz.prog 246 [x.v, .pt [.int .i64 n]] [] (.bool (dh n x)) [] := by
 refine Ctr.intro Tryz.mixed Tryz.func246 rfl Tryz.ay3 ?_
 simp -implicitDefEqProofs -dsimp only [go_sem, Tryz.ntmps246, Tryz.results246]
 simp -implicitDefEqProofs -dsimp only [go_sem, ai.v]
 exact aj.au rfl (by rfl)
theorem je (w : ab) (n : Int) (hs : w.Shocks.length ≤ 281474976710656) : Ctr Tryz.prog 203 [w.v, .int .i64 n] [] (.int .i64 (iw (dh n) w.Shocks)) [] := by
 refine Ctr.intro Tryz.mixed Tryz.func203 rfl Tryz.awl ?_
 simp -implicitDefEqProofs -dsimp only [go_sem, Tryz.ntmps203, Tryz.results203]
 simp -implicitDefEqProofs -dsimp only [go_sem, ab.v]
 (first | refine al.at (qo w.Shocks (dh n) _ [.pt [.int .i64 n]] (fun d => by cases d <;> rfl) (fun x => aax x n) hs) ⟨leA, leA, trivial⟩ ?_ | refine ak.at (qo w.Shocks (dh n) _ [.pt [.int .i64 n]] (fun d => by cases d <;> rfl) (fun x => aax x n) hs) ⟨leA, leA, trivial⟩ ?_)
 simp -implicitDefEqProofs -dsimp only [go_sem]
 exact aj.au rfl (by rfl)
theorem jn (w : ab) (n : Int) (hs : w.Shocks.length ≤ 281474976710656) : Ctr Tryz.prog 265 [w.v, .int .i64 n] [] (.int .i64 (iw (dh n) w.Shocks)) [] := by
 refine Ctr.intro Tryz.mixed Tryz.func265 rfl Tryz.awo ?_
 simp -implicitDefEqProofs -dsimp only [go_sem, Tryz.ntmps265, Tryz.results265]
 simp -implicitDefEqProofs -dsimp only [go_sem, ab.v]
 refine de.intro (fun i : Nat => i ≤ w.Shocks.length ∧ (w.Shocks.take i).any (dh n) = false) (fun i => ⟨[.undef, .int .i64 n, .ptr 0 0, .undef, .undef, .int .i64 i, .undef, .undef, .undef, .undef, .undef, .undef, .undef, .undef, .undef, .undef, .undef, .undef, .undef, .undef, .undef, .undef], [some w.cs], 0⟩) (fun i => w.Shocks.length - i) 0 ⟨Nat.zero_le _, rfl⟩ ?_ (fun i hi => ?_)
 · refine bt.cut (1) (by simp) (by simp) ?_ ?_
   · simp [LeC, LeV, ren, br]
   · simp [cd, dd, ren, ae, ab.cs]
 simp -implicitDefEqProofs -dsimp only [go_sem, ab.cs]
 refine bc.split (fun h1 => ?_) (fun h1 => ?_)
 · simp -implicitDefEqProofs -dsimp only [go_sem, h1, ab.cs]
   have hi' : i < w.Shocks.length := by simpa using h1
   have h5 := ai.csl w.Shocks[i]
   have hr := bu ai.csl hi'
   (repeat ((repeat1' (first | simp -implicitDefEqProofs -dsimp only [go_sem, hr, ai.cs, ab.cs] | simp -dsimp (disch := omega) only [wrap_i64])); repeat (with_reducible refine ah ?_)))
   refine bc.split (fun h2 => ?_) (fun h2 => ?_) <;> (repeat ((repeat1' (first | simp -implicitDefEqProofs -dsimp only [go_sem, h2] | simp -dsimp (disch := omega) only [wrap_i64])); repeat (with_reducible refine ah ?_)))
   · exact aj.au (by rw [sq hi' hi.2 h2]) (by rfl)
   · refine ⟨i + 1, ⟨hi', by rw [List.take_succ_eq_append_getElem hi']; simp only [List.any_append, hi.2, List.any_cons, dh, h2, List.any_nil, Bool.or_self]⟩, ?_, by omega⟩
     refine bt.cut (1) (by simp) (by simp) ?_ ?_
     · simp [LeC, LeV, ren, br]
     · simp [cd, dd, ren, ae, ab.cs]
 · simp -implicitDefEqProofs -dsimp only [go_sem, h1]
   have hi' : i = w.Shocks.length := by simp at h1; omega
   subst hi'
   have h2 := hi.2
   rw [List.take_length] at h2
   exact aj.au (by rw [vf h2]) (by rfl)
theorem ael (x : ay) (n : Int) : Ctr Tryz.prog 283 [x.v, .pt [.int .i64 n]] [] (.bool (j2 n x)) [] := by
 refine Ctr.intro Tryz.mixed Tryz.func283 rfl Tryz.awd ?_
 simp -implicitDefEqProofs -dsimp only [go_sem, Tryz.ntmps283, Tryz.results283]
 simp -implicitDefEqProofs -dsimp only [go_sem, ay.v]
 exact aj.au rfl (by rfl)
theorem o5 (w : ab) (n : Int) (hs : w.Posts.length ≤ 281474976710656) : Ctr Tryz.prog 271 [w.v, .int .i64 n] [] (.int .i64 (iw (j2 n) w.Posts)) [] := by
 refine Ctr.intro Tryz.mixed Tryz.func271 rfl Tryz.ax5 ?_
 simp -implicitDefEqProofs -dsimp only [go_sem, Tryz.ntmps271, Tryz.results271]
 simp -implicitDefEqProofs -dsimp only [go_sem, ab.v]
 (first | refine al.at (r7 w.Posts (j2 n) _ [.pt [.int .i64 n]] (fun d => by cases d <;> rfl) (fun x => ael x n) hs) ⟨leA, leA, trivial⟩ ?_ | refine ak.at (r7 w.Posts (j2 n) _ [.pt [.int .i64 n]] (fun d => by cases d <;> rfl) (fun x => ael x n) hs) ⟨leA, leA, trivial⟩ ?_)
 simp -implicitDefEqProofs -dsimp only [go_sem]
 exact aj.au rfl (by rfl)
theorem mj (w : ab) (n : Int) (hs : w.Posts.length ≤ 281474976710656) : Ctr Tryz.prog 264 [w.v, .int .i64 n] [] (.int .i64 (iw (j2 n) w.Posts)) [] := by
 refine Ctr.intro Tryz.mixed Tryz.func264 rfl Tryz.axa ?_
 simp -implicitDefEqProofs -dsimp only [go_sem, Tryz.ntmps264, Tryz.results264]
 simp -implicitDefEqProofs -dsimp only [go_sem, ab.v]
 refine de.intro (fun i : Nat => i ≤ w.Posts.length ∧ (w.Posts.take i).any (j2 n) = false) (fun i => ⟨[.undef, .int .i64 n, .ptr 0 0, .undef, .undef, .int .i64 i, .undef, .undef, .undef, .undef, .undef, .undef, .undef, .undef, .undef, .undef, .undef, .undef, .undef, .undef, .undef, .undef], [some w.cs], 0⟩) (fun i => w.Posts.length - i) 0 ⟨Nat.zero_le _, rfl⟩ ?_ (fun i hi => ?_)
 · refine bt.cut (1) (by simp) (by simp) ?_ ?_
   · simp [LeC, LeV, ren, br]
   · simp [cd, dd, ren, ae, ab.cs]
 simp -implicitDefEqProofs -dsimp only [go_sem, ab.cs]
 refine bc.split (fun h1 => ?_) (fun h1 => ?_)
 · simp -implicitDefEqProofs -dsimp only [go_sem, h1, ab.cs]
   have hi' : i < w.Posts.length := by simpa using h1
   have h5 := ay.csl w.Posts[i]
   have hr := bu ay.csl hi'
   (repeat ((repeat1' (first | simp -implicitDefEqProofs -dsimp only [go_sem, hr, ay.cs, ab.cs] | simp -dsimp (disch := omega) only [wrap_i64])); repeat (with_reducible refine ah ?_)))
   refine bc.split (fun h2 => ?_) (fun h2 => ?_) <;> (repeat ((repeat1' (first | simp -implicitDefEqProofs -dsimp only [go_sem, h2] | simp -dsimp (disch := omega) only [wrap_i64])); repeat (with_reducible refine ah ?_)))
   · exact aj.au (by rw [sq hi' hi.2 h2]) (by rfl)
   · refine ⟨i + 1, ⟨hi', by rw [List.take_succ_eq_append_getElem hi']; simp only [List.any_append, hi.2, List.any_cons, j2, h2, List.any_nil, Bool.or_self]⟩, ?_, by omega⟩
     refine bt.cut (1) (by simp) (by simp) ?_ ?_
     · simp [LeC, LeV, ren, br]
     · simp [cd, dd, ren, ae, ab.cs]
 · simp -implicitDefEqProofs -dsimp only [go_sem, h1]
   have hi' : i = w.Posts.length := by simp at h1; omega
   subst hi'
   have h2 := hi.2
   rw [List.take_length] at h2
   exact aj.au (by rw [vf h2]) (by rfl)
end Go.Proofs
end
section
set_option maxRecDepth 100000
set_option maxHeartbeats 1000000
namespace Go.Proofs
open Go.Lv
def ym (s : Int) : ByteArray := if s = 0 then ⟨#[110, 101, 119]⟩ else if s = 1 then ⟨#[108, 111, 99, 97, 116, 101, 100]⟩ else if s = 2 then ⟨#[114, 101, 118, 105, 101, 119, 101, 100]⟩ else ⟨#[112, 117, 98, 108, 105, 115, 104, 101, 100]⟩
def ve (x : ai) : ByteArray := (ym x.State ++ ⟨#[32, 115, 101, 101, 110, 32]⟩) ++ num x.Seen
def o9 (x : ai) : ByteArray := if x.State = 0 then ve x else ve x ++ (⟨#[32, 115, 105, 122, 101, 32]⟩ ++ num x.Size)
theorem adu {n x : Int} {s : ai} (h : j9 n x s = true) : (num s.Seen).size ≤ 21 ∧ (num s.Size).size ≤ 21 := by
 have := gj.1 h
 exact ⟨j0 (by omega) (by omega), j0 (by omega) (by omega)⟩
def gx (w : ab) (n : Int) : V := if wB w = true then match w.Shocks.find? (dh n) with
 | some x => .tup [.str (o9 x), .bool true]
 | none => .tup [.str ByteArray.empty, .bool false] else .tup [.str ByteArray.empty, .bool false]
theorem xp (n t : Int) (x : ai) (h : j9 n t x = true) : Ctr Tryz.prog 104 [x.v] [] (.str (o9 x)) [] := by
 have hv := gj.1 h
 have hs := adu h
 obtain ⟨N, S, E, Z, T⟩ := x
 simp only at hv hs
 have hst : S = 0 ∨ S = 1 ∨ S = 2 ∨ S = 3 := by omega
 rcases hst with rfl | rfl | rfl | rfl
 all_goals
  refine Ctr.intro Tryz.mixed Tryz.func104 rfl Tryz.awv ?_
  simp -implicitDefEqProofs -dsimp only [go_sem, Tryz.ntmps104, Tryz.results104]
  simp -implicitDefEqProofs -dsimp only [go_sem, ai.v]
  repeat (first | ((have ct := qh E ⟨by omega, by omega⟩; (first | refine al.at ct ⟨leA, trivial⟩ ?_ | refine ak.at ct ⟨leA, trivial⟩ ?_); clear ct); simp -implicitDefEqProofs -dsimp only [go_sem]) | ((have ct := qh Z ⟨by omega, by omega⟩; (first | refine al.at ct ⟨leA, trivial⟩ ?_ | refine ak.at ct ⟨leA, trivial⟩ ?_); clear ct); simp -implicitDefEqProofs -dsimp only [go_sem]) | (with_reducible refine And.intro (by first | omega | (show bo _ = true; kernel_rfl) | (simp only [ByteArray.size_append, bm, List.size_toArray, List.length_cons, List.length_nil]; omega)) ?_; try (repeat1' (first | simp -implicitDefEqProofs -dsimp only [go_sem] | simp -dsimp (disch := omega) only [wrap_i64]))))
  exact aj.au (by simp [o9, ve, ym]) (by rfl)
theorem ab0 (n t : Int) (x : ai) (h : j9 n t x = true) : Ctr Tryz.prog 105 [x.v] [] (.str (o9 x)) [] := by
 have hv := gj.1 h
 have hs := adu h
 obtain ⟨N, S, E, Z, T⟩ := x
 simp only at hv hs
 have hst : S = 0 ∨ S = 1 ∨ S = 2 ∨ S = 3 := by omega
 rcases hst with rfl | rfl | rfl | rfl
 all_goals
  refine Ctr.intro Tryz.mixed Tryz.func105 rfl Tryz.axl ?_
  simp -implicitDefEqProofs -dsimp only [go_sem, Tryz.ntmps105, Tryz.results105]
  simp -implicitDefEqProofs -dsimp only [go_sem, ai.v]
  repeat (first | ((have ct := fh E (by omega) (by omega); (first | refine al.at ct ⟨leA, trivial⟩ ?_ | refine ak.at ct ⟨leA, trivial⟩ ?_); clear ct); simp -implicitDefEqProofs -dsimp only [go_sem]) | ((have ct := fh Z (by omega) (by omega); (first | refine al.at ct ⟨leA, trivial⟩ ?_ | refine ak.at ct ⟨leA, trivial⟩ ?_); clear ct); simp -implicitDefEqProofs -dsimp only [go_sem]) | (with_reducible refine And.intro (by first | omega | (show bo _ = true; kernel_rfl) | (simp only [ByteArray.size_append, bm, List.size_toArray, List.length_cons, List.length_nil]; omega)) ?_; try (repeat1' (first | simp -implicitDefEqProofs -dsimp only [go_sem] | simp -dsimp (disch := omega) only [wrap_i64]))))
  exact aj.au (by simp [o9, ve, ym, ByteArray.append_assoc]) (by rfl)
theorem adf {α : Type} (p : α → Bool) (L : List α) : (∃ i, ∃ h : i < L.length, iw p L = (i : Int) ∧ L.find? p = some L[i]) ∨ (iw p L = -1 ∧ L.find? p = none) := by
 unfold iw
 cases h : L.findIdx? p with
 | none =>
  right
  refine ⟨rfl, ?_⟩
  rw [List.findIdx?_eq_none_iff] at h
  rw [List.find?_eq_none]
  intro x hx
  simpa using h x hx
 | some i =>
  left
  rw [List.findIdx?_eq_some_iff_getElem] at h
  obtain ⟨hi, h1, h2⟩ := h
  refine ⟨i, hi, rfl, ?_⟩
  rw [List.find?_eq_some_iff_getElem]
  exact ⟨h1, i, hi, rfl, fun j hj => by simpa using h2 j hj⟩
theorem vn (w : ab) (n : Int) (hp : w.Posts.length ≤ 281474976710656) (hs : w.Shocks.length ≤ 281474976710656) : Ctr Tryz.prog 149 [w.v, .int .i64 n] [] (gx w n) [] := by
 refine Ctr.intro Tryz.mixed Tryz.func149 rfl Tryz.awf ?_
 simp -implicitDefEqProofs -dsimp only [go_sem, Tryz.ntmps149, Tryz.results149]
 simp -implicitDefEqProofs -dsimp only [go_sem, ab.v]
 (have ct := je w n hs; (first | refine al.at ct ⟨leA, leA, trivial⟩ ?_ | refine ak.at ct ⟨leA, leA, trivial⟩ ?_); clear ct)
 simp -implicitDefEqProofs -dsimp only [go_sem]
 (have ct := dj w hp hs; (first | refine al.at ct ⟨leA, trivial⟩ ?_ | refine ak.at ct ⟨leA, trivial⟩ ?_); clear ct)
 cases h : wB w with
 | false =>
  simp -implicitDefEqProofs -dsimp only [go_sem, h]
  exact aj.au (by simp [gx, h]; rfl) (by rfl)
 | true =>
  have hw := dt h
  rcases adf (dh n) w.Shocks with ⟨i, hi, e1, e2⟩ | ⟨e1, e2⟩
  · rw [e1]
    have hsh := hw.shocks _ (List.getElem_mem hi)
    have hr := bu ai.csl hi
    have hd : decide ((i : Int) < 0) = false := decide_eq_false (by omega)
    (repeat ((repeat1' (first | simp -implicitDefEqProofs -dsimp only [go_sem, h, hd, hr, ai.cs, ab.cs] | simp -dsimp (disch := omega) only [wrap_i64])); repeat (with_reducible refine And.intro ?_ ?_; focus (first | omega | with_reducible rfl | (show bo _ = true; kernel_rfl) | (simp only [aw, a8, List.length_append, List.length_cons, List.length_nil, List.all_append, List.all_cons, List.all_nil, bp, Nat.mul_one, Nat.one_mul, Bool.and_self]; first | done | omega) | (simp only [ByteArray.size_append, bm, List.size_toArray, List.length_cons, List.length_nil]; omega)))))
    (first | refine al.at (xp _ _ w.Shocks[i] hsh) ⟨leA, trivial⟩ ?_ | refine ak.at (xp _ _ w.Shocks[i] hsh) ⟨leA, trivial⟩ ?_)
    simp -implicitDefEqProofs -dsimp only [go_sem]
    exact aj.au (by simp [gx, h, e2]) (by rfl)
  · rw [e1]
    simp -implicitDefEqProofs -dsimp only [go_sem, h]
    exact aj.au (by simp [gx, h, e2]; rfl) (by rfl)
theorem ac7 (w : ab) (n : Int) (hp : w.Posts.length ≤ 281474976710656) (hs : w.Shocks.length ≤ 281474976710656) : Ctr Tryz.prog 254 [w.v, .int .i64 n] [] (gx w n) [] := by
 refine Ctr.intro Tryz.mixed Tryz.func254 rfl Tryz.avt ?_
 simp -implicitDefEqProofs -dsimp only [go_sem, Tryz.ntmps254, Tryz.results254]
 simp -implicitDefEqProofs -dsimp only [go_sem, ab.v]
 (have ct := jn w n hs; (first | refine al.at ct ⟨leA, leA, trivial⟩ ?_ | refine ak.at ct ⟨leA, leA, trivial⟩ ?_); clear ct)
 simp -implicitDefEqProofs -dsimp only [go_sem]
 (have ct := du w hp hs; (first | refine al.at ct ⟨leA, trivial⟩ ?_ | refine ak.at ct ⟨leA, trivial⟩ ?_); clear ct)
 cases h : wB w with
 | false =>
  simp -implicitDefEqProofs -dsimp only [go_sem, h]
  exact aj.au (by simp [gx, h]; rfl) (by rfl)
 | true =>
  have hw := dt h
  rcases adf (dh n) w.Shocks with ⟨i, hi, e1, e2⟩ | ⟨e1, e2⟩
  · rw [e1]
    have hsh := hw.shocks _ (List.getElem_mem hi)
    have hr := bu ai.csl hi
    have hd : decide ((i : Int) < 0) = false := decide_eq_false (by omega)
    (repeat ((repeat1' (first | simp -implicitDefEqProofs -dsimp only [go_sem, h, hd, hr, ai.cs, ab.cs] | simp -dsimp (disch := omega) only [wrap_i64])); repeat (with_reducible refine And.intro ?_ ?_; focus (first | omega | with_reducible rfl | (show bo _ = true; kernel_rfl) | (simp only [aw, a8, List.length_append, List.length_cons, List.length_nil, List.all_append, List.all_cons, List.all_nil, bp, Nat.mul_one, Nat.one_mul, Bool.and_self]; first | done | omega) | (simp only [ByteArray.size_append, bm, List.size_toArray, List.length_cons, List.length_nil]; omega)))))
    (first | refine al.at (ab0 _ _ w.Shocks[i] hsh) ⟨leA, trivial⟩ ?_ | refine ak.at (ab0 _ _ w.Shocks[i] hsh) ⟨leA, trivial⟩ ?_)
    simp -implicitDefEqProofs -dsimp only [go_sem]
    exact aj.au (by simp [gx, h, e2]) (by rfl)
  · rw [e1]
    simp -implicitDefEqProofs -dsimp only [go_sem, h]
    exact aj.au (by simp [gx, h, e2]; rfl) (by rfl)
end Go.Proofs
end
section
set_option maxRecDepth 100000
namespace Go.Proofs
open Go.Lv
structure cu where
 Week : Int
 Events : Int
 Felt : Int
 Picks : Int
 Lost : Int
def cu.cs (r : cu) : List V := [.int .i64 r.Week, .int .i64 r.Events, .int .i64 r.Felt, .int .i64 r.Picks, .int .i64 r.Lost]
def cu.v (r : cu) : V := .agg [.int .i64 r.Week, .int .i64 r.Events, .int .i64 r.Felt, .int .i64 r.Picks, .int .i64 r.Lost]
theorem cu.csl (a : cu) : a.cs.length = 5 := rfl
theorem cu.csp (a : cu) : a.cs.all (cb 2) = true := rfl
instance : pn cu.cs 5 := ⟨fun _ => rfl, fun _ d => by cases d <;> rfl, fun _ => rfl, fun _ => rfl⟩
def cu.ok (r : cu) : Prop := gz r.Week ∧ gz r.Events ∧ gz r.Felt ∧ gz r.Picks ∧ gz r.Lost
abbrev cu.rows (L : List cu) : List V := Go.Lv.rows cu.cs L
abbrev cu.sl (L : List cu) : V := .sl L.length 5 (Go.Lv.rows cu.cs L)
abbrev cu.zs : List V := [.int .i64 0, .int .i64 0, .int .i64 0, .int .i64 0, .int .i64 0]
def cu.mk1 (k : Int) : cu := ⟨k, k + 1, k + 1 + 1, k + 1 + 1 + 1, k + 1 + 1 + 1 + 1⟩
def cu.marks (k : Int) (n : Nat) : List cu := (List.range n).map fun i : Nat => cu.mk1 (k + 5 * (i : Int))
@[simp] theorem cu.fx (k : Int) (n : Nat) : (cu.marks k n).length = n := by simp [cu.marks]
theorem cu.kv (k : Int) (n : Nat) : cu.marks k (n + 1) = cu.marks k n ++ [cu.mk1 (k + 5 * (n : Int))] := by simp [cu.marks, List.range_succ]
theorem cu.ml (k : Int) (n : Nat) {i : Nat} (hi : i < (cu.marks k n).length) : (cu.marks k n)[i] = cu.mk1 (k + 5 * (i : Int)) := by simp [cu.marks]
end Go.Proofs
end
section
set_option maxRecDepth 100000
set_option maxHeartbeats 1000000
namespace Go.Proofs
open Go.Lv
def uz (c : an) : Bool := wB c.ab && qx c.Log
def an.fits (c : an) : Prop := c.ab.Posts.length ≤ 1048576 ∧ c.ab.Shocks.length ≤ 1048576 ∧ c.Log.Durable.size ≤ 4194304 ∧ c.Log.Pending.size ≤ 4194304
theorem gf (c : an) (hc : c.fits) : Ctr Tryz.prog 36 [c.v] [] (.bool (uz c)) [] := by
 obtain ⟨h0, h1, h2, h3⟩ := hc
 refine Ctr.intro Tryz.mixed Tryz.func36 rfl Tryz.a5y ?_
 simp -implicitDefEqProofs -dsimp only [go_sem, Tryz.ntmps36, Tryz.results36]
 simp -implicitDefEqProofs -dsimp only [go_sem, an.v]
 (have ct := dj c.ab (by omega) (by omega); (first | refine al.at ct ⟨leA, trivial⟩ ?_ | refine ak.at ct ⟨leA, trivial⟩ ?_); clear ct)
 cases h : wB c.ab with
 | false =>
  simp -implicitDefEqProofs -dsimp only [go_sem, h]
  exact aj.au (by simp [uz, h]) (by rfl)
 | true =>
  simp -implicitDefEqProofs -dsimp only [go_sem, h]
  (have ct := ud c.Log h2 h3; (first | refine al.at ct ⟨leA, trivial⟩ ?_ | refine ak.at ct ⟨leA, trivial⟩ ?_); clear ct)
  simp -implicitDefEqProofs -dsimp only [go_sem]
  exact aj.au (by simp [uz, h]) (by rfl)
theorem aim (c : an) (hc : c.fits) : Ctr Tryz.prog 98 [c.v] [] (.bool (uz c)) [] := by
 obtain ⟨h0, h1, h2, h3⟩ := hc
 refine Ctr.intro Tryz.mixed Tryz.func98 rfl Tryz.a25 ?_
 simp -implicitDefEqProofs -dsimp only [go_sem, Tryz.ntmps98, Tryz.results98]
 simp -implicitDefEqProofs -dsimp only [go_sem, an.v]
 (have ct := du c.ab (by omega) (by omega); (first | refine al.at ct ⟨leA, trivial⟩ ?_ | refine ak.at ct ⟨leA, trivial⟩ ?_); clear ct)
 cases h : wB c.ab with
 | false =>
  simp -implicitDefEqProofs -dsimp only [go_sem, h]
  exact aj.au (by simp [uz, h]) (by rfl)
 | true =>
  simp -implicitDefEqProofs -dsimp only [go_sem, h]
  (have ct := ad5 c.Log h2 h3; (first | refine al.at ct ⟨leA, trivial⟩ ?_ | refine ak.at ct ⟨leA, trivial⟩ ?_); clear ct)
  simp -implicitDefEqProofs -dsimp only [go_sem]
  exact aj.au (by simp [uz, h]) (by rfl)
end Go.Proofs
end
section
set_option maxRecDepth 100000
namespace Go.Proofs
open Go.Lv
structure bw where
 Kind : Int
 Number : Int
 Value : Int
def bw.cs (r : bw) : List V := [.int .i64 r.Kind, .int .i64 r.Number, .int .i64 r.Value]
def bw.v (r : bw) : V := .agg [.int .i64 r.Kind, .int .i64 r.Number, .int .i64 r.Value]
theorem bw.csl (a : bw) : a.cs.length = 3 := rfl
theorem bw.csp (a : bw) : a.cs.all (cb 2) = true := rfl
instance : pn bw.cs 3 := ⟨fun _ => rfl, fun _ d => by cases d <;> rfl, fun _ => rfl, fun _ => rfl⟩
def bw.ok (r : bw) : Prop := gz r.Kind ∧ gz r.Number ∧ gz r.Value
abbrev bw.rows (L : List bw) : List V := Go.Lv.rows bw.cs L
abbrev bw.sl (L : List bw) : V := .sl L.length 3 (Go.Lv.rows bw.cs L)
abbrev bw.zs : List V := [.int .i64 0, .int .i64 0, .int .i64 0]
def bw.mk1 (k : Int) : bw := ⟨k, k + 1, k + 1 + 1⟩
def bw.marks (k : Int) (n : Nat) : List bw := (List.range n).map fun i : Nat => bw.mk1 (k + 3 * (i : Int))
@[simp] theorem bw.fx (k : Int) (n : Nat) : (bw.marks k n).length = n := by simp [bw.marks]
theorem bw.kv (k : Int) (n : Nat) : bw.marks k (n + 1) = bw.marks k n ++ [bw.mk1 (k + 3 * (n : Int))] := by simp [bw.marks, List.range_succ]
theorem bw.ml (k : Int) (n : Nat) {i : Nat} (hi : i < (bw.marks k n).length) : (bw.marks k n)[i] = bw.mk1 (k + 3 * (i : Int)) := by simp [bw.marks]
end Go.Proofs
end
section
namespace Go.Lv
theorem mi {α : Type} {cs : α → List V} {w : Nat} (hw : ∀ a, (cs a).length = w) {L : List α} {i : Nat} (hi : i < L.length) (x : α) : ck (rows cs L) (i * w) (cs x) = rows cs (L.set i x) := by
 have e : L = L.take i ++ L[i] :: L.drop (i + 1) := by rw [← List.drop_eq_getElem_cons hi, List.take_append_drop]
 have e2 : L.set i x = L.take i ++ x :: L.drop (i + 1) := by rw [List.set_eq_take_append_cons_drop, if_pos hi]
 have hA : (rows cs (L.take i)).length = i * w := by rw [jk hw, List.length_take, Nat.min_eq_left (by omega)]
 rw [e2, c8, dx]
 conv => lhs; rw [e, c8, dx]
 rw [uu hA, zy]
 congr 2
 rw [List.drop_append_of_le_length (by rw [hw, hw]; exact Nat.le_refl _), List.drop_of_length_le (by rw [hw, hw]; exact Nat.le_refl _)]
 rfl
end Go.Lv
end
section
namespace Go.Lv
theorem ahz {A B ns : List V} {f : Nat} (h : f + ns.length ≤ A.length) : ck (A ++ B) f ns = ck A f ns ++ B := by
 unfold ck
 rw [List.take_append_of_le_length (by omega), List.drop_append_of_le_length (by omega)]
 simp [List.append_assoc]
theorem qf {α : Type} {cs : α → List V} {w : Nat} (hw : ∀ a, (cs a).length = w) {L : List α} {j f : Nat} {v : V} {x : α} (hj : j < L.length) (hf : f < w) (hx : cs x = ck (cs L[j]) f [v]) : ck (rows cs L) (j * w + f) [v] = rows cs (L.set j x) := by
 have e : L = L.take j ++ L[j] :: L.drop (j + 1) := by rw [← List.drop_eq_getElem_cons hj, List.take_append_drop]
 have e2 : L.set j x = L.take j ++ x :: L.drop (j + 1) := by rw [List.set_eq_take_append_cons_drop, if_pos hj]
 have hA : (rows cs (L.take j)).length = j * w := by rw [jk hw, List.length_take, Nat.min_eq_left (by omega)]
 rw [e2, c8, dx]
 conv => lhs; rw [e, c8, dx]
 rw [sk hA, ahz (by rw [hw]; simp; omega), hx]

def fits (id n : Nat) : Nat → V → Bool
 | _, .osl i off m w => i != id || decide (off + m * w ≤ n)
 | d + 1, .agg cs => cs.all (fits id n d)
 | d + 1, .tup cs => cs.all (fits id n d)
 | d + 1, .fn _ a c => a.all (fits id n d) && c.all (fits id n d)
 | 0, .agg _ => false
 | 0, .tup _ => false
 | 0, .fn _ _ _ => false
 | _, _ => true

theorem RV.trim {w : World} {m : Nat → Nat} {h : Hp} {av av' : Nat → Prop} {id n : Nat} {cs : List V} (hid : h[id]? = some (some cs)) (hmb : gg cs = false) (hmb' : gg (cs.take n) = false) (hn : n ≤ cs.length) (hav : ∀ b, av' b → av b) {o : Bool} {v : Value} {x : V}
   (hx : RV w m h av o v x) : ∀ d, fits id n d x = true → RV w m (h.set id (some (cs.take n))) av' o v x := by
 have hro : ∀ {v : Value} {x : V}, RV w m h av false v x → RV w m (h.set id (some (cs.take n))) av' false v x := fun hx =>
   hx.vg (fun b off v hb hc => ⟨fun h => hb (hav b h), hc⟩) rfl
 have hset : ∀ {i : Nat} {c : List V}, h[i]? = some (some c) → i ≠ id → (h.set id (some (cs.take n)))[i]? = some (some c) := fun h e => by
   rw [List.getElem?_set_ne (Ne.symm e)]; exact h
 have hself : (h.set id (some (cs.take n)))[id]? = some (some (cs.take n)) := List.getElem?_set_self (dp hid)
 induction hx with
 | undef v => exact fun _ _ => .undef v
 | skip => exact fun _ _ => .skip
 | bool b => exact fun _ _ => .bool b
 | int k n => exact fun _ _ => .int k n
 | str s => exact fun _ _ => .str s
 | nilsl => exact fun _ _ => .nilsl
 | slz a c wd => exact fun _ _ => .slz a c wd
 | sl b off n' cap wd cs' vals hl ha hc hv hr _ => exact fun _ _ => .sl b off n' cap wd cs' vals hl (fun hne h => ha hne (hav b h)) hc hv (fun i hi => hro (hr i hi))
 | pt b off cs' vals ha hv hr _ => exact fun _ _ => .pt b off cs' vals (fun hne h => ha hne (hav b h)) hv (fun i hi => hro (hr i hi))
 | osl id' off n' cap wd cs' hid' hl hc hs =>
   intro d hf
   by_cases e : id' = id
   · subst e
     have he : cs = cs' := by have := hid'.1; rw [hid] at this; simpa using this
     subst he
     have hf' : off + n' * wd ≤ n := by cases d <;> simpa [fits] using hf
     exact .osl id' off n' cap wd (cs.take n) ⟨hself, hmb'⟩ (by simp; omega) hc hs
   · exact .osl id' off n' cap wd cs' ⟨hset hid'.1 e, hid'.2⟩ hl hc hs
 | ptr id' off cs' hid' =>
   intro d _
   by_cases e : id' = id
   · subst e
     exact .ptr id' off (cs.take n) ⟨hself, hmb'⟩
   · exact .ptr id' off cs' ⟨hset hid'.1 e, hid'.2⟩
 | fn g a c a' c' ha hc hra hrc iha ihc =>
   intro d hf
   cases d with
   | zero => simp [fits] at hf
   | succ d =>
     simp only [fits, Bool.and_eq_true, List.all_eq_true] at hf
     exact .fn g a c a' c' ha hc (fun i hi => iha i hi d (hf.1 _ (List.getElem_mem hi))) (fun i hi => ihc i hi d (hf.2 _ (List.getElem_mem hi)))
 | agg a a' ha hra iha =>
   intro d hf
   cases d with
   | zero => simp [fits] at hf
   | succ d =>
     simp only [fits, List.all_eq_true] at hf
     exact .agg a a' ha (fun i hi => iha i hi d (hf _ (List.getElem_mem hi)))
 | tup a a' ha hra iha =>
   intro d hf
   cases d with
   | zero => simp [fits] at hf
   | succ d =>
     simp only [fits, List.all_eq_true] at hf
     exact .tup a a' ha (fun i hi => iha i hi d (hf _ (List.getElem_mem hi)))
 | lit v => exact fun _ _ => .lit v
 | mp id' cs' hid' hm =>
   intro d _
   by_cases e : id' = id
   · subst e
     rw [hid] at hid'
     have he : cs = cs' := by simpa using hid'
     subst he
     rw [hmb] at hm; cases hm
   · exact .mp id' cs' (hset hid' e) hm

theorem aj.trim {k : Nat} {v r : V} {h hout : Hp} (id n : Nat) {cs : List V} (hid : h[id]? = some (some cs)) (hk : k ≤ id) (hn : n ≤ cs.length) (hmb : gg cs = false) (hmb' : gg (cs.take n) = false) (hv : fits id n 3 v = true)
   (hh : (h.all fun b => match b with | some cs => cs.all (fits id n 2) | none => true) = true) (hr : aj k v (h.set id (some (cs.take n))) r hout) : aj k v h r hout := by
 intro w0 m0 h0 av0 w m val e1 e2 hlt hle H hx hI
 have hfit : ∀ (j : Nat) (c : List V), h[j]? = some (some c) → ∀ x ∈ c, fits id n 2 x = true := by
   intro j c hj x hxc
   have := List.all_eq_true.1 hh _ (List.mem_of_getElem? hj)
   exact List.all_eq_true.1 this x hxc
 have hown : ∀ b, own m (h.set id (some (cs.take n))) b → own m h b := by
   rintro b ⟨j, c, h1, rfl⟩
   rcases my hid h1 with ⟨rfl, _⟩ | ⟨_, h2⟩
   · exact ⟨j, cs, hid, rfl⟩
   · exact ⟨j, c, h2, rfl⟩
 have hav : ∀ b, avm av0 m (h.set id (some (cs.take n))) b → avm av0 m h b := fun b hb => hb.imp (fun x => x) (hown b)
 have hcase : ∀ (j : Nat) (c : List V), (h.set id (some (cs.take n)))[j]? = some (some c) → ∃ c0, h[j]? = some (some c0) ∧ (∃ q, c = c0.take q) := by
   intro j c h1
   rcases my hid h1 with ⟨rfl, rfl⟩ | ⟨_, h2⟩
   · exact ⟨cs, hid, n, rfl⟩
   · exact ⟨c, h2, c.length, by simp⟩
 refine hr w0 m0 h0 av0 w m val e1 (by simpa using e2) hlt hle ⟨fun i j ci cj h1 h2 he => ?_, fun j c h1 => .inr ⟨j, c, h1, rfl⟩, fun j c h1 => ?_⟩ (hx.trim hid hmb hmb' hn hav 3 hv) (fun j c h1 => ?_)
 · obtain ⟨c1, g1, _⟩ := hcase i ci h1
   obtain ⟨c2, g2, _⟩ := hcase j cj h2
   exact H.inj i j c1 c2 g1 g2 he
 · rcases my hid h1 with ⟨rfl, rfl⟩ | ⟨_, h2⟩
   · obtain ⟨C, T, fr, g1, hfr, g2, g3⟩ := (H.blk j cs hid).cells hmb
     refine .inl ⟨C, T, fr, g1, hfr, by simp; omega, fun i hi => ?_⟩
     have hi' : i < cs.length := by simp at hi; omega
     rw [List.getElem_take]
     exact (g3 i hi').trim hid hmb hmb' hn hav 2 (hfit j cs hid _ (List.getElem_mem _))
   · rcases H.blk j c h2 with ⟨C, T, fr, g1, hfr, g2, g3⟩ | h3
     · exact .inl ⟨C, T, fr, g1, hfr, g2, fun i hi => (g3 i hi).trim hid hmb hmb' hn hav 2 (hfit j c h2 _ (List.getElem_mem _))⟩
     · exact .inr h3
 · rcases my hid h1 with ⟨rfl, rfl⟩ | ⟨_, h2⟩
   · rcases hI j cs hid with ⟨q1, _⟩ | q1
     · omega
     · exact .inr q1
   · exact hI j c h2

theorem ach (id n : Nat) : ∀ (d : Nat) (x : V), cb d x = true → fits id n d x = true
 | 0, x, hx => by cases x <;> simp_all [cb, fits]
 | d + 1, x, hx => by
   have hall : ∀ l : List V, l.all (cb d) = true → l.all (fits id n d) = true := fun l h =>
     List.all_eq_true.2 fun y hy => ach id n d y (List.all_eq_true.1 h y hy)
   cases x <;> first | (simp only [cb, fits, Bool.and_eq_true] at hx ⊢; exact ⟨hall _ hx.1, hall _ hx.2⟩) | (simp only [cb, fits] at hx ⊢; exact hall _ hx) | rfl | cases hx
theorem aee {α : Type} {cs : α → List V} {w : Nat} [lq cs w] (id n d : Nat) (L : List α) : (rows cs L).all (fits id n d) = true :=
 List.all_eq_true.2 fun x hx => ach id n d x (List.all_eq_true.1 (kp (cs := cs) L d) x hx)
end Go.Lv
end
section
set_option maxRecDepth 100000
set_option maxHeartbeats 1000000
namespace Go.Proofs
open Go.Lv
theorem aji {α : Type} (p : α → Bool) (L : List α) : (∃ i, ∃ h : i < L.length, iw p L = (i : Int) ∧ p L[i] = true) ∨ iw p L = -1 := by
 unfold iw
 cases h : L.findIdx? p with
 | none => exact .inr rfl
 | some i =>
  obtain ⟨h1, h2, _⟩ := List.findIdx?_eq_some_iff_getElem.1 h
  exact .inl ⟨i, h1, rfl, h2⟩
theorem rz {α : Type} {p : α → Bool} {L : List α} (h : decide (0 ≤ iw p L) = true) : ∃ i, ∃ h : i < L.length, iw p L = (i : Int) ∧ p L[i] = true := by
 rcases aji p L with h1 | h1
 · exact h1
 · rw [h1] at h; simp at h
def pAt (w : ab) (n : Int) : Nat := (iw (j2 n) w.Posts).toNat
def sAt (w : ab) (n : Int) : Nat := (iw (dh n) w.Shocks).toNat
def df (w : ab) (k n v : Int) : Bool :=
 if k = 1 then n == 0 && decide (1 ≤ v)
 else if k = 2 ∨ k = 3 then decide (0 ≤ iw (j2 n) w.Posts) && v == 0
 else if k = 4 then n == 0 && v == 0
 else if k = 5 then decide (0 ≤ iw (dh n) w.Shocks) && ed v (-20) 95
 else if k = 6 then decide (0 ≤ iw (dh n) w.Shocks) && ed v (-10) 10
 else (k == 7 || k == 8) && decide (0 ≤ iw (dh n) w.Shocks) && v == 0
def uo (x : ai) (k v : Int) : ai := if k = 5 then ⟨x.Number, 1, x.Seen, v, x.Tick⟩ else if k = 6 then ⟨x.Number, 2, x.Seen, x.Size + v, x.Tick⟩ else ⟨x.Number, 3, x.Seen, x.Size, x.Tick⟩
def yf (x : ai) (k : Int) : Bool := if k = 5 then x.State == 0 && decide (3 ≤ x.Seen) else if k = 6 then x.State == 1 else x.State == 2 || (x.State == 1 && decide (50 ≤ x.Size))
def abi (w : ab) (x : ai) : Bool := x.State == 3 || (x.State == 0 && decide (6000 < w.Now - x.Tick))
def upN (w : ab) (i : Nat) : Nat := ((w.Posts.take i).filter ay.Up).length
def aid (w : ab) (i : Nat) : ai := (w.Shocks[i]?).getD ⟨0, 0, 0, 0, 0⟩
def ax6 (w : ab) (i : Nat) : ay := (w.Posts[i]?).getD ⟨0, false, 0⟩
theorem xi {w : ab} {i : Nat} (h : i < w.Shocks.length) : aid w i = w.Shocks[i] := by simp [aid, h]
theorem ah0 {w : ab} {i : Nat} (h : i < w.Posts.length) : ax6 w i = w.Posts[i] := by simp [ax6, h]
def eb (w : ab) (k n v : Int) : ab :=
 if k = 1 then ⟨w.Now + v, w.Posts, w.Shocks, w.Next, w.Archived⟩
 else if k = 2 ∨ k = 3 then ⟨w.Now, w.Posts.set (pAt w n) ⟨n, decide (k = 3), w.Now⟩, w.Shocks, w.Next, w.Archived⟩
 else if k = 4 then ⟨w.Now, w.Posts, w.Shocks ++ [⟨w.Next, 0, (upN w w.Posts.length : Int), 0, w.Now⟩], w.Next + 1, w.Archived⟩
 else if k = 8 then ⟨w.Now, w.Posts, w.Shocks.take (sAt w n) ++ w.Shocks.drop (sAt w n + 1), w.Next, w.Archived + 1⟩
 else ⟨w.Now, w.Posts, w.Shocks.set (sAt w n) (uo (aid w (sAt w n)) k v), w.Next, w.Archived⟩
def n7 (w : ab) (k n v : Int) : Bool :=
 if k = 1 then decide (v ≤ 1000000 - w.Now)
 else if k = 2 ∨ k = 3 then (ax6 w (pAt w n)).Up != decide (k = 3)
 else if k = 4 then true
 else if k = 8 then abi w (aid w (sAt w n))
 else yf (aid w (sAt w n)) k
def er (w : ab) (k n v : Int) : ab := if k = 1 ∧ ¬ v ≤ 1000000 - w.Now then w else eb w k n v
theorem aiz (w : ab) (k n v : Int) (hp : w.Posts.length ≤ 16777216) (hs : w.Shocks.length ≤ 16777216) : Ctr Tryz.prog 234 [w.v, .agg [.int .i64 k, .int .i64 n, .int .i64 v]] [] (.bool (df w k n v)) [] := by
 by_cases k1 : k = 1
 · subst k1
   refine Ctr.intro Tryz.mixed Tryz.func234 rfl Tryz.wj ?_
   simp -implicitDefEqProofs -dsimp only [go_sem, Tryz.ntmps234, Tryz.results234]
   simp -implicitDefEqProofs -dsimp only [go_sem, ab.v]
   repeat' (first | (refine aj.au ?_ (by rfl); first | rfl | (simp [df, *]; done)) | ((have ct := mj w n (by omega); (first | refine al.at ct ⟨leA, leA, trivial⟩ ?_ | refine ak.at ct ⟨leA, leA, trivial⟩ ?_); clear ct); simp -implicitDefEqProofs -dsimp only [go_sem, *]) | (refine ax.bq (fun _ => ?_) (fun _ => ?_) <;> simp -implicitDefEqProofs -dsimp only [go_sem, *]) | (refine ax.ch (fun _ => ?_) (fun _ => ?_) <;> simp -implicitDefEqProofs -dsimp only [go_sem, *]) | (refine bc.split (fun _ => ?_) (fun _ => ?_) <;> simp -implicitDefEqProofs -dsimp only [go_sem, *]))
 by_cases k2 : k = 2 ∨ k = 3
 · rcases k2 with k2 | k2
   · subst k2
     refine Ctr.intro Tryz.mixed Tryz.func234 rfl Tryz.wj ?_
     simp -implicitDefEqProofs -dsimp only [go_sem, Tryz.ntmps234, Tryz.results234]
     simp -implicitDefEqProofs -dsimp only [go_sem, ab.v]
     repeat' (first | (refine aj.au ?_ (by rfl); first | rfl | (simp [df, *]; done)) | ((have ct := mj w n (by omega); (first | refine al.at ct ⟨leA, leA, trivial⟩ ?_ | refine ak.at ct ⟨leA, leA, trivial⟩ ?_); clear ct); simp -implicitDefEqProofs -dsimp only [go_sem, *]) | (refine ax.bq (fun _ => ?_) (fun _ => ?_) <;> simp -implicitDefEqProofs -dsimp only [go_sem, *]) | (refine ax.ch (fun _ => ?_) (fun _ => ?_) <;> simp -implicitDefEqProofs -dsimp only [go_sem, *]) | (refine bc.split (fun _ => ?_) (fun _ => ?_) <;> simp -implicitDefEqProofs -dsimp only [go_sem, *]))
   · subst k2
     refine Ctr.intro Tryz.mixed Tryz.func234 rfl Tryz.wj ?_
     simp -implicitDefEqProofs -dsimp only [go_sem, Tryz.ntmps234, Tryz.results234]
     simp -implicitDefEqProofs -dsimp only [go_sem, ab.v]
     repeat' (first | (refine aj.au ?_ (by rfl); first | rfl | (simp [df, *]; done)) | ((have ct := mj w n (by omega); (first | refine al.at ct ⟨leA, leA, trivial⟩ ?_ | refine ak.at ct ⟨leA, leA, trivial⟩ ?_); clear ct); simp -implicitDefEqProofs -dsimp only [go_sem, *]) | (refine ax.bq (fun _ => ?_) (fun _ => ?_) <;> simp -implicitDefEqProofs -dsimp only [go_sem, *]) | (refine ax.ch (fun _ => ?_) (fun _ => ?_) <;> simp -implicitDefEqProofs -dsimp only [go_sem, *]) | (refine bc.split (fun _ => ?_) (fun _ => ?_) <;> simp -implicitDefEqProofs -dsimp only [go_sem, *]))
 by_cases k4 : k = 4
 · subst k4
   refine Ctr.intro Tryz.mixed Tryz.func234 rfl Tryz.wj ?_
   simp -implicitDefEqProofs -dsimp only [go_sem, Tryz.ntmps234, Tryz.results234]
   simp -implicitDefEqProofs -dsimp only [go_sem, ab.v]
   repeat' (first | (refine aj.au ?_ (by rfl); first | rfl | (simp [df, *]; done)) | ((have ct := mj w n (by omega); (first | refine al.at ct ⟨leA, leA, trivial⟩ ?_ | refine ak.at ct ⟨leA, leA, trivial⟩ ?_); clear ct); simp -implicitDefEqProofs -dsimp only [go_sem, *]) | (refine ax.bq (fun _ => ?_) (fun _ => ?_) <;> simp -implicitDefEqProofs -dsimp only [go_sem, *]) | (refine ax.ch (fun _ => ?_) (fun _ => ?_) <;> simp -implicitDefEqProofs -dsimp only [go_sem, *]) | (refine bc.split (fun _ => ?_) (fun _ => ?_) <;> simp -implicitDefEqProofs -dsimp only [go_sem, *]))
 by_cases k5 : k = 5
 · subst k5
   refine Ctr.intro Tryz.mixed Tryz.func234 rfl Tryz.wj ?_
   simp -implicitDefEqProofs -dsimp only [go_sem, Tryz.ntmps234, Tryz.results234]
   simp -implicitDefEqProofs -dsimp only [go_sem, ab.v]
   repeat' (first | (refine aj.au ?_ (by rfl); first | rfl | (simp [df, *]; done)) | ((have ct := jn w n (by omega); (first | refine al.at ct ⟨leA, leA, trivial⟩ ?_ | refine ak.at ct ⟨leA, leA, trivial⟩ ?_); clear ct); simp -implicitDefEqProofs -dsimp only [go_sem, *]) | ((first | refine al.at (fa _ _ _) ⟨leA, leA, leA, trivial⟩ ?_ | refine ak.at (fa _ _ _) ⟨leA, leA, leA, trivial⟩ ?_); simp -implicitDefEqProofs -dsimp only [go_sem, *]) | (refine ax.bq (fun _ => ?_) (fun _ => ?_) <;> simp -implicitDefEqProofs -dsimp only [go_sem, *]) | (refine ax.ch (fun _ => ?_) (fun _ => ?_) <;> simp -implicitDefEqProofs -dsimp only [go_sem, *]) | (refine bc.split (fun _ => ?_) (fun _ => ?_) <;> simp -implicitDefEqProofs -dsimp only [go_sem, *]))
 by_cases k6 : k = 6
 · subst k6
   refine Ctr.intro Tryz.mixed Tryz.func234 rfl Tryz.wj ?_
   simp -implicitDefEqProofs -dsimp only [go_sem, Tryz.ntmps234, Tryz.results234]
   simp -implicitDefEqProofs -dsimp only [go_sem, ab.v]
   repeat' (first | (refine aj.au ?_ (by rfl); first | rfl | (simp [df, *]; done)) | ((have ct := jn w n (by omega); (first | refine al.at ct ⟨leA, leA, trivial⟩ ?_ | refine ak.at ct ⟨leA, leA, trivial⟩ ?_); clear ct); simp -implicitDefEqProofs -dsimp only [go_sem, *]) | ((first | refine al.at (fa _ _ _) ⟨leA, leA, leA, trivial⟩ ?_ | refine ak.at (fa _ _ _) ⟨leA, leA, leA, trivial⟩ ?_); simp -implicitDefEqProofs -dsimp only [go_sem, *]) | (refine ax.bq (fun _ => ?_) (fun _ => ?_) <;> simp -implicitDefEqProofs -dsimp only [go_sem, *]) | (refine ax.ch (fun _ => ?_) (fun _ => ?_) <;> simp -implicitDefEqProofs -dsimp only [go_sem, *]) | (refine bc.split (fun _ => ?_) (fun _ => ?_) <;> simp -implicitDefEqProofs -dsimp only [go_sem, *]))
 have b1 : (k == 1) = false := by simp [k1]
 have b2 : (k == 2) = false := by simp at k2; simp [k2]
 have b3 : (k == 3) = false := by simp at k2; simp [k2]
 have b4 : (k == 4) = false := by simp [k4]
 have b5 : (k == 5) = false := by simp [k5]
 have b6 : (k == 6) = false := by simp [k6]
 have e : df w k n v = ((k == 7 || k == 8) && decide (0 ≤ iw (dh n) w.Shocks) && v == 0) := by
  rw [df, if_neg k1, if_neg k2, if_neg k4, if_neg k5, if_neg k6]
 rw [e]
 clear e k1 k2 k4 k5 k6
 refine Ctr.intro Tryz.mixed Tryz.func234 rfl Tryz.wj ?_
 simp -implicitDefEqProofs -dsimp only [go_sem, Tryz.ntmps234, Tryz.results234]
 simp -implicitDefEqProofs -dsimp only [go_sem, b1, b2, b3, b4, b5, b6, ab.v]
 repeat' (first | (refine aj.au ?_ (by rfl); first | rfl | (simp [*]; done)) | ((have ct := jn w n (by omega); (first | refine al.at ct ⟨leA, leA, trivial⟩ ?_ | refine ak.at ct ⟨leA, leA, trivial⟩ ?_); clear ct); simp -implicitDefEqProofs -dsimp only [go_sem, *]) | (refine ax.bq (fun _ => ?_) (fun _ => ?_) <;> simp -implicitDefEqProofs -dsimp only [go_sem, *]) | (refine ax.ch (fun _ => ?_) (fun _ => ?_) <;> simp -implicitDefEqProofs -dsimp only [go_sem, *]) | (refine bc.split (fun _ => ?_) (fun _ => ?_) <;> simp -implicitDefEqProofs -dsimp only [go_sem, *]))
theorem alo (w : ab) (k n v : Int) (hp : w.Posts.length ≤ 16777216) (hs : w.Shocks.length ≤ 16777216) : Ctr Tryz.prog 242 [w.v, .agg [.int .i64 k, .int .i64 n, .int .i64 v]] [] (.bool (df w k n v)) [] := by
 by_cases k1 : k = 1
 · subst k1
   refine Ctr.intro Tryz.mixed Tryz.func242 rfl Tryz.wc ?_
   simp -implicitDefEqProofs -dsimp only [go_sem, Tryz.ntmps242, Tryz.results242]
   simp -implicitDefEqProofs -dsimp only [go_sem, ab.v]
   repeat' (first | (refine aj.au ?_ (by rfl); first | rfl | (simp [df, *]; done)) | ((have ct := o5 w n (by omega); (first | refine al.at ct ⟨leA, leA, trivial⟩ ?_ | refine ak.at ct ⟨leA, leA, trivial⟩ ?_); clear ct); simp -implicitDefEqProofs -dsimp only [go_sem, *]) | (refine ax.bq (fun _ => ?_) (fun _ => ?_) <;> simp -implicitDefEqProofs -dsimp only [go_sem, *]) | (refine ax.ch (fun _ => ?_) (fun _ => ?_) <;> simp -implicitDefEqProofs -dsimp only [go_sem, *]) | (refine bc.split (fun _ => ?_) (fun _ => ?_) <;> simp -implicitDefEqProofs -dsimp only [go_sem, *]))
 by_cases k2 : k = 2 ∨ k = 3
 · rcases k2 with k2 | k2
   · subst k2
     refine Ctr.intro Tryz.mixed Tryz.func242 rfl Tryz.wc ?_
     simp -implicitDefEqProofs -dsimp only [go_sem, Tryz.ntmps242, Tryz.results242]
     simp -implicitDefEqProofs -dsimp only [go_sem, ab.v]
     repeat' (first | (refine aj.au ?_ (by rfl); first | rfl | (simp [df, *]; done)) | ((have ct := o5 w n (by omega); (first | refine al.at ct ⟨leA, leA, trivial⟩ ?_ | refine ak.at ct ⟨leA, leA, trivial⟩ ?_); clear ct); simp -implicitDefEqProofs -dsimp only [go_sem, *]) | (refine ax.bq (fun _ => ?_) (fun _ => ?_) <;> simp -implicitDefEqProofs -dsimp only [go_sem, *]) | (refine ax.ch (fun _ => ?_) (fun _ => ?_) <;> simp -implicitDefEqProofs -dsimp only [go_sem, *]) | (refine bc.split (fun _ => ?_) (fun _ => ?_) <;> simp -implicitDefEqProofs -dsimp only [go_sem, *]))
   · subst k2
     refine Ctr.intro Tryz.mixed Tryz.func242 rfl Tryz.wc ?_
     simp -implicitDefEqProofs -dsimp only [go_sem, Tryz.ntmps242, Tryz.results242]
     simp -implicitDefEqProofs -dsimp only [go_sem, ab.v]
     repeat' (first | (refine aj.au ?_ (by rfl); first | rfl | (simp [df, *]; done)) | ((have ct := o5 w n (by omega); (first | refine al.at ct ⟨leA, leA, trivial⟩ ?_ | refine ak.at ct ⟨leA, leA, trivial⟩ ?_); clear ct); simp -implicitDefEqProofs -dsimp only [go_sem, *]) | (refine ax.bq (fun _ => ?_) (fun _ => ?_) <;> simp -implicitDefEqProofs -dsimp only [go_sem, *]) | (refine ax.ch (fun _ => ?_) (fun _ => ?_) <;> simp -implicitDefEqProofs -dsimp only [go_sem, *]) | (refine bc.split (fun _ => ?_) (fun _ => ?_) <;> simp -implicitDefEqProofs -dsimp only [go_sem, *]))
 by_cases k4 : k = 4
 · subst k4
   refine Ctr.intro Tryz.mixed Tryz.func242 rfl Tryz.wc ?_
   simp -implicitDefEqProofs -dsimp only [go_sem, Tryz.ntmps242, Tryz.results242]
   simp -implicitDefEqProofs -dsimp only [go_sem, ab.v]
   repeat' (first | (refine aj.au ?_ (by rfl); first | rfl | (simp [df, *]; done)) | ((have ct := o5 w n (by omega); (first | refine al.at ct ⟨leA, leA, trivial⟩ ?_ | refine ak.at ct ⟨leA, leA, trivial⟩ ?_); clear ct); simp -implicitDefEqProofs -dsimp only [go_sem, *]) | (refine ax.bq (fun _ => ?_) (fun _ => ?_) <;> simp -implicitDefEqProofs -dsimp only [go_sem, *]) | (refine ax.ch (fun _ => ?_) (fun _ => ?_) <;> simp -implicitDefEqProofs -dsimp only [go_sem, *]) | (refine bc.split (fun _ => ?_) (fun _ => ?_) <;> simp -implicitDefEqProofs -dsimp only [go_sem, *]))
 by_cases k5 : k = 5
 · subst k5
   refine Ctr.intro Tryz.mixed Tryz.func242 rfl Tryz.wc ?_
   simp -implicitDefEqProofs -dsimp only [go_sem, Tryz.ntmps242, Tryz.results242]
   simp -implicitDefEqProofs -dsimp only [go_sem, ab.v]
   repeat' (first | (refine aj.au ?_ (by rfl); first | rfl | (simp [df, *]; done)) | ((have ct := je w n (by omega); (first | refine al.at ct ⟨leA, leA, trivial⟩ ?_ | refine ak.at ct ⟨leA, leA, trivial⟩ ?_); clear ct); simp -implicitDefEqProofs -dsimp only [go_sem, *]) | ((first | refine al.at (l5 _) ⟨leA, trivial⟩ ?_ | refine ak.at (l5 _) ⟨leA, trivial⟩ ?_); simp -implicitDefEqProofs -dsimp only [go_sem, *]) | (refine ax.bq (fun _ => ?_) (fun _ => ?_) <;> simp -implicitDefEqProofs -dsimp only [go_sem, *]) | (refine ax.ch (fun _ => ?_) (fun _ => ?_) <;> simp -implicitDefEqProofs -dsimp only [go_sem, *]) | (refine bc.split (fun _ => ?_) (fun _ => ?_) <;> simp -implicitDefEqProofs -dsimp only [go_sem, *]))
 by_cases k6 : k = 6
 · subst k6
   refine Ctr.intro Tryz.mixed Tryz.func242 rfl Tryz.wc ?_
   simp -implicitDefEqProofs -dsimp only [go_sem, Tryz.ntmps242, Tryz.results242]
   simp -implicitDefEqProofs -dsimp only [go_sem, ab.v]
   repeat' (first | (refine aj.au ?_ (by rfl); first | rfl | (simp [df, *]; done)) | ((have ct := je w n (by omega); (first | refine al.at ct ⟨leA, leA, trivial⟩ ?_ | refine ak.at ct ⟨leA, leA, trivial⟩ ?_); clear ct); simp -implicitDefEqProofs -dsimp only [go_sem, *]) | ((first | refine al.at (jt _ _ _) ⟨leA, leA, leA, trivial⟩ ?_ | refine ak.at (jt _ _ _) ⟨leA, leA, leA, trivial⟩ ?_); simp -implicitDefEqProofs -dsimp only [go_sem, *]) | (refine ax.bq (fun _ => ?_) (fun _ => ?_) <;> simp -implicitDefEqProofs -dsimp only [go_sem, *]) | (refine ax.ch (fun _ => ?_) (fun _ => ?_) <;> simp -implicitDefEqProofs -dsimp only [go_sem, *]) | (refine bc.split (fun _ => ?_) (fun _ => ?_) <;> simp -implicitDefEqProofs -dsimp only [go_sem, *]))
 have b1 : (k == 1) = false := by simp [k1]
 have b2 : (k == 2) = false := by simp at k2; simp [k2]
 have b3 : (k == 3) = false := by simp at k2; simp [k2]
 have b4 : (k == 4) = false := by simp [k4]
 have b5 : (k == 5) = false := by simp [k5]
 have b6 : (k == 6) = false := by simp [k6]
 have e : df w k n v = (ed k 7 8 && decide (0 ≤ iw (dh n) w.Shocks) && v == 0) := by
  rw [df, if_neg k1, if_neg k2, if_neg k4, if_neg k5, if_neg k6]
  congr 2
  rw [Bool.eq_iff_iff]; simp [ed]; omega
 rw [e]
 clear e k1 k2 k4 k5 k6
 refine Ctr.intro Tryz.mixed Tryz.func242 rfl Tryz.wc ?_
 simp -implicitDefEqProofs -dsimp only [go_sem, Tryz.ntmps242, Tryz.results242]
 simp -implicitDefEqProofs -dsimp only [go_sem, b1, b2, b3, b4, b5, b6, ab.v]
 repeat' (first | (refine aj.au ?_ (by rfl); first | rfl | (simp [*]; done)) | ((first | refine al.at (jt _ _ _) ⟨leA, leA, leA, trivial⟩ ?_ | refine ak.at (jt _ _ _) ⟨leA, leA, leA, trivial⟩ ?_); simp -implicitDefEqProofs -dsimp only [go_sem, *]) | ((have ct := je w n (by omega); (first | refine al.at ct ⟨leA, leA, trivial⟩ ?_ | refine ak.at ct ⟨leA, leA, trivial⟩ ?_); clear ct); simp -implicitDefEqProofs -dsimp only [go_sem, *]) | (refine ax.bq (fun _ => ?_) (fun _ => ?_) <;> simp -implicitDefEqProofs -dsimp only [go_sem, *]) | (refine ax.ch (fun _ => ?_) (fun _ => ?_) <;> simp -implicitDefEqProofs -dsimp only [go_sem, *]) | (refine bc.split (fun _ => ?_) (fun _ => ?_) <;> simp -implicitDefEqProofs -dsimp only [go_sem, *]))
theorem ic (w : ab) (hp : w.Posts.length ≤ 16777216) (hs : w.Shocks.length ≤ 16777216) : Ctr Tryz.prog 152 [w.v] [] (w.o 0 1) [some (rows ay.cs w.Posts), some (rows ai.cs w.Shocks)] := by
 refine Ctr.intro Tryz.mixed Tryz.func152 rfl Tryz.axx ?_
 simp -implicitDefEqProofs -dsimp only [go_sem, Tryz.ntmps152, Tryz.results152]
 simp -implicitDefEqProofs -dsimp only [go_sem, ab.v]
 refine chT.intro [true, true, false, true, true, false, false, true, true, false, true, true, true, true, false, false] [true, true, true, true, true, true, true, true, true, true, true, true, true, true, false, false] [none, none, some ⟨none, 5, 51, []⟩, none, none, some ⟨some 2, 8, 51, [7]⟩, some ⟨none, 9, 52, []⟩, none, none, some ⟨some 6, 12, 52, [11]⟩, none, none, none, none, none, none] [⟨5, 8, 51, [7]⟩, ⟨9, 12, 52, [11]⟩] (by kernel_rfl) (by rfl) ?_
 simp -implicitDefEqProofs -dsimp only [go_sem]
 repeat (with_reducible refine ah ?_)
 refine ⟨⟨by omega, by omega, kp _ _⟩, a8 _, ⟨by omega, by omega, kp _ _⟩, ?_⟩
 refine aj.pick [2, 3] (by decide) (fun j hj => by omega) (.inl ?_) ?_
 · first | rfl | (simp [ren, bf, posOf, ab.o]; done)
 · simp only [bb, List.map_cons, List.map_nil, bj, List.getElem?_cons_zero, List.getElem?_cons_succ, ae]
theorem afi (n t : Int) (x : ai) (k m v : Int) (hx : j9 n t x = true) (hk : k = 5 ∨ k = 6 ∨ k = 7) (hv : -100 ≤ v ∧ v ≤ 100) : Ctr Tryz.prog 268 [x.v, .agg [.int .i64 k, .int .i64 m, .int .i64 v]] [] (.tup [(uo x k v).v, .bool (yf x k)]) [] := by
 have hb := gj.1 hx
 have hw : IntKind.i64.wrap (x.Size + v) = x.Size + v := wrap_i64 (by omega) (by omega)
 rcases hk with hk | hk | hk
 · subst hk
   refine Ctr.intro Tryz.mixed Tryz.func268 rfl Tryz.ah7 ?_
   simp -implicitDefEqProofs -dsimp only [go_sem, Tryz.ntmps268, Tryz.results268]
   (repeat ((repeat1' (first | simp -implicitDefEqProofs -dsimp only [go_sem, ai.v, hw] | simp -dsimp (disch := omega) only [wrap_i64])); repeat (with_reducible refine ah ?_)))
   refine n8.path [true, true, true, true, true, true, true, true, true, false, false] [false, false, false, false, false, true, true, true, true, false, false] 1 [2] (by kernel_rfl) ?_
   (repeat ((repeat1' (first | simp -implicitDefEqProofs -dsimp only [go_sem, ai.v, hw] | simp -dsimp (disch := omega) only [wrap_i64])); repeat (with_reducible refine ah ?_)))
   repeat' (first | (refine aj.au ?_ (by rfl); first | rfl | (simp [uo, yf, ai.v, *]; done)) | (refine ax.bq (fun _ => ?_) (fun _ => ?_) <;> (repeat ((repeat1' (first | simp -implicitDefEqProofs -dsimp only [go_sem, *] | simp -dsimp (disch := omega) only [wrap_i64])); repeat (with_reducible refine ah ?_)))) | (refine ax.ch (fun _ => ?_) (fun _ => ?_) <;> (repeat ((repeat1' (first | simp -implicitDefEqProofs -dsimp only [go_sem, *] | simp -dsimp (disch := omega) only [wrap_i64])); repeat (with_reducible refine ah ?_)))))
 · subst hk
   refine Ctr.intro Tryz.mixed Tryz.func268 rfl Tryz.ah7 ?_
   simp -implicitDefEqProofs -dsimp only [go_sem, Tryz.ntmps268, Tryz.results268]
   (repeat ((repeat1' (first | simp -implicitDefEqProofs -dsimp only [go_sem, ai.v, hw] | simp -dsimp (disch := omega) only [wrap_i64])); repeat (with_reducible refine ah ?_)))
   refine n8.path [true, true, true, true, false, false] [false, true, true, true, false, false] 1 [2] (by kernel_rfl) ?_
   (repeat ((repeat1' (first | simp -implicitDefEqProofs -dsimp only [go_sem, ai.v, hw] | simp -dsimp (disch := omega) only [wrap_i64])); repeat (with_reducible refine ah ?_)))
   repeat' (first | (refine aj.au ?_ (by rfl); first | rfl | (simp [uo, yf, ai.v, *]; done)) | (refine ax.bq (fun _ => ?_) (fun _ => ?_) <;> (repeat ((repeat1' (first | simp -implicitDefEqProofs -dsimp only [go_sem, *] | simp -dsimp (disch := omega) only [wrap_i64])); repeat (with_reducible refine ah ?_)))) | (refine ax.ch (fun _ => ?_) (fun _ => ?_) <;> (repeat ((repeat1' (first | simp -implicitDefEqProofs -dsimp only [go_sem, *] | simp -dsimp (disch := omega) only [wrap_i64])); repeat (with_reducible refine ah ?_)))))
 · subst hk
   refine Ctr.intro Tryz.mixed Tryz.func268 rfl Tryz.ah7 ?_
   simp -implicitDefEqProofs -dsimp only [go_sem, Tryz.ntmps268, Tryz.results268]
   (repeat ((repeat1' (first | simp -implicitDefEqProofs -dsimp only [go_sem, ai.v, hw] | simp -dsimp (disch := omega) only [wrap_i64])); repeat (with_reducible refine ah ?_)))
   refine n8.path [true, true, true, true, true, true, true, true, true, true, true, true, true, true, false, false] [false, false, false, false, false, false, false, false, false, true, true, true, true, true, false, false] 1 [2] (by kernel_rfl) ?_
   (repeat ((repeat1' (first | simp -implicitDefEqProofs -dsimp only [go_sem, ai.v, hw] | simp -dsimp (disch := omega) only [wrap_i64])); repeat (with_reducible refine ah ?_)))
   repeat' (first | (refine aj.au ?_ (by rfl); first | rfl | (simp [uo, yf, ai.v, *]; done)) | (refine ax.bq (fun _ => ?_) (fun _ => ?_) <;> (repeat ((repeat1' (first | simp -implicitDefEqProofs -dsimp only [go_sem, *] | simp -dsimp (disch := omega) only [wrap_i64])); repeat (with_reducible refine ah ?_)))) | (refine ax.ch (fun _ => ?_) (fun _ => ?_) <;> (repeat ((repeat1' (first | simp -implicitDefEqProofs -dsimp only [go_sem, *] | simp -dsimp (disch := omega) only [wrap_i64])); repeat (with_reducible refine ah ?_)))))
theorem an3 (w : ab) (hp : w.Posts.length ≤ 16777216) : Ctr Tryz.prog 266 [w.v] [] (.int .i64 (upN w w.Posts.length : Int)) [] := by
 have hlen : ∀ i, upN w i ≤ i := fun i => Nat.le_trans (List.length_filter_le _ _) (by simp; omega)
 refine Ctr.intro Tryz.mixed Tryz.func266 rfl Tryz.avy ?_
 simp -implicitDefEqProofs -dsimp only [go_sem, Tryz.ntmps266, Tryz.results266]
 simp -implicitDefEqProofs -dsimp only [go_sem, ab.v]
 refine de.intro (fun i : Nat => i ≤ w.Posts.length) (fun i => ⟨[.undef, .ptr 0 0, .undef, .int .i64 (upN w i : Int), .int .i64 i, .undef, .undef, .undef, .undef, .undef, .undef, .undef, .undef, .undef, .undef, .undef, .undef, .undef, .undef, .undef, .undef], [some w.cs], 0⟩) (fun i => w.Posts.length - i) 0 (Nat.zero_le _) ?_ (fun i hi => ?_)
 · refine bt.cut (1) (by simp) (by simp) ?_ ?_
   · simp [LeC, LeV, ren, br, upN]
   · simp [cd, dd, ren, ae, ab.cs]
 simp -implicitDefEqProofs -dsimp only [go_sem, ab.cs]
 refine bc.split (fun h1 => ?_) (fun h1 => ?_)
 · simp -implicitDefEqProofs -dsimp only [go_sem, h1, ab.cs]
   have hi' : i < w.Posts.length := by simpa using h1
   have hr := bu ay.csl hi'
   have hll := hlen i
   have hs : upN w (i + 1) = upN w i + (if w.Posts[i].Up then 1 else 0) := by
    rw [upN, upN, List.take_succ_eq_append_getElem hi', List.filter_append, List.length_append]
    congr 1
    cases h : w.Posts[i].Up <;> simp [h]
   (repeat ((repeat1' (first | simp -implicitDefEqProofs -dsimp only [go_sem, hr, ay.cs, ab.cs] | simp -dsimp (disch := omega) only [wrap_i64])); repeat (with_reducible refine ah ?_)))
   refine bc.split (fun h2 => ?_) (fun h2 => ?_) <;> (repeat ((repeat1' (first | simp -implicitDefEqProofs -dsimp only [go_sem, h2] | simp -dsimp (disch := omega) only [wrap_i64])); repeat (with_reducible refine ah ?_)))
   · refine ⟨i + 1, hi', ?_, by omega⟩
     rw [hs, h2]
     refine bt.cut (1) (by simp) (by simp) ?_ ?_
     · simp [LeC, LeV, ren, br]
     · simp [cd, dd, ren, ae, ab.cs]
   · refine ⟨i + 1, hi', ?_, by omega⟩
     rw [hs, h2]
     refine bt.cut (1) (by simp) (by simp) ?_ ?_
     · simp [LeC, LeV, ren, br]
     · simp [cd, dd, ren, ae, ab.cs]
 · simp -implicitDefEqProofs -dsimp only [go_sem, h1]
   have hi' : i = w.Posts.length := by simp at h1; omega
   subst hi'
   exact aj.au rfl (by rfl)
end Go.Proofs
end
section
set_option maxRecDepth 100000
set_option maxHeartbeats 1000000
namespace Go.Proofs
open Go.Lv
def im (w : ab) (i : Nat) : ab := ⟨w.Now, w.Posts, w.Shocks.take i ++ w.Shocks.drop (i + 1), w.Next, w.Archived + 1⟩
theorem acy (w : ab) (i : Nat) (hw : wB w = true) (hi : i < w.Shocks.length) : Ctr Tryz.prog 267 [w.v, .int .i64 i] [] (.tup [(im w i).o 0 1, .bool (abi w (aid w i))]) [some (rows ay.cs w.Posts), some (rows ai.cs (w.Shocks.take i ++ w.Shocks.drop (i + 1)))] := by
 have W := dt hw
 have hr := bu ai.csl hi
 have pl := W.plen
 have sl := W.slen
 refine Ctr.intro Tryz.mixed Tryz.func267 rfl Tryz.awu ?_
 simp -implicitDefEqProofs -dsimp only [go_sem, Tryz.ntmps267, Tryz.results267]
 simp -implicitDefEqProofs -dsimp only [go_sem, ab.v]
 refine n8.path [true, true, true, true, true, true, true, true, true, false, false] [false, false, true, true, true, true, true, false, false, false, false] 1 [4] (by kernel_rfl) ?_
 simp -implicitDefEqProofs -dsimp only [go_sem]
 (have ct := ic w (by omega) (by omega); (first | refine al.at ct ⟨leA, trivial⟩ ?_ | refine ak.at ct ⟨leA, trivial⟩ ?_); clear ct)
 (repeat ((repeat1' (first | simp -implicitDefEqProofs -dsimp only [go_sem, ab.o, hr, ai.cs] | simp -dsimp (disch := omega) only [wrap_i64])); repeat (with_reducible refine ah ?_)))
 refine chT.intro [false, true, true, true, true, false, true, true, true, true, true, false, true, false] [true, true, true, true, true, true, true, true, true, true, true, true, true, false] [some ⟨none, 15, 52, []⟩, none, none, none, none, some ⟨some 0, 20, 52, [19]⟩, none, none, none, none, none, some ⟨some 5, 26, 52, [19, 25]⟩, none, none] [⟨11, 26, 52, [19, 25]⟩] (by kernel_rfl) (by rfl) ?_
 have hwi : IntKind.i64.wrap ((i : Int) + 1) = ((i + 1 : Nat) : Int) := by rw [wrap_i64 (by omega) (by omega)]; omega
 have ht := adn ai.csl w.Shocks i
 have hd := yi ai.csl w.Shocks (i + 1)
 have hap : rows ai.cs (w.Shocks.take i) ++ rows ai.cs (w.Shocks.drop (i + 1)) = rows ai.cs (w.Shocks.take i ++ w.Shocks.drop (i + 1)) := (c8 _ _).symm
 have hln : i + (w.Shocks.length - (i + 1)) = (w.Shocks.take i ++ w.Shocks.drop (i + 1)).length := by simp; omega
 (repeat ((repeat1' (first | simp -implicitDefEqProofs -dsimp only [go_sem, hwi, Nat.sub_zero, ht, hd, hap, hln] | simp -dsimp (disch := omega) only [wrap_i64])); repeat (with_reducible refine ah ?_)))
 refine ⟨⟨by omega, by omega, kp _ _⟩, ?_⟩
 have hwa : IntKind.i64.wrap (w.Archived + 1) = w.Archived + 1 := by have := W.arch; exact wrap_i64 (by omega) (by omega)
 refine n8.path [true, true, true, true, true, true, true, true, true, true, true, true, true, true, true, true, true, false, false] [false, false, false, false, false, false, false, false, false, true, true, true, true, true, true, true, true, false, false] 1 [1] (by kernel_rfl) ?_
 (repeat ((repeat1' (first | simp -implicitDefEqProofs -dsimp only [go_sem, hwa] | simp -dsimp (disch := omega) only [wrap_i64])); repeat (with_reducible refine ah ?_)))
 have hx := W.shocks _ (List.getElem_mem hi)
 have hxb := gj.1 hx
 have hwn : IntKind.i64.wrap (w.Now - w.Shocks[i].Tick) = w.Now - w.Shocks[i].Tick := by have := W.now; exact wrap_i64 (by omega) (by omega)
 repeat' (first | (refine ax.bq (fun _ => ?_) (fun _ => ?_) <;> (repeat ((repeat1' (first | simp -implicitDefEqProofs -dsimp only [go_sem, *] | simp -dsimp (disch := omega) only [wrap_i64])); repeat (with_reducible refine ah ?_)))) | (refine ax.ch (fun _ => ?_) (fun _ => ?_) <;> (repeat ((repeat1' (first | simp -implicitDefEqProofs -dsimp only [go_sem, *] | simp -dsimp (disch := omega) only [wrap_i64])); repeat (with_reducible refine ah ?_)))))
 all_goals
  refine aj.pick [2, 6] (by decide) (fun j hj => by omega) (.inl ?_) ?_
  · simp [ren, bf, posOf, im, abi, xi hi, *]
  · simp only [bb, List.map_cons, List.map_nil, bj, List.getElem?_cons_zero, List.getElem?_cons_succ, ae]
end Go.Proofs
end
