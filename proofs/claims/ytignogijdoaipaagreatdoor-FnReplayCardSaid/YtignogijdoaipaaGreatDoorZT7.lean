/-
  A part of the proof: texts put together by a program of the prover. Conditions: none.
-/
import Derived.Test.YtignogijdoaipaaGreatDoorZT4
import Derived.Test.YtignogijdoaipaaGreatDoorZT5
import Derived.Test.YtignogijdoaipaaGreatDoorZT6
import Derived.Lib.AppendIntMem
set_option linter.unusedSimpArgs false
set_option linter.unusedVariables false
section
set_option maxRecDepth 100000
namespace Go.Proofs
open Go.Lv
theorem apx {w : World} {av : Nat → Prop} (h : GL w av) : Lib.TabIs Tryz.prog w "internal/strconv.uint64pow10" .u64 Lib.pow10Tab := by
 obtain ⟨_, T, fr, h2⟩ := h.1 _ (List.mem_singleton.2 rfl)
 have hg : Tryz.prog.globalNamed "internal/strconv.uint64pow10" = some 5 := by kernel_rfl
 unfold Lib.TabIs World.var?
 rw [hg, Option.bind_some, h2]
 rfl
theorem amb {W : World} (h : Lib.TabIs Tryz.prog W "internal/strconv.uint64pow10" .u64 Lib.pow10Tab) (hv : ∀ p ∈ aho, ¬ False ∧ ∃ C T fr v, W.heap[p.1]? = some (.cells C T fr) ∧ C[0]? = some v ∧ ayb p.2 v) : GL W (fun _ => False) := by
 refine ⟨fun p hp => ?_, hv⟩
 have hp' := List.mem_singleton.1 hp
 subst hp'
 have hg : Tryz.prog.globalNamed "internal/strconv.uint64pow10" = some 5 := by kernel_rfl
 unfold Lib.TabIs World.var? at h
 rw [hg, Option.bind_some] at h
 dsimp only at h ⊢
 split at h
 · rename_i cs T fr hc
   refine ⟨fun h => h, T, fr, ?_⟩
   rw [hc]
   simp only [Option.some.injEq] at h
   subst h
   rfl
 · cases h
theorem oi (n : Int) (hn : bu n) : Ctr Tryz.prog 97 [.int .i64 n] [] (.str (num n)) [] := by
 refine ⟨Tryz.a5q, fun w vs m av hH hav hgl hsz ha => ?_⟩
 obtain ⟨v, rfl⟩ : ∃ v, vs = #[v] := by
  match vs, hsz with
  | ⟨[v]⟩, _ => exact ⟨v, rfl⟩
 have h0 := ha 0 (by simp)
 simp only [List.getElem_cons_zero] at h0
 have hv : v = .int .i64 n := by
  have := tg h0
  simpa using this
 subst hv
 refine (Tryz.strconv_Itoa n hn.1 hn.2 w (apx hgl)).mono ?_
 rintro e w' ⟨rfl, k, os, rfl⟩
 refine ⟨_, m, rfl, ?_, ⟨fun i j ci cj h => by simp at h, fun id cs h => by simp at h, fun id cs h => by simp at h⟩, .str _, fun id cs h => by simp at h⟩
 have hb : ∀ g, g < w.heap.size → (Sort.grow (w.drewN k) os).heap[g]? = w.heap[g]? := fun g hg => Lib.heap_grow_old w k os g hg
 exact ⟨rfl, rfl, rfl, Lib.size_grow w k os, fun g hg _ => hb g hg, fun g hg => Nat.le_of_eq (iw (hb g hg)).symm⟩
theorem sk (n : Int) (hn : bu n) : Ctr Tryz.prog 47 [.int .i64 n] [] (.str (num n)) [] := by
 refine Ctr.intro Tryz.mixed Tryz.func47 rfl Tryz.a32 ?_
 refine ev2 @Tryz.ntmps47 @Tryz.results47 ?_
 (first | refine ak.at (oi n hn) ⟨leA, trivial⟩ ?_ | refine ai.at (oi n hn) ⟨leA, trivial⟩ ?_)
 refine ev0 ?_
 exact aj.au rfl (by rfl)
theorem agl : ∀ (k u : Nat), u < k → u ≤ 9223372036854775807 → Ctr Tryz.prog 49 [.int .i64 u] [] (.str (num u)) [] := by
 intro k
 induction k with
 | zero => intro u h; omega
 | succ k ih =>
  intro u hu hb
  refine Ctr.intro Tryz.mixed Tryz.func49 rfl Tryz.axg ?_
  refine ev2 @Tryz.ntmps49 @Tryz.results49 ?_
  refine aw.split (fun h => absurd h (by simp)) (fun h => ?_)
  refine ev1 @h ?_
  refine aw.split (fun h2 => ?_) (fun h2 => ?_)
  · have hlt : u < 10 := by simp at h2; omega
    refine rn1 @h2 ?_
    have e : ((u : Int) + 1).toNat = u + 1 := by omega
    have e2 : ((#[48, 49, 50, 51, 52, 53, 54, 55, 56, 57] : Array UInt8).size : Int) = 10 := rfl
    rw [e, e2]
    refine ⟨⟨by omega, by omega, by omega⟩, aj.au ?_ (by rfl)⟩
    rw [ai4 hlt, digits]
  · have hge : ¬ u < 10 := by simp at h2; omega
    have t1 : Int.tdiv (u : Int) 10 = ((u / 10 : Nat) : Int) := rfl
    have t2 : Int.tmod (u : Int) 10 = ((u % 10 : Nat) : Int) := rfl
    refine rn3 @h2 @t1 @t2 ?_
    (have ct := ih (u / 10) (by omega) (by omega); (first | refine ak.at ct ⟨leA, trivial⟩ ?_ | refine ai.at ct ⟨leA, trivial⟩ ?_); clear ct)
    have e : (((u % 10 : Nat) : Int) + 1).toNat = u % 10 + 1 := by omega
    have e2 : ((#[48, 49, 50, 51, 52, 53, 54, 55, 56, 57] : Array UInt8).size : Int) = 10 := rfl
    have hs := jn (n := ((u / 10 : Nat) : Int)) (by omega) (by omega)
    have hd : ({ data := #[48, 49, 50, 51, 52, 53, 54, 55, 56, 57] } : ByteArray).extract (u % 10) (u % 10 + 1) = ⟨#[UInt8.ofNat (48 + u % 10)]⟩ := uu (u % 10) (by omega)
    (repeat ((repeat1' (first | simp -implicitDefEqProofs -dsimp only [go_sem, e, e2, hd, cg] | simp -dsimp (disch := omega) only [wrap_i64])); repeat (with_reducible refine df ?_)))
    refine ⟨by simp only [List.size_toArray, List.length_cons, List.length_nil]; omega, aj.au ?_ (by rfl)⟩
    rw [afh hge, uu (u % 10) (by omega)]
theorem fp (n : Int) (h0 : -9223372036854775807 ≤ n) (h1 : n ≤ 9223372036854775807) : Ctr Tryz.prog 49 [.int .i64 n] [] (.str (num n)) [] := by
 rcases Int.lt_or_le n 0 with hn | hn
 · obtain ⟨u, rfl⟩ : ∃ u : Nat, n = -(u : Int) := ⟨n.natAbs, by omega⟩
   refine Ctr.intro Tryz.mixed Tryz.func49 rfl Tryz.axg ?_
   refine ev2 @Tryz.ntmps49 @Tryz.results49 ?_
   refine aw.split (fun h => ?_) (fun h => absurd h (by simp; omega))
   have e : IntKind.i64.wrap (0 - -(u : Int)) = (u : Int) := by rw [wrap_i64 (by omega) (by omega)]; omega
   refine ev2 @h @e ?_
   (have ct := agl (u + 1) u (by omega) (by omega); (first | refine ak.at ct ⟨leA, trivial⟩ ?_ | refine ai.at ct ⟨leA, trivial⟩ ?_); clear ct)
   have hs := jn (n := (u : Int)) (by omega) (by omega)
   simp -implicitDefEqProofs -dsimp only [go_sem, cg]
   refine ⟨by simp; omega, aj.au ?_ (by rfl)⟩
   rw [ave (by omega)]
 · obtain ⟨u, rfl⟩ : ∃ u : Nat, n = u := ⟨n.toNat, by omega⟩
   exact agl (u + 1) u (by omega) (by omega)
end Go.Proofs
end
section
set_option maxRecDepth 100000
set_option maxHeartbeats 1000000
namespace Go.Proofs
open Go.Lv
theorem og {a b : ByteArray} (h : a.data.toList = b.data.toList) : a = b := by
 apply ByteArray.ext
 exact Array.toList_inj.1 h
theorem im (a b : ByteArray) : (a.toList == b.toList) = decide (a = b) := by
 rw [adb, adb, Bool.eq_iff_iff]
 simp only [beq_iff_eq, decide_eq_true_eq]
 exact ⟨fun h => og h, fun h => by rw [h]⟩
theorem j3 (a b : ByteArray) : (a ++ b).data.toList = a.data.toList ++ b.data.toList := by simp [ByteArray.data_append]
theorem dr (s : ByteArray) (a b : Nat) : (s.extract a b).data.toList = (s.data.toList.take b).drop a := by
 rw [ByteArray.data_extract, Array.toList_extract, List.extract_eq_take_drop, List.drop_take]
def idx (c : UInt8) (s : ByteArray) : Int := Lib.indexByte s.data.toList c
def fnd (c : UInt8) (s : ByteArray) : Bool := decide (0 ≤ idx c s)
def bef (c : UInt8) (s : ByteArray) : ByteArray := if 0 ≤ idx c s then s.extract 0 (idx c s).toNat else s
def aft (c : UInt8) (s : ByteArray) : ByteArray := if 0 ≤ idx c s then s.extract ((idx c s).toNat + 1) s.size else ⟨#[]⟩
theorem am7 {c : UInt8} : ∀ {x : List UInt8} (y : List UInt8), (x.all fun b => !(b == c)) = true → Lib.indexByte (x ++ c :: y) c = x.length
 | [], y, _ => by simp [Lib.indexByte]
 | a :: x, y, h => by
  simp only [List.all_cons, Bool.and_eq_true] at h
  have hf : (a == c) = false := by simpa using h.1
  rw [List.cons_append, Lib.indexByte, hf, am7 y h.2]
  have : ((x.length : Int) == -1) = false := by simp
  simp [this]
theorem aoe {c : UInt8} : ∀ {x : List UInt8}, (x.all fun b => !(b == c)) = true → Lib.indexByte x c = -1
 | [], _ => rfl
 | a :: x, h => by
  simp only [List.all_cons, Bool.and_eq_true] at h
  have hf : (a == c) = false := by simpa using h.1
  rw [Lib.indexByte, hf, aoe h.2]
  rfl
theorem anb {c : UInt8} : ∀ {l : List UInt8}, 0 ≤ Lib.indexByte l c → ∃ x y, l = x ++ c :: y ∧ (x.all fun b => !(b == c)) = true
 | [], h => by simp [Lib.indexByte] at h
 | a :: l, h => by
  by_cases e : a = c
  · exact ⟨[], l, by simp [e], rfl⟩
  · have hf : (a == c) = false := by simpa using e
    rw [Lib.indexByte, hf] at h
    by_cases e2 : Lib.indexByte l c = -1
    · simp [e2] at h
    · have hg := Lib.indexByte_ge l c
      obtain ⟨x, y, h1, h2⟩ := anb (l := l) (c := c) (by omega)
      refine ⟨a :: x, y, by rw [h1]; rfl, ?_⟩
      rw [List.all_cons, hf, h2]; rfl
def noB (c : UInt8) (s : ByteArray) : Bool := ec (fun b => !(b == c)) s
theorem rq {c : UInt8} {x y : ByteArray} (h : noB c x = true) : idx c (x ++ (⟨#[c]⟩ ++ y)) = x.size ∧ bef c (x ++ (⟨#[c]⟩ ++ y)) = x ∧ aft c (x ++ (⟨#[c]⟩ ++ y)) = y ∧ fnd c (x ++ (⟨#[c]⟩ ++ y)) = true := by
 have e : (x ++ (⟨#[c]⟩ ++ y)).data.toList = x.data.toList ++ c :: y.data.toList := by rw [j3, j3]; rfl
 have hi : idx c (x ++ (⟨#[c]⟩ ++ y)) = x.size := by
  rw [idx, e, am7 _ h, gi]
 have hp : (0 : Int) ≤ x.size := by omega
 refine ⟨hi, ?_, ?_, ?_⟩
 · rw [bef, hi, if_pos hp]
   apply og
   rw [dr, e, Int.toNat_natCast, List.drop_zero]
   exact List.take_left' (gi x)
 · rw [aft, hi, if_pos hp]
   apply og
   have hl : (x ++ (⟨#[c]⟩ ++ y)).size = (x ++ (⟨#[c]⟩ ++ y)).data.toList.length := rfl
   rw [dr, Int.toNat_natCast, hl, List.take_length, e]
   have e2 : x.data.toList ++ c :: y.data.toList = (x.data.toList ++ [c]) ++ y.data.toList := by simp
   rw [e2]
   exact List.drop_left' (by rw [List.length_append, gi]; rfl)
 · rw [fnd, hi]; exact decide_eq_true hp
theorem ard {c : UInt8} {x : ByteArray} (h : noB c x = true) : idx c x = -1 ∧ bef c x = x ∧ aft c x = ⟨#[]⟩ ∧ fnd c x = false := by
 have hi : idx c x = -1 := aoe h
 refine ⟨hi, ?_, ?_, ?_⟩
 · rw [bef, hi]; rfl
 · rw [aft, hi]; rfl
 · rw [fnd, hi]; rfl
theorem aag {c : UInt8} {s : ByteArray} (h : fnd c s = true) : ∃ x y, s = x ++ (⟨#[c]⟩ ++ y) ∧ noB c x = true := by
 obtain ⟨x, y, h1, h2⟩ := anb (of_decide_eq_true h)
 refine ⟨⟨x.toArray⟩, ⟨y.toArray⟩, ?_, ?_⟩
 · apply og
   rw [j3, j3, h1]
   simp
 · unfold noB ec; simpa using h2
theorem atg (c : UInt8) (s : ByteArray) : -1 ≤ idx c s ∧ idx c s < s.size := by
 refine ⟨Lib.indexByte_ge _ _, ?_⟩
 by_cases h : 0 ≤ idx c s
 · obtain ⟨x, y, e, hx⟩ := aag (c := c) (s := s) (decide_eq_true h)
   rw [e, (rq hx).1]
   simp only [ByteArray.size_append]
   have : (⟨#[c]⟩ : ByteArray).size = 1 := rfl
   omega
 · omega
theorem ui (c : UInt8) (s : ByteArray) : (bef c s).size ≤ s.size := by
 have := atg c s
 unfold bef; split
 · rw [ByteArray.size_extract]; omega
 · exact Nat.le_refl _
theorem ak2 (c : UInt8) (s : ByteArray) : (aft c s).size ≤ s.size := by
 unfold aft; split
 · rw [ByteArray.size_extract]; omega
 · exact Nat.zero_le _
theorem acw (s : ByteArray) (c : UInt8) : Ctr Tryz.prog 141 [.str s, .str ⟨#[c]⟩] [] (.int .i64 (idx c s)) [] := by
 refine ⟨Tryz.a0n, fun w vs m av hH hav hgl hsz ha => ?_⟩
 obtain ⟨v, u, rfl⟩ : ∃ v u, vs = #[v, u] := by
  match vs, hsz with
  | ⟨[v, u]⟩, _ => exact ⟨v, u, rfl⟩
 have h0 := ha 0 (by simp)
 have h1 := ha 1 (by simp)
 simp only [List.getElem_cons_zero, List.getElem_cons_succ] at h0 h1
 obtain rfl : v = .string s := by
  simp at h0; cases h0; rfl
 obtain rfl : u = .string ⟨#[c]⟩ := by
  simp at h1; cases h1; rfl
 refine (Tryz.stringslite_Index_one s c w).mono ?_
 rintro e w' ⟨rfl, rfl⟩
 exact ⟨_, m, rfl, Ext.refl _ _, ⟨fun i j ci cj h => by simp at h, fun id cs h => by simp at h, fun id cs h => by simp at h⟩, .int _ _, fun id cs h => by simp at h⟩
theorem amd (s : ByteArray) (c : UInt8) (hs : s.size ≤ 281474976710656) : Ctr Tryz.prog 161 [.str s, .str ⟨#[c]⟩] [] (.tup [.str (bef c s), .str (aft c s), .bool (fnd c s)]) [] := by
 have hi := atg c s
 refine Ctr.intro Tryz.mixed Tryz.func161 rfl Tryz.a0u ?_
 refine ev2 @Tryz.ntmps161 @Tryz.results161 ?_
 (first | refine ak.at (acw s c) ⟨leA, leA, trivial⟩ ?_ | refine ai.at (acw s c) ⟨leA, leA, trivial⟩ ?_)
 refine ev0 ?_
 refine aw.split (fun h1 => ?_) (fun h1 => ?_) <;> refine ev1 @h1 ?_
 · have h1' := of_decide_eq_true h1
   repeat (with_reducible refine df ?_)
   have e1 : ((#[c] : Array UInt8).size : Int) = 1 := rfl
   have e2 : (idx c s + 1).toNat = (idx c s).toNat + 1 := by omega
   rw [e1, wrap_i64 (by omega) (by omega), e2]
   refine ⟨⟨by omega, by omega⟩, aj.au ?_ (by rfl)⟩
   rw [bef, aft, fnd, if_pos h1', if_pos h1', h1]
 · have h1' := of_decide_eq_false h1
   exact aj.au (by rw [bef, aft, fnd, if_neg h1', if_neg h1', h1]) (by rfl)
theorem aio (s : ByteArray) (c : UInt8) (hs : s.size ≤ 281474976710656) : Ctr Tryz.prog 132 [.str s, .str ⟨#[c]⟩] [] (.tup [.str (bef c s), .str (aft c s), .bool (fnd c s)]) [] := by
 refine Ctr.intro Tryz.mixed Tryz.func132 rfl Tryz.azc ?_
 refine ev2 @Tryz.ntmps132 @Tryz.results132 ?_
 (have ct := amd s c hs; (first | refine ak.at ct ⟨leA, leA, trivial⟩ ?_ | refine ai.at ct ⟨leA, leA, trivial⟩ ?_); clear ct)
 refine ev0 ?_
 exact aj.au rfl (by rfl)
def gu (c : UInt8) (s : ByteArray) : Nat → List ByteArray × Nat
 | 0 => ([], 0)
 | i + 1 => if h : i < s.size then (if (s[i]'h == c) = true then ((gu c s i).1 ++ [s.extract (gu c s i).2 i], i + 1) else gu c s i) else gu c s i
theorem qq {c : UInt8} {s : ByteArray} {i : Nat} (h : i < s.size) (hc : (s[i]'h == c) = true) : gu c s (i + 1) = ((gu c s i).1 ++ [s.extract (gu c s i).2 i], i + 1) := by
 rw [gu, dif_pos h, if_pos hc]
theorem uh {c : UInt8} {s : ByteArray} {i : Nat} (h : i < s.size) (hc : (s[i]'h == c) = false) : gu c s (i + 1) = gu c s i := by
 rw [gu, dif_pos h, if_neg (by simp [hc])]
theorem aex (c : UInt8) (s : ByteArray) : ∀ i, i ≤ s.size → (gu c s i).2 ≤ i ∧ (gu c s i).1.length ≤ i
 | 0, _ => by simp [gu]
 | i + 1, h => by
  have ih := aex c s i (by omega)
  have hi : i < s.size := by omega
  cases hc : (s[i]'hi == c) with
  | true => rw [qq hi hc]; simp; omega
  | false => rw [uh hi hc]; omega
def jv (c : UInt8) (s : ByteArray) : List ByteArray := (gu c s s.size).1 ++ [s.extract (gu c s s.size).2 s.size]
theorem aoq {c : UInt8} {s : ByteArray} {i : Nat} (h : i < s.size) (h0 : po (fun b => !(b == c)) s i = true) (hc : (s[i]'h == c) = true) : idx c s = i := by
 have hl : i < s.data.toList.length := h
 have e : s.data.toList = s.data.toList.take i ++ c :: s.data.toList.drop (i + 1) := by
  have : s.data.toList[i] = c := by rw [nt s h]; simpa using hc
  rw [← this, ← List.drop_eq_getElem_cons hl, List.take_append_drop]
 rw [idx, e, am7 _ h0]
 simp
 omega
theorem ahj (c : UInt8) (s : ByteArray) : ∀ i, i ≤ s.size → (po (fun b => !(b == c)) s i = true → gu c s i = ([], 0)) ∧ (po (fun b => !(b == c)) s i = false → fnd c s = true ∧ ∃ l, (gu c s i).1 = bef c s :: l)
 | 0, _ => ⟨fun _ => rfl, fun h => by simp [po] at h⟩
 | i + 1, h => by
  have hi : i < s.size := by omega
  obtain ⟨h1, h2⟩ := ahj c s i (by omega)
  cases hc : (s[i]'hi == c) with
  | true =>
   rw [qq hi hc, ru hi]
   refine ⟨fun g => by simp [hc] at g, fun _ => ?_⟩
   cases ha : po (fun b => !(b == c)) s i with
   | true =>
    have hx := aoq hi ha hc
    refine ⟨by rw [fnd, hx]; exact decide_eq_true (by omega), [], ?_⟩
    rw [h1 ha, bef, hx, if_pos (by omega)]
    simp
   | false =>
    obtain ⟨g1, l, g2⟩ := h2 ha
    refine ⟨g1, l ++ [s.extract (gu c s i).2 i], ?_⟩
    rw [g2]; rfl
  | false =>
   rw [uh hi hc, ru hi]
   have e : (po (fun b => !(b == c)) s i && !(s[i]'hi == c)) = po (fun b => !(b == c)) s i := by rw [hc]; simp
   rw [e]
   exact ⟨h1, h2⟩
theorem ux (c : UInt8) (s : ByteArray) : ∃ l, jv c s = bef c s :: l ∧ (l = [] ↔ fnd c s = false) := by
 obtain ⟨h1, h2⟩ := ahj c s s.size (Nat.le_refl _)
 rw [xp] at h1 h2
 cases ha : ec (fun b => !(b == c)) s with
 | true =>
  obtain ⟨_, g2, _, g4⟩ := ard (c := c) (x := s) ha
  refine ⟨[], ?_, by simp [g4]⟩
  rw [jv, h1 ha, g2]
  simp
 | false =>
  obtain ⟨g1, l, g2⟩ := h2 ha
  refine ⟨l ++ [s.extract (gu c s s.size).2 s.size], by rw [jv, g2]; rfl, ?_⟩
  rw [g1]
  simp
theorem vm (s : ByteArray) (c : UInt8) (hs : s.size ≤ 16777216) : Ctr Tryz.prog 46 [.str s, .int .u8 c.toNat] [] (.osl 0 0 (jv c s).length 1) [some (rows StringS.cs (jv c s))] := by
 refine Ctr.intro Tryz.mixed Tryz.func46 rfl Tryz.a5x ?_
 refine ev2 @Tryz.ntmps46 @Tryz.results46 ?_
 refine dn.intro (fun i : Nat => i ≤ s.size) (fun i => ⟨(.str s :: .int .u8 c.toNat :: (un 3 (.osl 0 0 (gu c s i).1.length 1 :: .int .i64 (gu c s i).2 :: .int .i64 i :: (un 27 [])))), [some (rows StringS.cs (gu c s i).1)], 0⟩) (fun i => s.size - i) 0 (Nat.zero_le _) ?_ (fun i hi => ?_)
 · refine bo.cut (1) (by simp) (by simp) ?_ ?_
   · simp [LeC, LeV, ren, bh, gu]
   · simp [cb, ck, gu, rows]
 have hbd := aex c s i hi
 refine ev0 ?_
 refine aw.split (fun h1 => ?_) (fun h1 => ?_)
 · refine ev1 @h1 ?_
   have hi' : i < s.size := by simpa using h1
   refine ⟨⟨by omega, hi'⟩, ?_⟩
   have hbb : ((s[i]'hi') == c) = (((s[i]'hi').toNat : Int) == (c.toNat : Int)) := by
    rw [Bool.eq_iff_iff]; simp only [beq_iff_eq]
    constructor
    · intro g; rw [g]
    · intro g; exact UInt8.toNat_inj.1 (by omega)
   refine aw.split (fun h2 => ?_) (fun h2 => ?_) <;> refine ev1 @h2 ?_
   · refine rn3 @ay @bf @Nat.mul_one ?_
     refine ⟨i + 1, hi', ?_, by omega⟩
     refine bo.cut (1) (by simp) (by simp) ?_ ?_
     · rw [qq hi' (by rw [hbb]; exact h2)]
       simp [LeC, LeV, ren, bh]
     · rw [qq hi' (by rw [hbb]; exact h2), ← dy]
       simp [cb, ck, ren, bh, ab, dj, StringS.cs]
   · try refine ew0 ?_
     refine ⟨i + 1, hi', ?_, by omega⟩
     refine bo.cut (1) (by simp) (by simp) ?_ ?_
     · rw [uh hi' (by rw [hbb]; exact h2)]
       simp [LeC, LeV, ren, bh]
     · rw [uh hi' (by rw [hbb]; exact h2)]
       simp [cb, ck, ab]
 · refine ev1 @h1 ?_
   have hi' : i = s.size := by simp at h1; omega
   subst hi'
   refine rn3 @ay @bf @Nat.mul_one ?_
   have hl : (jv c s).length = (gu c s s.size).1.length + 1 := by simp [jv]
   rw [hl]
   refine aj.pick [0] (by decide) (fun j hj => by omega) (.inl ?_) ?_
   · rfl
   · simp only [az, List.map_cons, List.map_nil, bg, List.getElem?_cons_zero, jv, ← dy]
     simp [ren, bb, posOf, ab, StringS.cs, dj]
end Go.Proofs
end
section
set_option maxRecDepth 100000
namespace Go.Proofs
open Go.Lv
structure aq where
 Command : ByteArray
 Reply : ByteArray
def aq.cs (r : aq) : List V := [.str r.Command, .str r.Reply]
def aq.v (r : aq) : V := .agg [.str r.Command, .str r.Reply]
theorem aq.csl (a : aq) : a.cs.length = 2 := rfl
instance : r3 aq.cs 2 := ⟨fun _ => rfl, fun _ d => by cases d <;> rfl, fun _ => rfl, fun _ => rfl⟩
def aq.ok (r : aq) : Prop := ar4 r.Command ∧ ar4 r.Reply
abbrev aq.rows (L : List aq) : List V := Go.Lv.rows aq.cs L
abbrev aq.sl (L : List aq) : V := .sl L.length 2 (Go.Lv.rows aq.cs L)
abbrev aq.zs : List V := [.str ByteArray.empty, .str ByteArray.empty]
end Go.Proofs
end
section
set_option maxRecDepth 100000
set_option maxHeartbeats 1000000
namespace Go.Proofs
open Go.Lv
theorem xe (s : ByteArray) (hs : s.size ≤ 281474976710656) : Ctr Tryz.prog 67 [.str s] [] (.bool (ec ke s)) [] := by
 refine Ctr.intro Tryz.mixed Tryz.func67 rfl Tryz.a39 ?_
 refine ev2 @Tryz.ntmps67 @Tryz.results67 ?_
 refine dn.intro (fun i : Nat => i ≤ s.size ∧ po ke s i = true) (fun i => ⟨(.str s :: (un 4 (.int .i64 s.size :: .int .i64 i :: (un 13 [])))), [], 0⟩) (fun i => s.size - i) 0 ⟨Nat.zero_le _, rfl⟩ ?_ (fun i hi => ?_)
 · refine bo.cut (0) (by simp) (by simp) ?_ ?_
   · simp [LeC, LeV, ren, bh]
   · rfl
 refine ev0 ?_
 refine aw.split (fun h1 => ?_) (fun h1 => ?_)
 · refine ev1 @h1 ?_
   have hi' : i < s.size := by simpa using h1
   refine ⟨⟨by omega, hi'⟩, ?_⟩
   have hb : ke (s[i]'hi') = (decide (32 ≤ ((s[i]'hi').toNat : Int)) && decide (((s[i]'hi').toNat : Int) ≤ 126)) := by rw [ke, Bool.eq_iff_iff]; simp; omega
   refine ax.cu (fun h2 => ?_) (fun h2 => ?_) <;> refine ev1 @h2 ?_
   · refine ⟨⟨by omega, hi'⟩, ?_⟩
     refine aw.split (fun h3 => ?_) (fun h3 => ?_) <;> refine ev1 @h3 ?_
     · have hf : ke (s[i]'hi') = false := by rw [hb]; simp at h3 ⊢; omega
       exact aj.au (by rw [z7 hi' hf]) (by rfl)
     · have hf : ke (s[i]'hi') = true := by rw [hb]; simp at h2 h3 ⊢; omega
       refine ⟨i + 1, ⟨hi', by rw [ru hi', hi.2, hf]; rfl⟩, ?_, by omega⟩
       refine bo.cut (0) (by simp) (by simp) ?_ ?_
       · rw [wrap_i64 (by omega) (by omega)]; simp [LeC, LeV, ren, bh]
       · rfl
   · have hf : ke (s[i]'hi') = false := by rw [hb]; simp at h2 ⊢; omega
     exact aj.au (by rw [z7 hi' hf]) (by rfl)
 · refine ev1 @h1 ?_
   have hi' : i = s.size := by simp at h1; omega
   subst hi'
   exact aj.au (by rw [← xp, hi.2]) (by rfl)
def bp (b : UInt8) : Bool := ke b && !(b == 35)
theorem acs (s : ByteArray) (most : Int) (hs : s.size ≤ 281474976710656) : Ctr Tryz.prog 78 [.str s, .int .i64 most] [] (.bool (ec bp s && decide ((s.size : Int) ≤ most))) [] := by
 refine Ctr.intro Tryz.mixed Tryz.func78 rfl Tryz.a4y ?_
 refine ev2 @Tryz.ntmps78 @Tryz.results78 ?_
 refine dn.intro (fun i : Nat => i ≤ s.size ∧ po bp s i = true) (fun i => ⟨(.str s :: .int .i64 most :: (un 3 (.int .i64 i :: (un 22 [])))), [], 0⟩) (fun i => s.size - i) 0 ⟨Nat.zero_le _, rfl⟩ ?_ (fun i hi => ?_)
 · refine bo.cut (0) (by simp) (by simp) ?_ ?_
   · simp [LeC, LeV, ren, bh]
   · rfl
 refine ev0 ?_
 refine aw.split (fun h1 => ?_) (fun h1 => ?_)
 · refine ev1 @h1 ?_
   have hi' : i < s.size := by simpa using h1
   have hu := UInt8.toNat_lt (s[i]'hi')
   refine ⟨⟨by omega, hi'⟩, ?_⟩
   have hwr : IntKind.i64.wrap ((s[i]'hi').toNat : Int) = ((s[i]'hi').toNat : Int) := wrap_i64 (by omega) (by omega)
   try refine ew1 @hwr ?_
   (first | refine ak.at (ef _ _ _) ⟨leA, leA, leA, trivial⟩ ?_ | refine ai.at (ef _ _ _) ⟨leA, leA, leA, trivial⟩ ?_)
   refine ev0 ?_
   have hb : ke (s[i]'hi') = ep ((s[i]'hi').toNat : Int) 32 126 := by rw [ke, Bool.eq_iff_iff]; simp [ep]; omega
   have h35 : ((s[i]'hi') == 35) = (((s[i]'hi').toNat : Int) == 35) := by
    rw [Bool.eq_iff_iff]; simp only [beq_iff_eq]
    constructor
    · intro g; rw [g]; rfl
    · intro g; exact UInt8.toNat_inj.1 (by show _ = 35; omega)
   refine ax.cu (fun h2 => ?_) (fun h2 => ?_) <;> refine ev1 @h2 ?_
   · refine ⟨⟨by omega, hi'⟩, ?_⟩
     refine aw.split (fun h3 => ?_) (fun h3 => ?_) <;> refine ev1 @h3 ?_
     · have hf : bp (s[i]'hi') = false := by rw [bp, h35, h3]; simp
       exact aj.au (by rw [z7 hi' hf]; rfl) (by rfl)
     · have hf : bp (s[i]'hi') = true := by rw [bp, h35, h3, hb]; simp at h2; simp [h2]
       refine ⟨i + 1, ⟨hi', by rw [ru hi', hi.2, hf]; rfl⟩, ?_, by omega⟩
       refine bo.cut (0) (by simp) (by simp) ?_ ?_
       · rw [wrap_i64 (by omega) (by omega)]; simp [LeC, LeV, ren, bh]
       · rfl
   · have hf : bp (s[i]'hi') = false := by rw [bp, hb]; simp at h2; simp [h2]
     exact aj.au (by rw [z7 hi' hf]; rfl) (by rfl)
 · refine ev1 @h1 ?_
   have hi' : i = s.size := by simp at h1; omega
   subst hi'
   exact aj.au (by rw [← xp, hi.2]; rfl) (by rfl)
theorem ak7 (s : ByteArray) (b : UInt8) (hs : s.size ≤ 281474976710656) : Ctr Tryz.prog 79 [.str s, .int .u8 b.toNat] [] (.bool (!(ec (fun x => !(x == b)) s))) [] := by
 refine Ctr.intro Tryz.mixed Tryz.func79 rfl Tryz.a4v ?_
 refine ev2 @Tryz.ntmps79 @Tryz.results79 ?_
 refine dn.intro (fun i : Nat => i ≤ s.size ∧ po (fun x => !(x == b)) s i = true) (fun i => ⟨(.str s :: .int .u8 b.toNat :: (un 3 (.int .i64 i :: (un 11 [])))), [], 0⟩) (fun i => s.size - i) 0 ⟨Nat.zero_le _, rfl⟩ ?_ (fun i hi => ?_)
 · refine bo.cut (0) (by simp) (by simp) ?_ ?_
   · simp [LeC, LeV, ren, bh]
   · rfl
 refine ev0 ?_
 refine aw.split (fun h1 => ?_) (fun h1 => ?_)
 · refine ev1 @h1 ?_
   have hi' : i < s.size := by simpa using h1
   refine ⟨⟨by omega, hi'⟩, ?_⟩
   have hbb : ((s[i]'hi') == b) = (((s[i]'hi').toNat : Int) == (b.toNat : Int)) := by
    rw [Bool.eq_iff_iff]; simp only [beq_iff_eq]
    constructor
    · intro g; rw [g]
    · intro g; exact UInt8.toNat_inj.1 (by omega)
   refine aw.split (fun h2 => ?_) (fun h2 => ?_) <;> refine ev1 @h2 ?_
   · exact aj.au (by rw [z7 hi' (by simp only [hbb, h2]; rfl)]; rfl) (by rfl)
   · refine ⟨i + 1, ⟨hi', by rw [ru hi', hi.2]; simp only [hbb, h2]; rfl⟩, ?_, by omega⟩
     refine bo.cut (0) (by simp) (by simp) ?_ ?_
     · rw [wrap_i64 (by omega) (by omega)]; simp [LeC, LeV, ren, bh]
     · rfl
 · refine ev1 @h1 ?_
   have hi' : i = s.size := by simp at h1; omega
   subst hi'
   exact aj.au (by rw [← xp, hi.2]; rfl) (by rfl)
theorem xc (s : ByteArray) (c : UInt8) : Ctr Tryz.prog 69 [.str s, .str ⟨#[c]⟩] [] (.bool (decide (0 ≤ Lib.indexByte s.data.toList c))) [] := by
 refine ⟨Tryz.a3p, fun w vs m av hH hav hgl hsz ha => ?_⟩
 obtain ⟨v, u, rfl⟩ : ∃ v u, vs = #[v, u] := by
  match vs, hsz with
  | ⟨[v, u]⟩, _ => exact ⟨v, u, rfl⟩
 have h0 := ha 0 (by simp)
 have h1 := ha 1 (by simp)
 simp only [List.getElem_cons_zero, List.getElem_cons_succ] at h0 h1
 obtain rfl : v = .string s := by
  simp at h0; cases h0; rfl
 obtain rfl : u = .string ⟨#[c]⟩ := by
  simp at h1; cases h1; rfl
 refine (Tryz.strings_Contains_one s c w).mono ?_
 rintro e w' ⟨rfl, rfl⟩
 exact ⟨_, m, rfl, Ext.refl _ _, ⟨fun i j ci cj h => by simp at h, fun id cs h => by simp at h, fun id cs h => by simp at h⟩, .bool _, fun id cs h => by simp at h⟩
theorem aes (s chars : ByteArray) (hs : s.size < 4294967281) (hcs : chars.size < 4294967281) (has : ∀ (j : Nat) b, s.data.toList[j]? = some b → b.toNat < 128) (hac : ∀ (j : Nat) b, chars.data.toList[j]? = some b → b.toNat < 128) :
 Ctr Tryz.prog 68 [.str s, .str chars] [] (.bool (Lib.containsAny s.data.toList chars.data.toList)) [] := by
 refine ⟨Tryz.a5d, fun w vs m av hH hav hgl hsz ha => ?_⟩
 obtain ⟨v, u, rfl⟩ : ∃ v u, vs = #[v, u] := by
  match vs, hsz with
  | ⟨[v, u]⟩, _ => exact ⟨v, u, rfl⟩
 have h0 := ha 0 (by simp)
 have h1 := ha 1 (by simp)
 simp only [List.getElem_cons_zero, List.getElem_cons_succ] at h0 h1
 obtain rfl : v = .string s := by
  simp at h0; cases h0; rfl
 obtain rfl : u = .string chars := by
  simp at h1; cases h1; rfl
 refine (Tryz.strings_ContainsAny_laid s chars w hs hcs has hac).mono ?_
 rintro e w' ⟨rfl, hb⟩
 exact ⟨_, m, rfl, ⟨hb.os, hb.tape, hb.output, hb.size, fun g hg _ => hb.block g hg, fun g hg => Nat.le_of_eq (iw (hb.block g hg)).symm⟩, ⟨fun i j ci cj h => by simp at h, fun id cs h => by simp at h, fun id cs h => by simp at h⟩, .bool _, fun id cs h => by simp at h⟩
def ic (e : aq) : Bool := (decide (1 ≤ e.Command.size) && decide (e.Command.size ≤ 160)) && ec (fun b => bp b && !(b == 64)) e.Command && (decide (e.Reply.size ≤ 200) && ec bp e.Reply)
theorem wj (p q : UInt8 → Bool) (s : ByteArray) : ec (fun b => p b && q b) s = (ec p s && ec q s) := by
 unfold ec
 induction s.data.toList with
 | nil => rfl
 | cons a l ih => simp only [List.all_cons, ih]; cases p a <;> cases q a <;> simp
theorem tn (c : UInt8) : ∀ l : List UInt8, decide (0 ≤ Lib.indexByte l c) = !(l.all fun x => !(x == c))
 | [] => rfl
 | a :: l => by
  have ih := tn c l
  have hg := Lib.indexByte_ge l c
  unfold Lib.indexByte
  rw [List.all_cons]
  by_cases h : a = c
  · simp [h]
  · have hf : (a == c) = false := by simpa using h
    rw [hf]
    simp only [Bool.false_eq_true, if_false, Bool.not_false, Bool.true_and]
    rw [← ih]
    by_cases h1 : Lib.indexByte l c = -1
    · simp [h1]
    · have : (Lib.indexByte l c == -1) = false := by simpa using h1
      rw [this]
      rw [Bool.eq_iff_iff]; simp; omega
theorem vu (chars : List UInt8) : ∀ l : List UInt8, Lib.containsAny l chars = !(l.all fun x => !(chars.contains x))
 | [] => rfl
 | a :: l => by
  have ih := vu chars l
  have hg := Lib.indexAny_ge chars l
  unfold Lib.containsAny at ih ⊢
  unfold Lib.indexAny
  rw [List.all_cons]
  by_cases h : chars.contains a = true
  · simp only [h, if_true, Bool.not_true, Bool.false_and, Bool.not_false]; rfl
  · have hf : chars.contains a = false := by simpa using h
    rw [hf]
    simp only [Bool.false_eq_true, if_false, Bool.not_false, Bool.true_and]
    rw [← ih]
    by_cases h1 : Lib.indexAny l chars = -1
    · simp [h1]
    · have : (Lib.indexAny l chars == -1) = false := by simpa using h1
      rw [this]
      rw [Bool.eq_iff_iff]; simp; omega
end Go.Proofs
end
section
set_option maxRecDepth 100000
set_option maxHeartbeats 1000000
namespace Go.Proofs
open Go.Lv
theorem avw {s : ByteArray} (h : ec ke s = true) : Lib.containsAny s.data.toList (⟨#[35, 64]⟩ : ByteArray).data.toList = !(ec (fun b => !(b == 35) && !(b == 64)) s) := by
 rw [vu]
 congr 2
 funext x
 show (!(List.contains [35, 64] x)) = _
 simp only [List.contains_cons, List.contains_nil, Bool.or_false, Bool.not_or]
theorem ai0 (s : ByteArray) : ec (fun b => bp b && !(b == 64)) s = (ec ke s && ec (fun b => !(b == 35) && !(b == 64)) s) := by
 rw [← wj]
 congr 1
 funext b
 exact Bool.and_assoc _ _ _
theorem agi (s : ByteArray) : ec bp s = (ec ke s && ec (fun b => !(b == 35)) s) := wj ke _ s
theorem atl {s : ByteArray} (h : ec ke s = true) : ∀ (j : Nat) b, s.data.toList[j]? = some b → b.toNat < 128 := by
 intro j b hb
 have := List.all_eq_true.1 h b (List.mem_of_getElem? hb)
 simp [ke] at this; omega
theorem apd : ∀ (j : Nat) b, (⟨#[35, 64]⟩ : ByteArray).data.toList[j]? = some b → b.toNat < 128 := by
 intro j b hb
 have := List.mem_of_getElem? hb
 simp at this
 rcases this with rfl | rfl <;> decide
theorem an1 (s : ByteArray) : (!(s.toList == (⟨#[]⟩ : ByteArray).toList)) = decide (1 ≤ s.size) := by
 rw [adb, adb, ← gi]
 cases s.data.toList with
 | nil => rfl
 | cons a l => simp
theorem nn (e : aq) (hc : e.Command.size ≤ 281474976710656) (hr : e.Reply.size ≤ 281474976710656) : Ctr Tryz.prog 34 [e.v] [] (.bool (ic e)) [] := by
 refine Ctr.intro Tryz.mixed Tryz.func34 rfl Tryz.a7t ?_
 refine ev2 @Tryz.ntmps34 @Tryz.results34 ?_
 refine ev1 @aq.v.eq_1 ?_
 (first | refine ak.at (j4 _ _ _) ⟨leA, leA, leA, trivial⟩ ?_ | refine ai.at (j4 _ _ _) ⟨leA, leA, leA, trivial⟩ ?_)
 refine ev0 ?_
 refine ax.bz (fun g1 => ?_) (fun g1 => ?_) <;> refine ev1 @g1 ?_
 rotate_left
 · refine aj.au ?_ (by rfl)
   simp [ep] at g1
   simp [ic]; omega
 have hs := gg.1 g1
 have b1 : decide (1 ≤ e.Command.size) = true := decide_eq_true (by omega)
 have b2 : decide (e.Command.size ≤ 160) = true := decide_eq_true (by omega)
 (have ct := xe e.Command hc; (first | refine ak.at ct ⟨leA, trivial⟩ ?_ | refine ai.at ct ⟨leA, trivial⟩ ?_); clear ct)
 refine ev0 ?_
 refine ax.bz (fun g2 => ?_) (fun g2 => ?_) <;> refine ev1 @g2 ?_
 rotate_left
 · refine aj.au ?_ (by rfl)
   simp [ic, ai0, g2]
 (have ct := aes e.Command ⟨#[35, 64]⟩ (by omega) (by decide) (atl g2) apd; (first | refine ak.at ct ⟨leA, leA, trivial⟩ ?_ | refine ai.at ct ⟨leA, leA, trivial⟩ ?_); clear ct)
 simp -implicitDefEqProofs -dsimp only [go_sem, avw g2, Bool.not_not]
 refine ax.bz (fun g3 => ?_) (fun g3 => ?_) <;> refine ev1 @g3 ?_
 rotate_left
 · refine aj.au ?_ (by rfl)
   simp [ic, ai0, g2, g3]
 refine ax.bz (fun g4 => ?_) (fun g4 => ?_) <;> refine ev1 @g4 ?_
 rotate_left
 · refine aj.au ?_ (by rfl)
   have : decide (e.Reply.size ≤ 200) = false := by simp at g4 ⊢; omega
   simp only [ic, this, Bool.false_and, Bool.and_false]
 have b3 : decide (e.Reply.size ≤ 200) = true := by simp at g4 ⊢; omega
 (have ct := xe e.Reply hr; (first | refine ak.at ct ⟨leA, trivial⟩ ?_ | refine ai.at ct ⟨leA, trivial⟩ ?_); clear ct)
 refine ev0 ?_
 refine ax.bz (fun g5 => ?_) (fun g5 => ?_) <;> refine ev1 @g5 ?_
 rotate_left
 · refine aj.au ?_ (by rfl)
   simp [ic, agi, g5]
 (have ct := xc e.Reply 35; (first | refine ak.at ct ⟨leA, leA, trivial⟩ ?_ | refine ai.at ct ⟨leA, leA, trivial⟩ ?_); clear ct)
 refine ev1 @tn ?_
 refine aj.au ?_ (by rfl)
 simp only [ic, ai0, agi, g2, g3, g5, b1, b2, b3, Bool.and_true, Bool.true_and, Bool.not_not]
 rfl
theorem vb (e : aq) (hc : e.Command.size ≤ 281474976710656) (hr : e.Reply.size ≤ 281474976710656) : Ctr Tryz.prog 39 [e.v] [] (.bool (ic e)) [] := by
 refine Ctr.intro Tryz.mixed Tryz.func39 rfl Tryz.a3r ?_
 refine ev2 @Tryz.ntmps39 @Tryz.results39 ?_
 refine ev2 @aq.v.eq_1 @an1 ?_
 refine ax.bz (fun g1 => ?_) (fun g1 => ?_) <;> refine ev2 @g1 @an1 ?_
 rotate_left
 · refine aj.au ?_ (by rfl)
   simp only [ic, g1, Bool.false_and]
 (have ct := acs e.Command 160 hc; (first | refine ak.at ct ⟨leA, leA, trivial⟩ ?_ | refine ai.at ct ⟨leA, leA, trivial⟩ ?_); clear ct)
 refine ev0 ?_
 refine ax.bz (fun g2 => ?_) (fun g2 => ?_) <;> refine ev2 @g2 @an1 ?_
 rotate_left
 · refine aj.au ?_ (by rfl)
   have : ec (fun b => bp b && !(b == 64)) e.Command = (ec bp e.Command && ec (fun b => !(b == 64)) e.Command) := wj _ _ _
   simp only [ic, this]
   by_cases k : e.Command.size ≤ 160
   · have : ec bp e.Command = false := by
      cases q : ec bp e.Command with
      | false => rfl
      | true => rw [q] at g2; simp at g2; omega
     simp [this]
   · simp [k]
 have g2' : ec bp e.Command = true ∧ e.Command.size ≤ 160 := by simp at g2; exact ⟨g2.1, by omega⟩
 (have ct := ak7 e.Command 64 hc; (first | refine ak.at ct ⟨leA, leA, trivial⟩ ?_ | refine ai.at ct ⟨leA, leA, trivial⟩ ?_); clear ct)
 refine ev1 @Bool.not_not ?_
 refine ax.bz (fun g3 => ?_) (fun g3 => ?_) <;> refine ev2 @g3 @an1 ?_
 rotate_left
 · refine aj.au ?_ (by rfl)
   have : ec (fun b => bp b && !(b == 64)) e.Command = (ec bp e.Command && ec (fun b => !(b == 64)) e.Command) := wj _ _ _
   simp only [ic, this, g3, Bool.and_false, Bool.false_and]
 (have ct := acs e.Reply 200 hr; (first | refine ak.at ct ⟨leA, leA, trivial⟩ ?_ | refine ai.at ct ⟨leA, leA, trivial⟩ ?_); clear ct)
 refine ev0 ?_
 refine aj.au ?_ (by rfl)
 have h4 : ec (fun b => bp b && !(b == 64)) e.Command = (ec bp e.Command && ec (fun b => !(b == 64)) e.Command) := wj _ _ _
 simp only [ic, h4, g3, g2'.1, g1, decide_eq_true g2'.2, Bool.and_true, Bool.true_and]
 congr 1
 have h6 : decide ((e.Reply.size : Int) ≤ 200) = decide (e.Reply.size ≤ 200) := by rw [Bool.eq_iff_iff]; simp; omega
 rw [h6, Bool.and_comm]
end Go.Proofs
end
section
set_option maxRecDepth 100000
set_option maxHeartbeats 1000000
namespace Go.Proofs
open Go.Lv
theorem zn (p : UInt8 → Bool) (a b : ByteArray) : ec p (a ++ b) = (ec p a && ec p b) := by
 simp [ec, ByteArray.data_append]
theorem ag4 : ∀ (n u : Nat), u < n → ec (fun b => !(b == 35)) (num u) = true
 | 0, u, h => by omega
 | n + 1, u, h => by
  have one : ∀ d, d < 10 → ec (fun b => !(b == 35)) (digits.extract d (d + 1)) = true := by
   intro d hd
   rw [uu d hd]
   match d, hd with
   | 0, _ => decide
   | 1, _ => decide
   | 2, _ => decide
   | 3, _ => decide
   | 4, _ => decide
   | 5, _ => decide
   | 6, _ => decide
   | 7, _ => decide
   | 8, _ => decide
   | 9, _ => decide
  by_cases c : u < 10
  · rw [ai4 c]; exact one u c
  · rw [afh c, zn, ag4 n (u / 10) (by omega), one (u % 10) (by omega)]; rfl
def ad8 (h : Int) (b : UInt8) : Int := (41 * h + b.toNat + 1) % 999979
def qw (s : ByteArray) (i : Nat) : Int := (s.data.toList.take i).foldl ad8 7
def ckS (s : ByteArray) : Int := qw s s.size
theorem abc {s : ByteArray} {i : Nat} (h : i < s.size) : qw s (i + 1) = ad8 (qw s i) (s[i]'h) := by
 have hl : i < s.data.toList.length := h
 rw [qw, List.take_succ_eq_append_getElem hl, List.foldl_append, ← nt s h]; rfl
theorem aiw (s : ByteArray) : ∀ i, i ≤ s.size → 0 ≤ qw s i ∧ qw s i < 999979
 | 0, _ => by simp [qw]
 | i + 1, h => by
  rw [abc (by omega : i < s.size), ad8]
  omega
theorem ah0 (s : ByteArray) : 0 ≤ ckS s ∧ ckS s < 999979 := aiw s s.size (Nat.le_refl _)
theorem ant {h : Int} {b : UInt8} (h0 : 0 ≤ h) : (41 * h + b.toNat + 1).tmod 999979 = ad8 h b := by
 rw [ad8, Int.tmod_eq_emod_of_nonneg (by omega)]
theorem aj6 (s : ByteArray) (hs : s.size ≤ 4000) : Ctr Tryz.prog 154 [.str s] [] (.tup [.int .i64 (ckS s), .bool true]) [] := by
 refine Ctr.intro Tryz.mixed Tryz.func154 rfl Tryz.ax4 ?_
 refine ev2 @Tryz.ntmps154 @Tryz.results154 ?_
 have c0 : decide ((4000 : Int) < s.size) = false := decide_eq_false (by omega)
 refine ev1 @c0 ?_
 refine dn.intro (fun i : Nat => i ≤ s.size) (fun i => ⟨(.str s :: (un 3 (.int .i64 (qw s i) :: (un 5 (.int .i64 s.size :: .int .i64 i :: (un 13 [])))))), [], 0⟩) (fun i => s.size - i) 0 (Nat.zero_le _) ?_ (fun i hi => ?_)
 · refine bo.cut (0) (by simp) (by simp) ?_ ?_
   · simp [LeC, LeV, ren, bh, qw]
   · rfl
 refine ev0 ?_
 refine aw.split (fun h1 => ?_) (fun h1 => ?_)
 · refine ev1 @h1 ?_
   have hi' : i < s.size := by simpa using h1
   have hu := UInt8.toNat_lt (s[i]'hi')
   have hbd := aiw s i hi
   have hw1 : IntKind.i64.wrap ((s[i]'hi').toNat : Int) = ((s[i]'hi').toNat : Int) := wrap_i64 (by omega) (by omega)
   have hw2 : IntKind.i64.wrap (41 * qw s i) = 41 * qw s i := wrap_i64 (by omega) (by omega)
   have hw3 : IntKind.i64.wrap (41 * qw s i + ((s[i]'hi').toNat : Int)) = 41 * qw s i + ((s[i]'hi').toNat : Int) := wrap_i64 (by omega) (by omega)
   have hw4 : IntKind.i64.wrap (41 * qw s i + ((s[i]'hi').toNat : Int) + 1) = 41 * qw s i + ((s[i]'hi').toNat : Int) + 1 := wrap_i64 (by omega) (by omega)
   have hq := ant (b := s[i]'hi') hbd.1
   refine ⟨⟨by omega, hi'⟩, ?_⟩
   try refine ew5 @hw1 @hw2 @hw3 @hw4 @hq ?_
   repeat (with_reducible refine And.intro ?_ ?_; focus (first | omega | with_reducible rfl | (show cc _ = true; kernel_rfl) | (simp only [ay, bf, List.length_append, List.length_cons, List.length_nil, List.all_append, List.all_cons, List.all_nil, ch, Nat.mul_one, Nat.one_mul, Bool.and_self]; first | done | omega) | (simp only [ByteArray.size_append, cg, List.size_toArray, List.length_cons, List.length_nil]; omega)))
   refine ⟨i + 1, hi', ?_, by omega⟩
   refine bo.cut (0) (by simp) (by simp) ?_ ?_
   · rw [abc hi']
     try rw [wrap_i64 (by omega) (by omega)]
     simp [LeC, LeV, ren, bh]
   · rfl
 · refine ev1 @h1 ?_
   have hi' : i = s.size := by simp at h1; omega
   subst hi'
   exact aj.au rfl (by rfl)
theorem ajl (s : ByteArray) (hs : s.size ≤ 4000) : Ctr Tryz.prog 136 [.str s] [] (.int .i64 (ckS s)) [] := by
 refine Ctr.intro Tryz.mixed Tryz.func136 rfl Tryz.azv ?_
 refine ev2 @Tryz.ntmps136 @Tryz.results136 ?_
 refine dn.intro (fun i : Nat => i ≤ s.size) (fun i => ⟨(.str s :: .undef :: .undef :: .int .i64 (qw s i) :: .int .i64 i :: (un 16 [])), [], 0⟩) (fun i => s.size - i) 0 (Nat.zero_le _) ?_ (fun i hi => ?_)
 · refine bo.cut (0) (by simp) (by simp) ?_ ?_
   · simp [LeC, LeV, ren, bh, qw]
   · rfl
 refine ev0 ?_
 refine aw.split (fun h1 => ?_) (fun h1 => ?_)
 · refine ev1 @h1 ?_
   have hi' : i < s.size := by simpa using h1
   have hu := UInt8.toNat_lt (s[i]'hi')
   have hbd := aiw s i hi
   have hw1 : IntKind.i64.wrap ((s[i]'hi').toNat : Int) = ((s[i]'hi').toNat : Int) := wrap_i64 (by omega) (by omega)
   have hw2 : IntKind.i64.wrap (41 * qw s i) = 41 * qw s i := wrap_i64 (by omega) (by omega)
   have hw3 : IntKind.i64.wrap (41 * qw s i + ((s[i]'hi').toNat : Int)) = 41 * qw s i + ((s[i]'hi').toNat : Int) := wrap_i64 (by omega) (by omega)
   have hw4 : IntKind.i64.wrap (41 * qw s i + ((s[i]'hi').toNat : Int) + 1) = 41 * qw s i + ((s[i]'hi').toNat : Int) + 1 := wrap_i64 (by omega) (by omega)
   have hq := ant (b := s[i]'hi') hbd.1
   refine ⟨⟨by omega, hi'⟩, ?_⟩
   try refine ew5 @hw1 @hw2 @hw3 @hw4 @hq ?_
   repeat (with_reducible refine And.intro ?_ ?_; focus (first | omega | with_reducible rfl | (show cc _ = true; kernel_rfl) | (simp only [ay, bf, List.length_append, List.length_cons, List.length_nil, List.all_append, List.all_cons, List.all_nil, ch, Nat.mul_one, Nat.one_mul, Bool.and_self]; first | done | omega) | (simp only [ByteArray.size_append, cg, List.size_toArray, List.length_cons, List.length_nil]; omega)))
   refine ⟨i + 1, hi', ?_, by omega⟩
   refine bo.cut (0) (by simp) (by simp) ?_ ?_
   · rw [abc hi']
     try rw [wrap_i64 (by omega) (by omega)]
     simp [LeC, LeV, ren, bh]
   · rfl
 · refine ev1 @h1 ?_
   have hi' : i = s.size := by simp at h1; omega
   subst hi'
   exact aj.au rfl (by rfl)
def ky (s : ByteArray) : ByteArray := (s ++ ⟨#[35]⟩) ++ num (ckS s)
theorem adv (s : ByteArray) : (num (ckS s)).size ≤ 21 := by
 have := ah0 s
 exact jn (by omega) (by omega)
theorem jb (s : ByteArray) : (ky s).size ≤ s.size + 22 := by
 have := adv s
 unfold ky
 simp only [ByteArray.size_append, cg, List.size_toArray, List.length_cons, List.length_nil]; omega
theorem apo (s : ByteArray) (hs : s.size ≤ 4000) : Ctr Tryz.prog 103 [.str s] [] (.str (ky s)) [] := by
 have hc := ah0 s
 have hz := adv s
 refine Ctr.intro Tryz.mixed Tryz.func103 rfl Tryz.ayu ?_
 refine ev2 @Tryz.ntmps103 @Tryz.results103 ?_
 repeat (first | ((first | refine ak.at (ajl s hs) ⟨leA, trivial⟩ ?_ | refine ai.at (ajl s hs) ⟨leA, trivial⟩ ?_); refine ev0 ?_) | ((have ct := fp (ckS s) (by omega) (by omega); (first | refine ak.at ct ⟨leA, trivial⟩ ?_ | refine ai.at ct ⟨leA, trivial⟩ ?_); clear ct); refine ev0 ?_) | (with_reducible refine And.intro (by first | omega | (show cc _ = true; kernel_rfl) | (simp only [ByteArray.size_append, cg, List.size_toArray, List.length_cons, List.length_nil]; omega)) ?_; try refine ew0 ?_))
 exact aj.au rfl (by rfl)
theorem zm (s : ByteArray) (hs : s.size ≤ 1000) (hp : ec (fun b => !(b == 35)) s = true) : Ctr Tryz.prog 118 [.str s] [] (.tup [.str (ky s), .bool true]) [] := by
 have hc := ah0 s
 have hz := adv s
 have hss := jb s
 have hno : decide (0 ≤ Lib.indexByte s.data.toList 35) = false := by
  rw [tn]
  show (!(ec (fun b => !(b == 35)) s)) = false
  rw [hp]; rfl
 have hlong : decide ((4000 : Int) < ((ky s).size : Int)) = false := decide_eq_false (by omega)
 refine Ctr.intro Tryz.mixed Tryz.func118 rfl Tryz.azt ?_
 refine ev2 @Tryz.ntmps118 @Tryz.results118 ?_
 repeat (first | ((have ct := aj6 s (by omega); (first | refine ak.at ct ⟨leA, trivial⟩ ?_ | refine ai.at ct ⟨leA, trivial⟩ ?_); clear ct); refine ev0 ?_) | ((have ct := oi (ckS s) ⟨by omega, by omega⟩; (first | refine ak.at ct ⟨leA, trivial⟩ ?_ | refine ai.at ct ⟨leA, trivial⟩ ?_); clear ct); refine ev0 ?_) | (with_reducible refine And.intro (by first | omega | (show cc _ = true; kernel_rfl) | (simp only [ByteArray.size_append, cg, List.size_toArray, List.length_cons, List.length_nil]; omega)) ?_; try refine ew0 ?_))
 (have ct := xc s 35; (first | refine ak.at ct ⟨leA, leA, trivial⟩ ?_ | refine ai.at ct ⟨leA, leA, trivial⟩ ?_); clear ct)
 have e : (s ++ (⟨#[35]⟩ : ByteArray)) ++ num (ckS s) = ky s := rfl
 rw [e]
 refine ev2 @hno @hlong ?_
 exact aj.au rfl (by rfl)
def di (k : Int) (e : aq) : ByteArray := (((num k ++ ⟨#[32]⟩) ++ e.Command) ++ ⟨#[64]⟩) ++ e.Reply
def cf (k : Int) (e : aq) : ByteArray := ky (di k e) ++ ⟨#[10]⟩
theorem s4 {e : aq} (h : ic e = true) : e.Command.size ≤ 160 ∧ e.Reply.size ≤ 200 ∧ ec (fun b => bp b && !(b == 64)) e.Command = true ∧ ec bp e.Reply = true ∧ 1 ≤ e.Command.size := by
 simp [ic] at h
 exact ⟨h.1.1.2, h.2.1, h.1.2, h.2.2, h.1.1.1⟩
theorem gr {k : Int} {e : aq} (hk : 0 ≤ k ∧ k ≤ 59) (h : ic e = true) : (di k e).size ≤ 400 := by
 have := s4 h
 have := jn (n := k) (by omega) (by omega)
 unfold di
 simp only [ByteArray.size_append, cg, List.size_toArray, List.length_cons, List.length_nil]; omega
theorem tw {p q : UInt8 → Bool} {s : ByteArray} (h : ec p s = true) (hpq : ∀ b, p b = true → q b = true) : ec q s = true :=
 List.all_eq_true.2 fun x hx => hpq x (List.all_eq_true.1 h x hx)
theorem yj {k : Int} {e : aq} (hk : 0 ≤ k ∧ k ≤ 59) (h : ic e = true) : ec (fun b => !(b == 35)) (di k e) = true := by
 obtain ⟨_, _, h3, h4, _⟩ := s4 h
 obtain ⟨u, rfl⟩ := Int.eq_ofNat_of_zero_le hk.1
 have n1 : ec (fun b => !(b == 35)) (num (u : Int)) = true := ag4 (u + 1) u (by omega)
 have c1 : ec (fun b => !(b == 35)) e.Command = true := tw h3 (fun b hb => by simp [bp] at hb ⊢; exact hb.1.2)
 have c2 : ec (fun b => !(b == 35)) e.Reply = true := tw h4 (fun b hb => by simp [bp] at hb ⊢; exact hb.2)
 unfold di
 simp only [zn, n1, c1, c2, Bool.true_and, Bool.and_true]
 rfl
def amw (k : Int) (e : aq) : List V := if ep k 0 59 = true ∧ ic e = true then [.str (cf k e), .bool true] else [.str ⟨#[]⟩, .bool false]
theorem ur (k : Int) (e : aq) (hc : e.Command.size ≤ 281474976710656) (hr : e.Reply.size ≤ 281474976710656) : Ctr Tryz.prog 75 [.int .i64 k, e.v] [] (.tup (amw k e)) [] := by
 refine Ctr.intro Tryz.mixed Tryz.func75 rfl Tryz.a4a ?_
 refine ev2 @Tryz.ntmps75 @Tryz.results75 ?_
 refine ev1 @aq.v.eq_1 ?_
 (first | refine ak.at (j4 k 0 59) ⟨leA, leA, leA, trivial⟩ ?_ | refine ai.at (j4 k 0 59) ⟨leA, leA, leA, trivial⟩ ?_)
 refine ev0 ?_
 refine ax.cu (fun g1 => ?_) (fun g1 => ?_) <;> refine ev1 @g1 ?_
 rotate_left
 · exact aj.au (by rw [amw, if_neg (by simp at g1; simp [g1])]) (by rfl)
 (have ct := nn e hc hr; (first | refine ak.at ct ⟨leA, trivial⟩ ?_ | refine ai.at ct ⟨leA, trivial⟩ ?_); clear ct)
 refine ev0 ?_
 refine aw.split (fun g2 => ?_) (fun g2 => ?_) <;> refine ev1 @g2 ?_
 · exact aj.au (by rw [amw, if_neg (by simp at g2; simp [g2])]) (by rfl)
 have hk : ep k 0 59 = true := by simpa using g1
 have he : ic e = true := by simpa using g2
 have hk' := gg.1 hk
 have z1 := jn (n := k) (by omega) (by omega)
 have z2 := s4 he
 have z3 := gr hk' he
 have z4 := jb (di k e)
 have e1 : (((num k ++ (⟨#[32]⟩ : ByteArray)) ++ e.Command) ++ (⟨#[64]⟩ : ByteArray)) ++ e.Reply = di k e := rfl
 repeat (first | ((have ct := oi k ⟨by omega, by omega⟩; (first | refine ak.at ct ⟨leA, trivial⟩ ?_ | refine ai.at ct ⟨leA, trivial⟩ ?_); clear ct); refine ev0 ?_) | (with_reducible refine And.intro (by first | omega | (show cc _ = true; kernel_rfl) | (simp only [ByteArray.size_append, cg, List.size_toArray, List.length_cons, List.length_nil]; omega)) ?_; try refine ew0 ?_))
 rw [e1]
 repeat (first | ((have ct := zm (di k e) (by omega) (yj hk' he); (first | refine ak.at ct ⟨leA, trivial⟩ ?_ | refine ai.at ct ⟨leA, trivial⟩ ?_); clear ct); refine ev0 ?_) | (with_reducible refine And.intro (by first | omega | (show cc _ = true; kernel_rfl) | (simp only [ByteArray.size_append, cg, List.size_toArray, List.length_cons, List.length_nil]; omega)) ?_; try refine ew0 ?_))
 exact aj.au (by rw [amw, if_pos ⟨hk, he⟩]; rfl) (by rfl)
theorem adx (k : Int) (e : aq) (hk : 0 ≤ k ∧ k ≤ 59) (he : ic e = true) : Ctr Tryz.prog 62 [.int .i64 k, e.v] [] (.str (cf k e)) [] := by
 have z1 := jn (n := k) (by omega) (by omega)
 have z2 := s4 he
 have z3 := gr hk he
 have z4 := jb (di k e)
 have e1 : (((num k ++ (⟨#[32]⟩ : ByteArray)) ++ e.Command) ++ (⟨#[64]⟩ : ByteArray)) ++ e.Reply = di k e := rfl
 refine Ctr.intro Tryz.mixed Tryz.func62 rfl Tryz.a4i ?_
 refine ev2 @Tryz.ntmps62 @Tryz.results62 ?_
 refine ev1 @aq.v.eq_1 ?_
 repeat (first | ((have ct := fp k (by omega) (by omega); (first | refine ak.at ct ⟨leA, trivial⟩ ?_ | refine ai.at ct ⟨leA, trivial⟩ ?_); clear ct); refine ev0 ?_) | (with_reducible refine And.intro (by first | omega | (show cc _ = true; kernel_rfl) | (simp only [ByteArray.size_append, cg, List.size_toArray, List.length_cons, List.length_nil]; omega)) ?_; try refine ew0 ?_))
 rw [e1]
 repeat (first | ((have ct := apo (di k e) (by omega); (first | refine ak.at ct ⟨leA, trivial⟩ ?_ | refine ai.at ct ⟨leA, trivial⟩ ?_); clear ct); refine ev0 ?_) | (with_reducible refine And.intro (by first | omega | (show cc _ = true; kernel_rfl) | (simp only [ByteArray.size_append, cg, List.size_toArray, List.length_cons, List.length_nil]; omega)) ?_; try refine ew0 ?_))
 exact aj.au rfl (by rfl)
end Go.Proofs
end
section
set_option maxRecDepth 100000
set_option maxHeartbeats 1000000
namespace Go.Proofs
open Go.Lv
theorem adh (c : UInt8) (hc : c.toNat < 48) : ∀ (n u : Nat), u < n → noB c (num u) = true
 | 0, u, h => by omega
 | n + 1, u, h => by
  have one : ∀ d, d < 10 → noB c (digits.extract d (d + 1)) = true := by
   intro d hd
   rw [uu d hd]
   have hne : (UInt8.ofNat (48 + d) == c) = false := by
    rw [beq_eq_false_iff_ne]
    intro e
    have h1 : (UInt8.ofNat (48 + d)).toNat = c.toNat := by rw [e]
    rw [UInt8.toNat_ofNat'] at h1
    omega
   show (!(UInt8.ofNat (48 + d) == c) && true) = true
   rw [hne]; rfl
  by_cases h1 : u < 10
  · rw [ai4 h1]; exact one u h1
  · rw [afh h1, noB, zn]
    have g1 := adh c hc n (u / 10) (by omega)
    have g2 := one (u % 10) (by omega)
    unfold noB at g1 g2
    rw [g1, g2]; rfl
def lj (line : ByteArray) : aq := ⟨bef 64 (aft 32 (bef 35 line)), aft 64 (aft 32 (bef 35 line))⟩
theorem aup (s : ByteArray) : ky s = s ++ (⟨#[35]⟩ ++ num (ckS s)) := by rw [ky, ByteArray.append_assoc]
theorem an4 (k : Int) (e : aq) : di k e = num k ++ (⟨#[32]⟩ ++ (e.Command ++ (⟨#[64]⟩ ++ e.Reply))) := by
 simp only [di, ByteArray.append_assoc]
theorem an7 {e : aq} (h : ic e = true) : noB 64 e.Command = true :=
 tw (s4 h).2.2.1 (fun b hb => by simp at hb ⊢; exact hb.2)
theorem akl {k : Int} {e : aq} (hk : 0 ≤ k ∧ k ≤ 59) (h : ic e = true) : bef 35 (ky (di k e)) = di k e := by
 rw [aup]
 exact (rq (yj hk h)).2.1
theorem ab0 {k : Int} {e : aq} (hk : 0 ≤ k ∧ k ≤ 59) (h : ic e = true) : lj (ky (di k e)) = e := by
 obtain ⟨u, rfl⟩ := Int.eq_ofNat_of_zero_le hk.1
 have n1 : noB 32 (num (u : Int)) = true := adh 32 (by decide) (u + 1) u (by omega)
 have a1 : aft 32 (di u e) = e.Command ++ (⟨#[64]⟩ ++ e.Reply) := by
  rw [an4]; exact (rq n1).2.2.1
 have c := rq (y := e.Reply) (an7 h)
 rw [lj, akl hk h, a1, c.2.1, c.2.2.1]
def ab3 (k : Int) (line : ByteArray) : Option aq := if ep k 0 59 = true ∧ ic (lj line) = true ∧ ky (di k (lj line)) = line then some (lj line) else none
theorem mu {k : Int} {line : ByteArray} {e : aq} : ab3 k line = some e ↔ (0 ≤ k ∧ k ≤ 59) ∧ ic e = true ∧ ky (di k e) = line := by
 unfold ab3
 constructor
 · intro g
   split at g
   · rename_i c
     simp only [Option.some.injEq] at g
     subst g
     exact ⟨gg.1 c.1, c.2.1, c.2.2⟩
   · cases g
 · rintro ⟨hk, he, rfl⟩
   rw [ab0 hk he, if_pos ⟨gg.2 hk, he, rfl⟩]
theorem abq {k : Int} {line : ByteArray} (h : ∀ e, ¬ ((0 ≤ k ∧ k ≤ 59) ∧ ic e = true ∧ ky (di k e) = line)) : ab3 k line = none := by
 cases g : ab3 k line with
 | none => rfl
 | some e => exact absurd (mu.1 g) (h e)
theorem append_right_inj {a b c : ByteArray} (h : a ++ c = b ++ c) : a = b := by
 apply og
 have := congrArg (fun x : ByteArray => x.data.toList) h
 simp only [j3] at this
 exact List.append_cancel_right this
def iu (k : Int) (s : ByteArray) : Option (aq × Nat) := if fnd 10 s = true then (ab3 k (bef 10 s)).map fun e => (e, (bef 10 s).size + 1) else none
def yp (k : Int) (line R : ByteArray) : aq × Bool :=
 if (bef 64 R).size = R.size then (⟨⟨#[]⟩, ⟨#[]⟩⟩, false)
 else (⟨bef 64 R, R.extract ((bef 64 R).size + 1) R.size⟩, ic ⟨bef 64 R, R.extract ((bef 64 R).size + 1) R.size⟩ && decide (cf k ⟨bef 64 R, R.extract ((bef 64 R).size + 1) R.size⟩ = line ++ ⟨#[10]⟩))
def l8 (k : Int) (line : ByteArray) : aq × Bool :=
 if (bef 35 line).size < (num k ++ (⟨#[32]⟩ : ByteArray)).size ∨ ¬ (bef 35 line).extract 0 (num k ++ (⟨#[32]⟩ : ByteArray)).size = num k ++ (⟨#[32]⟩ : ByteArray) then (⟨⟨#[]⟩, ⟨#[]⟩⟩, false)
 else yp k line ((bef 35 line).extract (num k ++ (⟨#[32]⟩ : ByteArray)).size (bef 35 line).size)
theorem alj {k : Int} {line : ByteArray} (hk : 0 ≤ k ∧ k ≤ 59) (h : (l8 k line).2 = true) : ab3 k line = some (l8 k line).1 := by
 unfold l8 at h ⊢
 split
 · rename_i c; rw [if_pos c] at h; cases h
 · rename_i c
   rw [if_neg c] at h
   unfold yp at h ⊢
   split
   · rename_i c2; rw [if_pos c2] at h; cases h
   · rename_i c2
     rw [if_neg c2] at h
     simp only [Bool.and_eq_true, decide_eq_true_eq] at h
     exact mu.2 ⟨hk, h.1, append_right_inj h.2⟩
theorem atj (a b : ByteArray) : (a ++ b).extract 0 a.size = a := by
 apply og
 rw [dr, j3, List.drop_zero]
 exact List.take_left' (gi a)
theorem abn (a b : ByteArray) : (a ++ b).extract a.size (a ++ b).size = b := by
 apply og
 have hl : (a ++ b).size = (a ++ b).data.toList.length := rfl
 rw [dr, hl, List.take_length, j3]
 exact List.drop_left' (gi a)
theorem ap0 {k : Int} {line : ByteArray} {e : aq} (h : ab3 k line = some e) : l8 k line = (e, true) := by
 obtain ⟨hk, he, hl⟩ := mu.1 h
 have ht : bef 35 line = (num k ++ (⟨#[32]⟩ : ByteArray)) ++ (e.Command ++ (⟨#[64]⟩ ++ e.Reply)) := by
  rw [← hl, akl hk he, an4]
  simp only [ByteArray.append_assoc]
 have hs : ((num k ++ (⟨#[32]⟩ : ByteArray)) ++ (e.Command ++ (⟨#[64]⟩ ++ e.Reply))).size = (num k ++ (⟨#[32]⟩ : ByteArray)).size + (e.Command ++ (⟨#[64]⟩ ++ e.Reply)).size := ByteArray.size_append
 have c := rq (y := e.Reply) (an7 he)
 have hz : (e.Command ++ ((⟨#[64]⟩ : ByteArray) ++ e.Reply)).size = e.Command.size + (1 + e.Reply.size) := by
  rw [ByteArray.size_append, ByteArray.size_append]; rfl
 have hx : (e.Command ++ ((⟨#[64]⟩ : ByteArray) ++ e.Reply)).extract (e.Command.size + 1) (e.Command ++ ((⟨#[64]⟩ : ByteArray) ++ e.Reply)).size = e.Reply := by
  have h2 := abn (e.Command ++ (⟨#[64]⟩ : ByteArray)) e.Reply
  have h3 : (e.Command ++ (⟨#[64]⟩ : ByteArray)).size = e.Command.size + 1 := by rw [ByteArray.size_append]; rfl
  rw [h3, ByteArray.append_assoc] at h2
  exact h2
 have ee : (⟨e.Command, e.Reply⟩ : aq) = e := rfl
 unfold l8
 rw [ht, atj, abn, if_neg (by rw [hs]; simp), yp, c.2.1, if_neg (by rw [hz]; omega), hx, ee, he]
 have hr : cf k e = line ++ ⟨#[10]⟩ := by rw [cf, hl]
 rw [hr]
 simp
def rdN (s : ByteArray) : Nat → List aq × Nat
 | 0 => ([], 0)
 | n + 1 => match iu (rdN s n).1.length (s.extract (rdN s n).2 s.size) with
  | some r => ((rdN s n).1 ++ [r.1], (rdN s n).2 + r.2)
  | none => rdN s n
theorem jh {s : ByteArray} {n : Nat} {r : aq × Nat} (h : iu (rdN s n).1.length (s.extract (rdN s n).2 s.size) = some r) : rdN s (n + 1) = ((rdN s n).1 ++ [r.1], (rdN s n).2 + r.2) := by rw [rdN, h]
theorem nc {s : ByteArray} {n : Nat} (h : iu (rdN s n).1.length (s.extract (rdN s n).2 s.size) = none) : rdN s (n + 1) = rdN s n := by rw [rdN, h]
theorem abo {s : ByteArray} {n : Nat} (h : iu (rdN s n).1.length (s.extract (rdN s n).2 s.size) = none) : ∀ m, rdN s (n + m) = rdN s n
 | 0 => rfl
 | m + 1 => by
  have ih := abo h m
  rw [← Nat.add_assoc, nc (by rw [ih]; exact h), ih]
theorem aff {c : UInt8} {s : ByteArray} (h : fnd c s = true) : (bef c s).size + 1 ≤ s.size := by
 obtain ⟨x, y, e, hx⟩ := aag h
 have h1 := (rq (y := y) hx).2.1
 have h2 : (x ++ ((⟨#[c]⟩ : ByteArray) ++ y)).size = x.size + (1 + y.size) := by rw [ByteArray.size_append, ByteArray.size_append]; rfl
 rw [e, h1, h2]; omega
theorem uo {k : Int} {s : ByteArray} {r : aq × Nat} (h : iu k s = some r) : fnd 10 s = true ∧ ab3 k (bef 10 s) = some r.1 ∧ r.2 = (bef 10 s).size + 1 := by
 unfold iu at h
 split at h
 · rename_i c
   cases g : ab3 k (bef 10 s) with
   | none => rw [g] at h; cases h
   | some e =>
    rw [g] at h
    simp only [Option.map_some, Option.some.injEq] at h
    subst h
    exact ⟨c, rfl, rfl⟩
 · cases h
theorem abt {k : Int} {s : ByteArray} {r : aq × Nat} (h : iu k s = some r) : 1 ≤ r.2 ∧ r.2 ≤ s.size ∧ r.2 ≤ 423 := by
 obtain ⟨h1, h2, h3⟩ := uo h
 have := aff h1
 obtain ⟨hk, he, hl⟩ := mu.1 h2
 have g1 := gr hk he
 have g2 := jb (di k r.1)
 rw [hl] at g2
 omega
theorem yq (s : ByteArray) : ∀ n, (rdN s n).2 ≤ s.size ∧ (rdN s n).2 ≤ 423 * (rdN s n).1.length ∧ (rdN s n).1.length ≤ n
 | 0 => by simp [rdN]
 | n + 1 => by
  have ih := yq s n
  cases h : iu (rdN s n).1.length (s.extract (rdN s n).2 s.size) with
  | none => rw [nc h]; omega
  | some r =>
   have hz := abt h
   rw [ByteArray.size_extract] at hz
   rw [jh h]
   simp only [List.length_append, List.length_singleton]
   omega
theorem al3 {k : Int} {s : ByteArray} {r : aq × Nat} (h : iu k s = some r) : 0 ≤ k ∧ k ≤ 59 := (mu.1 (uo h).2.1).1
theorem y4 (s : ByteArray) : ∀ n, (rdN s n).1.length ≤ 60
 | 0 => by simp [rdN]
 | n + 1 => by
  have ih := y4 s n
  cases h : iu (rdN s n).1.length (s.extract (rdN s n).2 s.size) with
  | none => rw [nc h]; exact ih
  | some r =>
   have hz := al3 h
   rw [jh h]
   simp only [List.length_append, List.length_singleton]
   omega
def bt (s : ByteArray) : List aq := (rdN s 60).1
def ga (s : ByteArray) : Nat := (rdN s 60).2
theorem qu {s : ByteArray} {i : Nat} (hl : (rdN s i).1.length = i) (h : iu i (s.extract (rdN s i).2 s.size) = none) : rdN s 60 = rdN s i := by
 have h60 := y4 s i
 have := abo (s := s) (n := i) (by rw [hl]; exact h) (60 - i)
 rw [← this]
 congr 1; omega
theorem adf {s : ByteArray} : ∀ {i j : Nat}, (rdN s i).1.length = i → j ≤ i → (rdN s j).1.length = j
 | 0, j, _, hj => by have : j = 0 := by omega
                     subst this; rfl
 | i + 1, j, h, hj => by
  by_cases e : j = i + 1
  · subst e; exact h
  · refine adf (i := i) ?_ (by omega)
    have hb := (yq s i).2.2
    cases g : iu (rdN s i).1.length (s.extract (rdN s i).2 s.size) with
    | none => rw [nc g] at h; omega
    | some r => rw [jh g] at h; simp at h; exact h
def mf (s : ByteArray) (i : Nat) : List Int := (List.range i).map fun j => ((rdN s (j + 1)).2 : Int)
theorem akm (s : ByteArray) (i : Nat) : mf s (i + 1) = mf s i ++ [((rdN s (i + 1)).2 : Int)] := by simp [mf, List.range_succ]
theorem vn (s : ByteArray) (i : Nat) : (mf s i).length = i := by simp [mf]
end Go.Proofs
end
section
set_option maxRecDepth 100000
set_option maxHeartbeats 2000000
namespace Go.Proofs
open Go.Lv
def asa : Option (aq × Nat) → V
 | some r => .tup [r.1.v, .int .i64 r.2, .bool true]
 | none => .tup [.agg [.str ⟨#[]⟩, .str ⟨#[]⟩], .int .i64 0, .bool false]
theorem apu (k : Int) (s : ByteArray) (hs : s.size ≤ 16777216) : Ctr Tryz.prog 100 [.int .i64 k, .str s] [] (asa (iu k s)) [] := by
 have z1 := ui 10 s
 have z2 := ui 35 (bef 10 s)
 have z3 := ak2 32 (bef 35 (bef 10 s))
 have z4 := ui 64 (aft 32 (bef 35 (bef 10 s)))
 have z5 := ak2 64 (aft 32 (bef 35 (bef 10 s)))
 refine Ctr.intro Tryz.mixed Tryz.func100 rfl Tryz.ay4 ?_
 refine ev2 @Tryz.ntmps100 @Tryz.results100 ?_
 repeat (with_reducible refine And.intro ?_ ?_; focus (first | omega | with_reducible rfl | (show cc _ = true; kernel_rfl) | (simp only [ay, bf, List.length_append, List.length_cons, List.length_nil, List.all_append, List.all_cons, List.all_nil, ch, Nat.mul_one, Nat.one_mul, Bool.and_self]; first | done | omega) | (simp only [ByteArray.size_append, cg, List.size_toArray, List.length_cons, List.length_nil]; omega)))
 (have ct := aio s 10 (by omega); (first | refine ak.at ct ⟨leA, leA, trivial⟩ ?_ | refine ai.at ct ⟨leA, leA, trivial⟩ ?_); clear ct)
 refine ev0 ?_
 have no : iu k s = none → ∀ h, aj 0 (.tup [.agg [.str ByteArray.empty, .str ByteArray.empty], .int .i64 0, .bool false]) h (asa (iu k s)) [] := fun e h => aj.au (by rw [e]; rfl) (by rfl)
 cases hf : fnd 10 s with
 | false =>
  have hn : iu k s = none := by rw [iu, hf]; rfl
  refine ev2 @hf @Bool.not_false ?_
  repeat (with_reducible refine And.intro ?_ ?_; focus (first | omega | with_reducible rfl | (show cc _ = true; kernel_rfl) | (simp only [ay, bf, List.length_append, List.length_cons, List.length_nil, List.all_append, List.all_cons, List.all_nil, ch, Nat.mul_one, Nat.one_mul, Bool.and_self]; first | done | omega) | (simp only [ByteArray.size_append, cg, List.size_toArray, List.length_cons, List.length_nil]; omega)))
  exact no hn _
 | true =>
  have hd : iu k s = (ab3 k (bef 10 s)).map fun e => (e, (bef 10 s).size + 1) := by rw [iu, if_pos hf]
  have hsz := aff hf
  refine ev2 @hf @Bool.not_true ?_
  refine aw.split (fun g1 => ?_) (fun g1 => ?_) <;> refine rs1 @g1 ?_
  · refine no ?_ _
    rw [hd, abq]
    · rfl
    · rintro e ⟨hk, he, hl⟩
      have := gr hk he
      have := jb (di k e)
      rw [hl] at this
      simp at g1
      omega
  (have ct := aio (bef 10 s) 35 (by omega); (first | refine ak.at ct ⟨leA, leA, trivial⟩ ?_ | refine ai.at ct ⟨leA, leA, trivial⟩ ?_); clear ct)
  refine ev0 ?_
  (have ct := aio (bef 35 (bef 10 s)) 32 (by omega); (first | refine ak.at ct ⟨leA, leA, trivial⟩ ?_ | refine ai.at ct ⟨leA, leA, trivial⟩ ?_); clear ct)
  refine ev0 ?_
  (have ct := aio (aft 32 (bef 35 (bef 10 s))) 64 (by omega); (first | refine ak.at ct ⟨leA, leA, trivial⟩ ?_ | refine ai.at ct ⟨leA, leA, trivial⟩ ?_); clear ct)
  refine rs0 ?_
  have hE := ur k (lj (bef 10 s)) (by show (bef 64 _).size ≤ _; omega) (by show (aft 64 _).size ≤ _; omega)
  have pc : (lj (bef 10 s)).Command = bef 64 (aft 32 (bef 35 (bef 10 s))) := rfl
  have pr : (lj (bef 10 s)).Reply = aft 64 (aft 32 (bef 35 (bef 10 s))) := rfl
  by_cases hc : ep k 0 59 = true ∧ ic (lj (bef 10 s)) = true
  · rw [amw, if_pos hc] at hE
    have t1 := gr (gg.1 hc.1) hc.2
    have t2 := jb (di k (lj (bef 10 s)))
    have t3 : (cf k (lj (bef 10 s))).size = (ky (di k (lj (bef 10 s)))).size + 1 := by rw [cf, ByteArray.size_append]; rfl
    (first | refine ak.at (hE) ⟨leA, leA, trivial⟩ ?_ | refine ai.at (hE) ⟨leA, leA, trivial⟩ ?_)
    refine rs1 @im ?_
    by_cases hq : cf k (lj (bef 10 s)) = bef 10 s ++ ⟨#[10]⟩
    · have hdq : decide (cf k (lj (bef 10 s)) = bef 10 s ++ (⟨#[10]⟩ : ByteArray)) = true := decide_eq_true hq
      have hs' : ab3 k (bef 10 s) = some (lj (bef 10 s)) := mu.2 ⟨gg.1 hc.1, hc.2, append_right_inj hq⟩
      refine rs2 @hdq @Bool.not_true ?_
      refine aj.au ?_ (by rfl)
      rw [hd, hs']
      simp only [Option.map_some, asa, aq.v, pc, pr]
      rfl
    · have hdq : decide (cf k (lj (bef 10 s)) = bef 10 s ++ (⟨#[10]⟩ : ByteArray)) = false := decide_eq_false hq
      have hn : iu k s = none := by
       rw [hd, abq]
       · rfl
       · rintro e ⟨hk, he, hl⟩
         have := ab0 hk he
         rw [hl] at this
         rw [this] at hq
         exact hq (by rw [cf, hl])
      refine rs2 @hdq @Bool.not_false ?_
      exact no hn _
  · rw [amw, if_neg hc] at hE
    have hn : iu k s = none := by
     rw [hd, abq]
     · rfl
     · rintro e ⟨hk, he, hl⟩
       have := ab0 hk he
       rw [hl] at this
       rw [this] at hc
       exact hc ⟨gg.2 hk, he⟩
    (first | refine ak.at (hE) ⟨leA, leA, trivial⟩ ?_ | refine ai.at (hE) ⟨leA, leA, trivial⟩ ?_)
    refine rs1 @Bool.not_false ?_
    exact no hn _
def anj (s : ByteArray) : V := .tup [.osl 0 0 (bt s).length 2, .osl 1 0 (bt s).length 1]
def aoc (s : ByteArray) : Hp := [some (rows aq.cs (bt s)), some (rows IntS.cs (mf s (bt s).length))]
theorem anc (s : ByteArray) (hs : s.size ≤ 16777216) : Ctr Tryz.prog 58 [.str s] [] (anj s) (aoc s) := by
 refine Ctr.intro Tryz.mixed Tryz.func58 rfl Tryz.a6p ?_
 refine ev2 @Tryz.ntmps58 @Tryz.results58 ?_
 refine dn.intro (fun i : Nat => (rdN s i).1.length = i) (fun i => ⟨(.str s :: (un 3 (.osl 0 0 i 2 :: .osl 1 0 i 1 :: .int .i64 (rdN s i).2 :: (un 30 [])))), [some (rows aq.cs (rdN s i).1), some (rows IntS.cs (mf s i))], 0⟩) (fun i => 61 - i) 0 rfl ?_ (fun i hi => ?_)
 · refine bo.cut (2) (by simp) (by simp) ?_ ?_
   · simp [LeC, LeV, ren, bh, rdN]
   · simp [cb, ck, rdN, rows, mf]
 have hb := yq s i
 have h60 := y4 s i
 have hez : (s.extract (rdN s i).2 s.size).size ≤ 16777216 := by rw [ByteArray.size_extract]; omega
 have hen := vn s i
 rw [hi] at h60
 refine ev0 ?_
 repeat (with_reducible refine And.intro ?_ ?_; focus (first | omega | with_reducible rfl | (show cc _ = true; kernel_rfl) | (simp only [ay, bf, List.length_append, List.length_cons, List.length_nil, List.all_append, List.all_cons, List.all_nil, ch, Nat.mul_one, Nat.one_mul, Bool.and_self]; first | done | omega) | (simp only [ByteArray.size_append, cg, List.size_toArray, List.length_cons, List.length_nil]; omega)))
 (have ct := apu (i : Int) (s.extract (rdN s i).2 s.size) hez; (first | refine ak.at ct ⟨leA, leA, trivial⟩ ?_ | refine ai.at ct ⟨leA, leA, trivial⟩ ?_); clear ct)
 cases hd : iu (i : Int) (s.extract (rdN s i).2 s.size) with
 | none =>
  have e := qu hi hd
  (repeat ((repeat1' (first | simp -implicitDefEqProofs -dsimp only [go_sem, asa, Bool.not_false] | simp -dsimp (disch := omega) only [wrap_i64])); repeat (with_reducible refine And.intro ?_ ?_; focus (first | omega | with_reducible rfl | (show cc _ = true; kernel_rfl) | (simp only [ay, bf, List.length_append, List.length_cons, List.length_nil, List.all_append, List.all_cons, List.all_nil, ch, Nat.mul_one, Nat.one_mul, Bool.and_self]; first | done | omega) | (simp only [ByteArray.size_append, cg, List.size_toArray, List.length_cons, List.length_nil]; omega)))))
  have e1 : bt s = (rdN s i).1 := by rw [bt, e]
  rw [anj, aoc, e1, hi]
  refine aj.pick [0, 1] (by decide) (fun j hj => by omega) (.inl ?_) ?_
  · first | rfl | (simp [ren, bb, posOf]; done)
  · simp only [az, List.map_cons, List.map_nil, bg, List.getElem?_cons_zero, List.getElem?_cons_succ, ab]
 | some r =>
  have hz := abt hd
  rw [ByteArray.size_extract] at hz
  have hk := al3 hd
  have hS : rdN s (i + 1) = ((rdN s i).1 ++ [r.1], (rdN s i).2 + r.2) := jh (by rw [hi]; exact hd)
  (repeat ((repeat1' (first | simp -implicitDefEqProofs -dsimp only [go_sem, asa, Bool.not_true, aq.v] | simp -dsimp (disch := omega) only [wrap_i64])); repeat (with_reducible refine And.intro ?_ ?_; focus (first | omega | with_reducible rfl | (show cc _ = true; kernel_rfl) | (simp only [ay, bf, List.length_append, List.length_cons, List.length_nil, List.all_append, List.all_cons, List.all_nil, ch, Nat.mul_one, Nat.one_mul, Bool.and_self]; first | done | omega) | (simp only [ByteArray.size_append, cg, List.size_toArray, List.length_cons, List.length_nil]; omega)))))
  refine ⟨i + 1, by rw [hS]; simp [hi], ?_, by omega⟩
  have e2 := akm s i
  rw [hS] at e2
  refine bo.cut (2) (by simp) (by simp) ?_ ?_
  · rw [hS]; simp [LeC, LeV, ren, bh]
  · rw [e2, hS, ← dy, ← dy]
    simp [cb, ck, ren, bh, ab, dj, k9, aq.cs, IntS.cs]
theorem amy (k : Int) (s : ByteArray) (hk : 0 ≤ k ∧ k ≤ 59) (hs : s.size ≤ 16777216) : Ctr Tryz.prog 131 [.str s, .int .i64 k] [] (.tup [(l8 k s).1.v, .bool (l8 k s).2]) [] := by
 have n1 := jn (n := k) (by omega) (by omega)
 have z2 := ui 35 s
 obtain ⟨l, hl, _⟩ := ux 35 s
 have hsp := vm s 35 hs
 rw [hl] at hsp
 have c35 : (((35 : UInt8).toNat : Nat) : Int) = 35 := rfl
 have c64 : (((64 : UInt8).toNat : Nat) : Int) = 64 := rfl
 rw [c35] at hsp
 refine Ctr.intro Tryz.mixed Tryz.func131 rfl Tryz.a0o ?_
 refine ev2 @Tryz.ntmps131 @Tryz.results131 ?_
 repeat (with_reducible refine And.intro ?_ ?_; focus (first | omega | with_reducible rfl | (show cc _ = true; kernel_rfl) | (simp only [ay, bf, List.length_append, List.length_cons, List.length_nil, List.all_append, List.all_cons, List.all_nil, ch, Nat.mul_one, Nat.one_mul, Bool.and_self]; first | done | omega) | (simp only [ByteArray.size_append, cg, List.size_toArray, List.length_cons, List.length_nil]; omega)))
 repeat (first | ((have ct := fp k (by omega) (by omega); (first | refine ak.at ct ⟨leA, trivial⟩ ?_ | refine ai.at ct ⟨leA, trivial⟩ ?_); clear ct); refine ev0 ?_) | (with_reducible refine And.intro (by first | omega | (show cc _ = true; kernel_rfl) | (simp only [ByteArray.size_append, cg, List.size_toArray, List.length_cons, List.length_nil]; omega)) ?_; try refine ew0 ?_))
 (first | refine ak.at (hsp) ⟨leA, leA, trivial⟩ ?_ | refine ai.at (hsp) ⟨leA, leA, trivial⟩ ?_)
 refine rs3 @List.length_cons.{0} @e9 @StringS.cs.eq_1 ?_
 have h32 : ((#[32] : Array UInt8).size) = 1 := rfl
 have hN : (num k ++ (⟨#[32]⟩ : ByteArray)).size = (num k).size + 1 := ByteArray.size_append
 rw [h32]
 refine ax.cu (fun g1 => ?_) (fun g1 => ?_) <;> refine ev2 @g1 @h32 ?_
 rotate_left
 · repeat (with_reducible refine And.intro ?_ ?_; focus (first | omega | with_reducible rfl | (show cc _ = true; kernel_rfl) | (simp only [ay, bf, List.length_append, List.length_cons, List.length_nil, List.all_append, List.all_cons, List.all_nil, ch, Nat.mul_one, Nat.one_mul, Bool.and_self]; first | done | omega) | (simp only [ByteArray.size_append, cg, List.size_toArray, List.length_cons, List.length_nil]; omega)))
   refine aj.au ?_ (by rfl)
   rw [l8, if_pos (.inl (by rw [hN]; simp at g1; omega))]
   rfl
 repeat (with_reducible refine And.intro ?_ ?_; focus (first | omega | with_reducible rfl | (show cc _ = true; kernel_rfl) | (simp only [ay, bf, List.length_append, List.length_cons, List.length_nil, List.all_append, List.all_cons, List.all_nil, ch, Nat.mul_one, Nat.one_mul, Bool.and_self]; first | done | omega) | (simp only [ByteArray.size_append, cg, List.size_toArray, List.length_cons, List.length_nil]; omega)))
 refine ev1 @im ?_
 have g1' : (num k).size + 1 ≤ (bef 35 s).size := by simp at g1; omega
 refine ⟨by omega, ?_⟩
 refine aw.split (fun g2 => ?_) (fun g2 => ?_) <;> refine ev2 @g2 @h32 ?_
 · repeat (with_reducible refine And.intro ?_ ?_; focus (first | omega | with_reducible rfl | (show cc _ = true; kernel_rfl) | (simp only [ay, bf, List.length_append, List.length_cons, List.length_nil, List.all_append, List.all_cons, List.all_nil, ch, Nat.mul_one, Nat.one_mul, Bool.and_self]; first | done | omega) | (simp only [ByteArray.size_append, cg, List.size_toArray, List.length_cons, List.length_nil]; omega)))
   refine aj.au ?_ (by rfl)
   rw [l8, if_pos (.inr (by rw [hN]; simpa using g2))]
   rfl
 have hno : ¬ ((bef 35 s).size < (num k ++ (⟨#[32]⟩ : ByteArray)).size ∨ ¬ (bef 35 s).extract 0 (num k ++ (⟨#[32]⟩ : ByteArray)).size = num k ++ (⟨#[32]⟩ : ByteArray)) := by
  rw [hN]
  rintro (q | q)
  · omega
  · simp at g2; exact q g2
 have hP : l8 k s = yp k s ((bef 35 s).extract ((num k).size + 1) (bef 35 s).size) := by rw [l8, if_neg hno, hN]
 have hRs : ((bef 35 s).extract ((num k).size + 1) (bef 35 s).size).size ≤ s.size := by rw [ByteArray.size_extract]; omega
 repeat (with_reducible refine And.intro ?_ ?_; focus (first | omega | with_reducible rfl | (show cc _ = true; kernel_rfl) | (simp only [ay, bf, List.length_append, List.length_cons, List.length_nil, List.all_append, List.all_cons, List.all_nil, ch, Nat.mul_one, Nat.one_mul, Bool.and_self]; first | done | omega) | (simp only [ByteArray.size_append, cg, List.size_toArray, List.length_cons, List.length_nil]; omega)))
 generalize hR : (bef 35 s).extract ((num k).size + 1) (bef 35 s).size = R at hP hRs ⊢
 have hz4 := ui 64 R
 obtain ⟨l2, hl2, _⟩ := ux 64 R
 have hsp2 := vm R 64 (by omega)
 rw [hl2, c64] at hsp2
 (first | refine ak.at (hsp2) ⟨leA, leA, trivial⟩ ?_ | refine ai.at (hsp2) ⟨leA, leA, trivial⟩ ?_)
 refine rs3 @List.length_cons.{0} @e9 @StringS.cs.eq_1 ?_
 refine aw.split (fun g3 => ?_) (fun g3 => ?_) <;> refine ev1 @g3 ?_
 · repeat (with_reducible refine And.intro ?_ ?_; focus (first | omega | with_reducible rfl | (show cc _ = true; kernel_rfl) | (simp only [ay, bf, List.length_append, List.length_cons, List.length_nil, List.all_append, List.all_cons, List.all_nil, ch, Nat.mul_one, Nat.one_mul, Bool.and_self]; first | done | omega) | (simp only [ByteArray.size_append, cg, List.size_toArray, List.length_cons, List.length_nil]; omega)))
   refine aj.au ?_ (by rfl)
   rw [hP, yp, if_pos (by simp at g3; omega)]
   rfl
 have g3' : (bef 64 R).size + 1 ≤ R.size := by simp at g3; omega
 have hP2 : yp k s R = (⟨bef 64 R, R.extract ((bef 64 R).size + 1) R.size⟩, ic ⟨bef 64 R, R.extract ((bef 64 R).size + 1) R.size⟩ && decide (cf k ⟨bef 64 R, R.extract ((bef 64 R).size + 1) R.size⟩ = s ++ ⟨#[10]⟩)) := by
  rw [yp, if_neg (by omega)]
 have hq : IntKind.i64.wrap (((bef 64 R).size : Int) + 1) = (((bef 64 R).size + 1 : Nat) : Int) := by rw [wrap_i64 (by omega) (by omega)]; omega
 have hEz : (R.extract ((bef 64 R).size + 1) R.size).size ≤ R.size := by rw [ByteArray.size_extract]; omega
 refine rs1 @hq ?_
 have hE1 : R.extract (IntKind.i64.wrap (((bef 64 R).size : Int) + 1)).toNat R.size = R.extract ((bef 64 R).size + 1) R.size := by rw [hq]; rfl
 rw [hE1]
 generalize hE : R.extract ((bef 64 R).size + 1) R.size = E at hP2 hEz ⊢
 (first | refine ak.at (vb ⟨bef 64 R, E⟩ (by show (bef 64 R).size ≤ _; omega) (by show E.size ≤ _; omega)) ⟨leA, trivial⟩ ?_ | refine ai.at (vb ⟨bef 64 R, E⟩ (by show (bef 64 R).size ≤ _; omega) (by show E.size ≤ _; omega)) ⟨leA, trivial⟩ ?_)
 cases hb : ic ⟨bef 64 R, E⟩ with
 | false =>
  refine ev0 ?_
  repeat (with_reducible refine And.intro ?_ ?_; focus (first | omega | with_reducible rfl | (show cc _ = true; kernel_rfl) | (simp only [ay, bf, List.length_append, List.length_cons, List.length_nil, List.all_append, List.all_cons, List.all_nil, ch, Nat.mul_one, Nat.one_mul, Bool.and_self]; first | done | omega) | (simp only [ByteArray.size_append, cg, List.size_toArray, List.length_cons, List.length_nil]; omega)))
  refine aj.au ?_ (by rfl)
  rw [hP, hP2, hb]
  rfl
 | true =>
  have t1 := gr hk hb
  have t2 := jb (di k ⟨bef 64 R, E⟩)
  refine ev0 ?_
  have hLn := adx k ⟨bef 64 R, E⟩ hk hb
  simp only [aq.v] at hLn
  (first | refine ak.at (hLn) ⟨leA, leA, trivial⟩ ?_ | refine ai.at (hLn) ⟨leA, leA, trivial⟩ ?_)
  refine rs1 @im ?_
  refine aj.au ?_ (by rfl)
  rw [hP, hP2, hb, Bool.true_and]
  rfl
end Go.Proofs
end
section
set_option maxRecDepth 100000
set_option maxHeartbeats 2000000
namespace Go.Proofs
open Go.Lv
def acx (s : ByteArray) : V := .tup [.osl 0 0 (bt s).length 2, .int .i64 (ga s)]
def acm (s : ByteArray) : Hp := [some (rows aq.cs (bt s))]
theorem u0 {k : Int} {s : ByteArray} (h : s.size = 0) : iu k s = none := by
 cases g : iu k s with
 | none => rfl
 | some r => have := abt g; omega
theorem y5 (s : ByteArray) (hs : s.size ≤ 16777216) : Ctr Tryz.prog 99 [.str s] [] (acx s) (acm s) := by
 refine Ctr.intro Tryz.mixed Tryz.func99 rfl Tryz.a8p ?_
 refine ev2 @Tryz.ntmps99 @Tryz.results99 ?_
 refine dn.intro (fun i : Nat => (rdN s i).1.length = i) (fun i => ⟨(.str s :: (un 3 (.osl 0 0 i 2 :: .int .i64 (rdN s i).2 :: (un 46 [])))), [some (rows aq.cs (rdN s i).1)], 0⟩) (fun i => 61 - i) 0 rfl ?_ (fun i hi => ?_)
 · refine bo.cut (1) (by simp) (by simp) ?_ ?_
   · simp [LeC, LeV, ren, bh, rdN]
   · simp [cb, ck, rdN, rows]
 have hb := yq s i
 have h60 := y4 s i
 have hez : (s.extract (rdN s i).2 s.size).size ≤ 16777216 := by rw [ByteArray.size_extract]; omega
 rw [hi] at h60
 have stop : iu (i : Int) (s.extract (rdN s i).2 s.size) = none → (bt s = (rdN s i).1 ∧ ga s = (rdN s i).2) := fun hd => by
  have e := qu hi hd
  exact ⟨by rw [bt, e], by rw [ga, e]⟩
 refine ev0 ?_
 refine ax.bz (fun g1 => ?_) (fun g1 => ?_) <;> refine ev1 @g1 ?_
 rotate_left
 · obtain ⟨e1, e2⟩ := stop (u0 (by rw [ByteArray.size_extract]; simp at g1; omega))
   rw [acx, acm, e1, e2, hi]
   refine aj.pick [0] (by decide) (fun j hj => by omega) (.inl ?_) ?_
   · first | rfl | (simp [ren, bb, posOf]; done)
   · simp only [az, List.map_cons, List.map_nil, bg, List.getElem?_cons_zero, List.getElem?_cons_succ, ab]
 refine aw.split (fun g2 => ?_) (fun g2 => ?_) <;> refine ev1 @g2 ?_
 rotate_left
 · have hn : iu (i : Int) (s.extract (rdN s i).2 s.size) = none := by
    cases g : iu (i : Int) (s.extract (rdN s i).2 s.size) with
    | none => rfl
    | some r => have := al3 g; simp at g2; omega
   obtain ⟨e1, e2⟩ := stop hn
   rw [acx, acm, e1, e2, hi]
   refine aj.pick [0] (by decide) (fun j hj => by omega) (.inl ?_) ?_
   · first | rfl | (simp [ren, bb, posOf]; done)
   · simp only [az, List.map_cons, List.map_nil, bg, List.getElem?_cons_zero, List.getElem?_cons_succ, ab]
 have hk : (0 : Int) ≤ (i : Int) ∧ (i : Int) ≤ 59 := by simp at g2; omega
 repeat (with_reducible refine And.intro ?_ ?_; focus (first | omega | with_reducible rfl | (show cc _ = true; kernel_rfl) | (simp only [ay, bf, List.length_append, List.length_cons, List.length_nil, List.all_append, List.all_cons, List.all_nil, ch, Nat.mul_one, Nat.one_mul, Bool.and_self]; first | done | omega) | (simp only [ByteArray.size_append, cg, List.size_toArray, List.length_cons, List.length_nil]; omega)))
 generalize hR : s.extract (rdN s i).2 s.size = R at hez stop ⊢
 obtain ⟨l, hl, hl0⟩ := ux 10 R
 have hsp := vm R 10 hez
 have c10 : (((10 : UInt8).toNat : Nat) : Int) = 10 := rfl
 rw [hl, c10] at hsp
 (first | refine ak.at (hsp) ⟨leA, leA, trivial⟩ ?_ | refine ai.at (hsp) ⟨leA, leA, trivial⟩ ?_)
 have hz := ui 10 R
 refine rs3 @List.length_cons.{0} @e9 @StringS.cs.eq_1 ?_
 (have ct := amy (i : Int) (bef 10 R) hk (by omega); (first | refine ak.at ct ⟨leA, leA, trivial⟩ ?_ | refine ai.at ct ⟨leA, leA, trivial⟩ ?_); clear ct)
 refine rs1 @aq.v.eq_1 ?_
 refine ax.cu (fun g3 => ?_) (fun g3 => ?_) <;> refine ev1 @g3 ?_
 rotate_left
 · have hf : fnd 10 R = false := hl0.1 (by
    cases l with
    | nil => rfl
    | cons a l => simp at g3; omega)
   obtain ⟨e1, e2⟩ := stop (by rw [iu, hf]; rfl)
   rw [acx, acm, e1, e2, hi]
   refine aj.pick [0] (by decide) (fun j hj => by omega) (.inl ?_) ?_
   · first | rfl | (simp [ren, bb, posOf]; done)
   · simp only [az, List.map_cons, List.map_nil, bg, List.getElem?_cons_zero, List.getElem?_cons_succ, ab]
 have hf : fnd 10 R = true := by
  cases q : fnd 10 R with
  | true => rfl
  | false => rw [hl0.2 q] at g3; simp at g3
 have hd : iu (i : Int) R = (ab3 (i : Int) (bef 10 R)).map fun e => (e, (bef 10 R).size + 1) := by rw [iu, if_pos hf]
 have hfs := aff hf
 have hRs : R.size + (rdN s i).2 ≤ s.size := by
  rw [← hR, ByteArray.size_extract]; omega
 refine aw.split (fun g4 => ?_) (fun g4 => ?_)
 · refine ev1 @g4 ?_
   have hp : (l8 (i : Int) (bef 10 R)).2 = false := by simpa using g4
   obtain ⟨e1, e2⟩ := stop (by
    rw [hd]
    cases q : ab3 (i : Int) (bef 10 R) with
    | none => rfl
    | some e => rw [ap0 q] at hp; cases hp)
   rw [acx, acm, e1, e2, hi]
   refine aj.pick [0] (by decide) (fun j hj => by omega) (.inl ?_) ?_
   · first | rfl | (simp [ren, bb, posOf]; done)
   · simp only [az, List.map_cons, List.map_nil, bg, List.getElem?_cons_zero, List.getElem?_cons_succ, ab]
 · have hp : (l8 (i : Int) (bef 10 R)).2 = true := by simpa using g4
   have hs' := alj hk hp
   rw [hs'] at hd
   have hS : rdN s (i + 1) = ((rdN s i).1 ++ [(l8 (i : Int) (bef 10 R)).1], (rdN s i).2 + ((bef 10 R).size + 1)) := jh (r := ((l8 (i : Int) (bef 10 R)).1, (bef 10 R).size + 1)) (by rw [hi, hR, hd]; rfl)
   refine rs8 @g4 @ay @bf @hi @Nat.mul_one @List.length_cons.{0} @e9 @StringS.cs.eq_1 ?_
   refine ⟨i + 1, by rw [hS]; simp [hi], ?_, by omega⟩
   refine bo.cut (1) (by simp) (by simp) ?_ ?_
   · rw [hS]; (simp [LeC, LeV, ren, bh]; try omega)
   · rw [hS, ← dy]
     simp [cb, ck, ren, bh, ab, dj, k9, aq.cs]
end Go.Proofs
end
section
set_option maxRecDepth 100000
namespace Go.Proofs
open Go.Lv
structure Log where
 Durable : ByteArray
 Pending : ByteArray
 Count : Int
def Log.cs (r : Log) : List V := [.str r.Durable, .str r.Pending, .int .i64 r.Count]
def Log.v (r : Log) : V := .agg [.str r.Durable, .str r.Pending, .int .i64 r.Count]
theorem Log.csl (a : Log) : a.cs.length = 3 := rfl
instance : r3 Log.cs 3 := ⟨fun _ => rfl, fun _ d => by cases d <;> rfl, fun _ => rfl, fun _ => rfl⟩
def Log.ok (r : Log) : Prop := ar4 r.Durable ∧ ar4 r.Pending ∧ bu r.Count
abbrev Log.rows (L : List Log) : List V := Go.Lv.rows Log.cs L
abbrev Log.sl (L : List Log) : V := .sl L.length 3 (Go.Lv.rows Log.cs L)
abbrev Log.zs : List V := [.str ByteArray.empty, .str ByteArray.empty, .int .i64 0]
end Go.Proofs
end
section
set_option maxRecDepth 100000
set_option maxHeartbeats 2000000
namespace Go.Proofs
open Go.Lv
theorem ang (s : ByteArray) : ∃ i, i ≤ 60 ∧ (rdN s i).1.length = i ∧ rdN s 60 = rdN s i ∧ iu i (s.extract (rdN s i).2 s.size) = none := by
 have key : ∀ m, (rdN s m).1.length = m ∨ ∃ i, (rdN s i).1.length = i ∧ iu i (s.extract (rdN s i).2 s.size) = none := by
  intro m
  induction m with
  | zero => exact .inl rfl
  | succ m ih =>
   rcases ih with h | h
   · cases g : iu (m : Int) (s.extract (rdN s m).2 s.size) with
     | none => exact .inr ⟨m, h, g⟩
     | some r =>
      refine .inl ?_
      rw [jh (r := r) (by rw [h]; exact g)]
      simp [h]
   · exact .inr h
 rcases key 61 with h | ⟨i, h1, h2⟩
 · have := y4 s 61; omega
 · have := y4 s i
   exact ⟨i, by omega, h1, qu h1 h2, h2⟩
theorem lq (s : ByteArray) : (rdN s (bt s).length).1.length = (bt s).length ∧ rdN s 60 = rdN s (bt s).length ∧ iu (bt s).length (s.extract (ga s) s.size) = none ∧ (bt s).length ≤ 60 := by
 obtain ⟨i, h0, h1, h2, h3⟩ := ang s
 have e : (bt s).length = i := by rw [bt, h2, h1]
 have e2 : ga s = (rdN s i).2 := by rw [ga, h2]
 rw [e, e2]
 exact ⟨h1, h2, h3, h0⟩
theorem ai1 (s : ByteArray) : ga s = (rdN s (bt s).length).2 := by rw [ga, (lq s).2.1]
theorem x5 (s : ByteArray) : ga s ≤ s.size ∧ ga s ≤ 25380 := by
 have h1 := yq s 60
 have h2 := y4 s 60
 unfold ga; omega
theorem aoa {c : UInt8} {x y : ByteArray} (h : fnd c x = true) : fnd c (x ++ y) = true ∧ bef c (x ++ y) = bef c x := by
 obtain ⟨a, b, rfl, ha⟩ := aag h
 have e : (a ++ (⟨#[c]⟩ ++ b)) ++ y = a ++ (⟨#[c]⟩ ++ (b ++ y)) := by simp only [ByteArray.append_assoc]
 rw [e]
 exact ⟨(rq ha).2.2.2, by rw [(rq ha).2.1, (rq ha).2.1]⟩
theorem aq0 {k : Int} {x y : ByteArray} {r : aq × Nat} (h : iu k x = some r) : iu k (x ++ y) = some r := by
 obtain ⟨h1, h2, h3⟩ := uo h
 obtain ⟨g1, g2⟩ := aoa (y := y) h1
 rw [iu, if_pos g1, g2, h2]
 simp only [Option.map_some]
 rw [← h3]
theorem auj {c : UInt8} {x y : ByteArray} (h : fnd c (x ++ y) = true) (hs : (bef c (x ++ y)).size + 1 ≤ x.size) : fnd c x = true := by
 cases g : fnd c x with
 | true => rfl
 | false =>
  exfalso
  obtain ⟨a, b, e, ha⟩ := aag h
  rw [e, (rq ha).2.1] at hs
  have hx : x.data.toList ++ y.data.toList = a.data.toList ++ c :: b.data.toList := by
   rw [← j3, e, j3, j3]; rfl
  have hc : x.data.toList[a.size]? = some c := by
   have h1 : (x.data.toList ++ y.data.toList)[a.size]? = some c := by
    rw [hx, List.getElem?_append_right (by rw [gi]; exact Nat.le_refl _), gi]
    simp
   rwa [List.getElem?_append_left (by rw [gi]; omega)] at h1
  have hne : Lib.indexByte x.data.toList c = -1 := by
   have h1 := Lib.indexByte_ge x.data.toList c
   have h2 : ¬ 0 ≤ Lib.indexByte x.data.toList c := by
    intro q
    have : fnd c x = true := decide_eq_true q
    rw [this] at g; cases g
   omega
  exact Lib.indexByte_none hne a.size hc
theorem ars {k : Int} {x y : ByteArray} {r : aq × Nat} (h : iu k (x ++ y) = some r) (hs : r.2 ≤ x.size) : iu k x = some r := by
 obtain ⟨h1, h2, h3⟩ := uo h
 have g1 := auj h1 (by omega)
 have g2 := (aoa (y := y) g1).2
 rw [g2] at h2 h3
 rw [iu, if_pos g1, h2]
 simp only [Option.map_some]
 rw [← h3]
theorem anx {D P : ByteArray} {a : Nat} (h : a ≤ D.size) : (D ++ P).extract a (D ++ P).size = D.extract a D.size ++ P := by
 apply og
 have hl : (D ++ P).size = (D ++ P).data.toList.length := rfl
 have hl2 : D.size = D.data.toList.length := rfl
 rw [j3, dr, dr, hl, List.take_length, hl2, List.take_length, j3]
 exact List.drop_append_of_le_length (by rw [gi]; exact h)
theorem ahw {D P : ByteArray} : ∀ {j : Nat}, (rdN D j).1.length = j → rdN (D ++ P) j = rdN D j
 | 0, _ => rfl
 | j + 1, h => by
  have hj := adf h (Nat.le_succ j)
  have ih := ahw (P := P) hj
  cases g : iu (j : Int) (D.extract (rdN D j).2 D.size) with
  | none => rw [nc (by rw [hj]; exact g)] at h; omega
  | some r =>
   rw [jh (s := D) (r := r) (by rw [hj]; exact g)]
   rw [jh (s := D ++ P) (r := r) (by rw [ih, hj, anx (yq D j).1]; exact aq0 g), ih]
theorem al2 {D P : ByteArray} : ∀ {j : Nat}, (rdN (D ++ P) j).1.length = j → (rdN (D ++ P) j).2 ≤ D.size → rdN D j = rdN (D ++ P) j
 | 0, _, _ => rfl
 | j + 1, h, hs => by
  have hj := adf h (Nat.le_succ j)
  cases g : iu (j : Int) ((D ++ P).extract (rdN (D ++ P) j).2 (D ++ P).size) with
  | none => rw [nc (by rw [hj]; exact g)] at h; omega
  | some r =>
   have hS := jh (s := D ++ P) (n := j) (r := r) (by rw [hj]; exact g)
   rw [hS] at hs ⊢
   simp only at hs
   have ih := al2 hj (by omega)
   rw [← ih] at g hs
   rw [anx (yq D j).1] at g
   have g2 := ars g (by rw [ByteArray.size_extract]; omega)
   rw [jh (s := D) (r := r) (by
    have e : (rdN D j).1.length = j := by rw [ih]; exact hj
    rw [e]; exact g2), ih]
theorem ajx {D P : ByteArray} : (∃ j, j ≤ (bt (D ++ P)).length ∧ (rdN (D ++ P) j).2 = D.size) ↔ ga D = D.size := by
 obtain ⟨h1, h2, h3, h4⟩ := lq (D ++ P)
 constructor
 · rintro ⟨j, hj, e⟩
   have hl := adf h1 hj
   have hp := al2 hl (by omega)
   have hd : iu (j : Int) (D.extract (rdN D j).2 D.size) = none := u0 (by rw [hp, e, ByteArray.size_extract]; omega)
   have := qu (s := D) (by rw [hp]; exact hl) hd
   rw [ga, this, hp, e]
 · intro e
   obtain ⟨i, k0, k1, k2, k3⟩ := ang D
   have ha := ahw (P := P) k1
   have hi : (rdN (D ++ P) i).1.length = i := by rw [ha]; exact k1
   refine ⟨i, ?_, by rw [ha, ← e, ga, k2]⟩
   by_cases c : i ≤ (bt (D ++ P)).length
   · exact c
   · exfalso
     have h5 : iu ((bt (D ++ P)).length : Int) ((D ++ P).extract (rdN (D ++ P) (bt (D ++ P)).length).2 (D ++ P).size) = none := by
      rw [← ai1]; exact h3
     have := abo (s := D ++ P) (n := (bt (D ++ P)).length) (by rw [h1]; exact h5) (i - (bt (D ++ P)).length)
     have e2 : (bt (D ++ P)).length + (i - (bt (D ++ P)).length) = i := by omega
     rw [e2] at this
     rw [this, h1] at hi
     omega
def jd (l : Log) : Bool := decide (l.Durable.size + l.Pending.size ≤ 30000) && (decide (ga (l.Durable ++ l.Pending) = l.Durable.size + l.Pending.size) && (decide (ga l.Durable = l.Durable.size) && decide (((bt (l.Durable ++ l.Pending)).length : Int) = l.Count)))
theorem uk (l : Log) (hd : l.Durable.size ≤ 4194304) (hp : l.Pending.size ≤ 4194304) : Ctr Tryz.prog 53 [l.v] [] (.bool (jd l)) [] := by
 have hsz : (l.Durable ++ l.Pending).size = l.Durable.size + l.Pending.size := ByteArray.size_append
 have hw : IntKind.i64.wrap ((l.Durable.size : Int) + (l.Pending.size : Int)) = (l.Durable.size : Int) + (l.Pending.size : Int) := wrap_i64 (by omega) (by omega)
 refine Ctr.intro Tryz.mixed Tryz.func53 rfl Tryz.a6s ?_
 refine ev2 @Tryz.ntmps53 @Tryz.results53 ?_
 refine rs2 @Log.v.eq_1 @hw ?_
 refine aw.split (fun g1 => ?_) (fun g1 => ?_) <;> refine rs1 @g1 ?_
 · refine aj.au ?_ (by rfl)
   have : ¬ l.Durable.size + l.Pending.size ≤ 30000 := by simp at g1; omega
   simp [jd, this]
 (have ct := y5 (l.Durable ++ l.Pending) (by rw [hsz]; omega); (first | refine ak.at ct ⟨leA, trivial⟩ ?_ | refine ai.at ct ⟨leA, trivial⟩ ?_); clear ct)
 refine rs3 @acx.eq_1 @acm.eq_1 @hw ?_
 (have ct := y5 l.Durable (by omega); (first | refine ak.at ct ⟨leA, trivial⟩ ?_ | refine ai.at ct ⟨leA, trivial⟩ ?_); clear ct)
 refine rs3 @acx.eq_1 @acm.eq_1 @hw ?_
 have hb : decide (l.Durable.size + l.Pending.size ≤ 30000) = true := by simp at g1 ⊢; omega
 have c1 : (((ga (l.Durable ++ l.Pending) : Nat) : Int) == (l.Durable.size : Int) + (l.Pending.size : Int)) = decide (ga (l.Durable ++ l.Pending) = l.Durable.size + l.Pending.size) := by rw [Bool.eq_iff_iff]; simp; omega
 have c2 : (((ga l.Durable : Nat) : Int) == (l.Durable.size : Int)) = decide (ga l.Durable = l.Durable.size) := by rw [Bool.eq_iff_iff]; simp; omega
 refine ax.bz (fun g2 => ?_) (fun g2 => ?_) <;> refine ev2 @g2 @hw ?_
 rotate_left
 · refine aj.au ?_ (by rfl)
   rw [c1] at g2
   simp only [jd, g2, Bool.false_and, Bool.and_false]
 refine ax.bz (fun g3 => ?_) (fun g3 => ?_) <;> refine ev2 @g3 @hw ?_
 rotate_left
 · refine aj.au ?_ (by rfl)
   rw [c2] at g3
   simp only [jd, g3, Bool.false_and, Bool.and_false]
 refine aj.au ?_ (by rfl)
 rw [c1] at g2
 rw [c2] at g3
 simp only [jd, hb, g2, g3, Bool.true_and]
 congr 1
def dw (s : ByteArray) : List Int := 0 :: mf s (bt s).length
theorem qd (s : ByteArray) : (dw s).length = (bt s).length + 1 := by simp [dw, vn]
theorem qa {s : ByteArray} {i : Nat} (h : i < (dw s).length) : (dw s)[i] = ((rdN s i).2 : Int) := by
 cases i with
 | zero => rfl
 | succ i => simp [dw, mf]
def azy (l : Log) : Bool := (dw (l.Durable ++ l.Pending)).any fun a => a == (l.Durable.size : Int)
theorem auu (l : Log) : azy l = decide (ga l.Durable = l.Durable.size) := by
 rw [Bool.eq_iff_iff, decide_eq_true_eq, ← ajx (P := l.Pending), azy, List.any_eq_true]
 constructor
 · rintro ⟨a, ha, e⟩
   obtain ⟨i, hi, rfl⟩ := List.getElem_of_mem ha
   rw [qa hi] at e
   rw [qd] at hi
   exact ⟨i, by omega, by simp at e; omega⟩
 · rintro ⟨j, hj, e⟩
   have hi : j < (dw (l.Durable ++ l.Pending)).length := by rw [qd]; omega
   exact ⟨_, List.getElem_mem hi, by rw [qa hi, e]; simp⟩
def aef (l : Log) : V := .tup [.osl 0 0 (bt (l.Durable ++ l.Pending)).length 2, .bool (jd l)]
def agy (l : Log) : Hp := [some (rows aq.cs (bt (l.Durable ++ l.Pending)))]
theorem afg (l : Log) (hd : l.Durable.size ≤ 4194304) (hp : l.Pending.size ≤ 4194304) : Ctr Tryz.prog 44 [l.v] [] (aef l) (agy l) := by
 have hsz : (l.Durable ++ l.Pending).size = l.Durable.size + l.Pending.size := ByteArray.size_append
 refine Ctr.intro Tryz.mixed Tryz.func44 rfl Tryz.a8v ?_
 refine ev2 @Tryz.ntmps44 @Tryz.results44 ?_
 refine rs1 @Log.v.eq_1 ?_
 (have ct := anc (l.Durable ++ l.Pending) (by rw [hsz]; omega); (first | refine ak.at ct ⟨leA, trivial⟩ ?_ | refine ai.at ct ⟨leA, trivial⟩ ?_); clear ct)
 have h60 := (lq (l.Durable ++ l.Pending)).2.2.2
 have hen := vn (l.Durable ++ l.Pending) (bt (l.Durable ++ l.Pending)).length
 have htk : List.take (bt (l.Durable ++ l.Pending)).length (rows IntS.cs (mf (l.Durable ++ l.Pending) (bt (l.Durable ++ l.Pending)).length)) = rows IntS.cs (mf (l.Durable ++ l.Pending) (bt (l.Durable ++ l.Pending)).length) :=
  List.take_of_length_le (by rw [ay, hen]; omega)
 refine rs9 @anj.eq_1 @aoc.eq_1 @ay @bf @hen @htk @Nat.mul_one @List.length_cons.{0} @List.length_nil.{0} ?_
 have hsl := qd (l.Durable ++ l.Pending)
 have hw : IntKind.i64.wrap ((l.Durable.size : Int) + (l.Pending.size : Int)) = (l.Durable.size : Int) + (l.Pending.size : Int) := wrap_i64 (by omega) (by omega)
 refine dn.intro (fun i : Nat => i ≤ (dw (l.Durable ++ l.Pending)).length) (fun i => ⟨(.undef :: .ptr 0 0 :: .undef :: .undef :: .str (l.Durable ++ l.Pending) :: .osl 1 0 (bt (l.Durable ++ l.Pending)).length 2 :: .undef :: .osl 2 0 (dw (l.Durable ++ l.Pending)).length 1 :: .bool (((dw (l.Durable ++ l.Pending)).take i).any fun a => a == (l.Durable.size : Int)) :: (un 15 (.osl 2 0 (dw (l.Durable ++ l.Pending)).length 1 :: .int .i64 (dw (l.Durable ++ l.Pending)).length :: .int .i64 i :: (un 32 [])))), [some l.cs, some (rows aq.cs (bt (l.Durable ++ l.Pending))), some (rows IntS.cs (dw (l.Durable ++ l.Pending)))], 0⟩) (fun i => (dw (l.Durable ++ l.Pending)).length - i) 0 (Nat.zero_le _) ?_ (fun i hi => ?_)
 · refine bo.pick [0, 1, 3] (by decide) (fun j hj => by omega) ?_ ?_
   · simp [LeG, LeV, ren, bb, posOf, hsl]
     omega
   · simp [az, bg, ren, bb, posOf, ab, Log.cs]
     rw [dw, e9]
     simp only [IntS.cs, List.cons_append, List.nil_append]
 refine ev1 @Log.cs.eq_1 ?_
 refine aw.split (fun h1 => ?_) (fun h1 => ?_)
 · refine ev1 @h1 ?_
   have hi' : i < (dw (l.Durable ++ l.Pending)).length := by simpa using h1
   have hr := bw IntS.csl hi'
   repeat (with_reducible refine And.intro ?_ ?_; focus (first | omega | with_reducible rfl | (show cc _ = true; kernel_rfl) | (simp only [ay, bf, List.length_append, List.length_cons, List.length_nil, List.all_append, List.all_cons, List.all_nil, ch, Nat.mul_one, Nat.one_mul, Bool.and_self]; first | done | omega) | (simp only [ByteArray.size_append, cg, List.size_toArray, List.length_cons, List.length_nil]; omega)))
   have e1 : ((dw (l.Durable ++ l.Pending)).take (i + 1)).any (fun a => a == (l.Durable.size : Int)) = (((dw (l.Durable ++ l.Pending)).take i).any (fun a => a == (l.Durable.size : Int)) || ((dw (l.Durable ++ l.Pending))[i] == (l.Durable.size : Int))) := by
    rw [List.take_succ_eq_append_getElem hi', List.any_append]; simp
   rw [hr]
   refine ax.cu (fun h2 => ?_) (fun h2 => ?_) <;> refine rs3 @h2 @IntS.cs.eq_1 @Log.cs.eq_1 ?_
   · refine ⟨i + 1, hi', ?_, by omega⟩
     refine bo.cut (3) (by simp) (by simp) ?_ ?_
     · rw [e1, h2]; simp [LeC, LeV, ren, bh]
     · simp [cb, ck, ren, ab, Log.cs]
   · refine ⟨i + 1, hi', ?_, by omega⟩
     refine bo.cut (3) (by simp) (by simp) ?_ ?_
     · rw [e1, h2]; simp [LeC, LeV, ren, bh]
     · simp [cb, ck, ren, ab, Log.cs]
 · refine ev1 @h1 ?_
   have hi' : i = (dw (l.Durable ++ l.Pending)).length := by simp at h1; omega
   subst hi'
   rw [List.take_length]
   have hdu : ((dw (l.Durable ++ l.Pending)).any fun a => a == (l.Durable.size : Int)) = azy l := rfl
   rw [hdu]
   repeat (with_reducible refine And.intro ?_ ?_; focus (first | omega | with_reducible rfl | (show cc _ = true; kernel_rfl) | (simp only [ay, bf, List.length_append, List.length_cons, List.length_nil, List.all_append, List.all_cons, List.all_nil, ch, Nat.mul_one, Nat.one_mul, Bool.and_self]; first | done | omega) | (simp only [ByteArray.size_append, cg, List.size_toArray, List.length_cons, List.length_nil]; omega)))
   have hlast : (bt (l.Durable ++ l.Pending)).length < (dw (l.Durable ++ l.Pending)).length := by rw [hsl]; omega
   have hr2 := bw IntS.csl hlast
   rw [qa hlast, ← ai1] at hr2
   have hw2 : IntKind.i64.wrap (((dw (l.Durable ++ l.Pending)).length : Int) - 1) = ((bt (l.Durable ++ l.Pending)).length : Int) := by rw [wrap_i64 (by omega) (by omega)]; omega
   have hdb := auu l
   refine ax.bz (fun g1 => ?_) (fun g1 => ?_) <;> refine ev1 @g1 ?_
   · refine rs4 @hr2 @hw2 @hsz @IntS.cs.eq_1 ?_
     rw [hdb] at g1
     have hab := (x5 (l.Durable ++ l.Pending)).2
     have c1 : (((ga (l.Durable ++ l.Pending) : Nat) : Int) == ((l.Durable.size + l.Pending.size : Nat) : Int)) = decide (ga (l.Durable ++ l.Pending) = l.Durable.size + l.Pending.size) := by rw [Bool.eq_iff_iff]; simp; omega
     refine ax.bz (fun g2 => ?_) (fun g2 => ?_) <;> refine ev1 @g2 ?_
     · rw [c1] at g2
       have hb : decide (l.Durable.size + l.Pending.size ≤ 30000) = true := by simp at g2 ⊢; omega
       have hL : jd l = (l.Count == ((bt (l.Durable ++ l.Pending)).length : Int)) := by
        simp only [jd, hb, g1, g2, Bool.true_and]
        rw [Bool.eq_iff_iff]
        simp
        exact ⟨fun h => h.symm, fun h => h.symm⟩
       repeat (with_reducible refine And.intro ?_ ?_; focus (first | omega | with_reducible rfl | (show cc _ = true; kernel_rfl) | (simp only [ay, bf, List.length_append, List.length_cons, List.length_nil, List.all_append, List.all_cons, List.all_nil, ch, Nat.mul_one, Nat.one_mul, Bool.and_self]; first | done | omega) | (simp only [ByteArray.size_append, cg, List.size_toArray, List.length_cons, List.length_nil]; omega)))
       rw [aef, agy, hL]
       refine aj.pick [1] (by decide) (fun j hj => by omega) (.inl ?_) ?_
       · first | rfl | (simp [ren, bb, posOf]; done)
       · simp only [az, List.map_cons, List.map_nil, bg, List.getElem?_cons_zero, List.getElem?_cons_succ, ab]
     · rw [c1] at g2
       have hL : jd l = false := by simp only [jd, g2, Bool.false_and, Bool.and_false]
       repeat (with_reducible refine And.intro ?_ ?_; focus (first | omega | with_reducible rfl | (show cc _ = true; kernel_rfl) | (simp only [ay, bf, List.length_append, List.length_cons, List.length_nil, List.all_append, List.all_cons, List.all_nil, ch, Nat.mul_one, Nat.one_mul, Bool.and_self]; first | done | omega) | (simp only [ByteArray.size_append, cg, List.size_toArray, List.length_cons, List.length_nil]; omega)))
       rw [aef, agy, hL]
       refine aj.pick [1] (by decide) (fun j hj => by omega) (.inl ?_) ?_
       · first | rfl | (simp [ren, bb, posOf]; done)
       · simp only [az, List.map_cons, List.map_nil, bg, List.getElem?_cons_zero, List.getElem?_cons_succ, ab]
   · rw [hdb] at g1
     have hL : jd l = false := by simp only [jd, g1, Bool.false_and, Bool.and_false]
     rw [aef, agy, hL]
     refine aj.pick [1] (by decide) (fun j hj => by omega) (.inl ?_) ?_
     · first | rfl | (simp [ren, bb, posOf]; done)
     · simp only [az, List.map_cons, List.map_nil, bg, List.getElem?_cons_zero, List.getElem?_cons_succ, ab]
theorem rk (l : Log) (hd : l.Durable.size ≤ 4194304) (hp : l.Pending.size ≤ 4194304) : Ctr Tryz.prog 43 [l.v] [] (.bool (jd l)) [] := by
 refine Ctr.intro Tryz.mixed Tryz.func43 rfl Tryz.a7j ?_
 refine ev2 @Tryz.ntmps43 @Tryz.results43 ?_
 refine ev1 @Log.v.eq_1 ?_
 (have ct := afg l hd hp; (first | refine ak.at ct ⟨leA, trivial⟩ ?_ | refine ai.at ct ⟨leA, trivial⟩ ?_); clear ct)
 refine ev1 @aef.eq_1 ?_
 exact aj.au rfl (by rfl)
end Go.Proofs
end
section
set_option maxRecDepth 100000
set_option maxHeartbeats 2000000
namespace Go.Proofs
open Go.Lv
def a0x : V := .agg [.str ByteArray.empty, .str ByteArray.empty, .int .i64 0]
def aj7 (l : Log) : List V := if jd l = true then [.agg [.str (l.Durable ++ l.Pending), .str ByteArray.empty, .int .i64 l.Count], .bool true] else [a0x, .bool false]
theorem ake (l : Log) (hd : l.Durable.size ≤ 4194304) (hp : l.Pending.size ≤ 4194304) : Ctr Tryz.prog 135 [l.v] [] (.tup (aj7 l)) [] := by
 refine Ctr.intro Tryz.mixed Tryz.func135 rfl Tryz.a0m ?_
 refine ev2 @Tryz.ntmps135 @Tryz.results135 ?_
 refine ev1 @Log.v.eq_1 ?_
 repeat (with_reducible refine And.intro ?_ ?_; focus (first | omega | with_reducible rfl | (show cc _ = true; kernel_rfl) | (simp only [ay, bf, List.length_append, List.length_cons, List.length_nil, List.all_append, List.all_cons, List.all_nil, ch, Nat.mul_one, Nat.one_mul, Bool.and_self]; first | done | omega) | (simp only [ByteArray.size_append, cg, List.size_toArray, List.length_cons, List.length_nil]; omega)))
 (have ct := uk l hd hp; (first | refine ak.at ct ⟨leA, trivial⟩ ?_ | refine ai.at ct ⟨leA, trivial⟩ ?_); clear ct)
 cases h : jd l with
 | false =>
  refine rs1 @Bool.not_false ?_
  exact aj.au (by simp [aj7, h, a0x]) (by rfl)
 | true =>
  refine rs1 @Bool.not_true ?_
  exact aj.au (by simp [aj7, h]) (by rfl)
def r7 (l : Log) : Option (List aq) := if jd l = true then some (bt (l.Durable ++ l.Pending)) else none
theorem afu (l : Log) (hd : l.Durable.size ≤ 4194304) (hp : l.Pending.size ≤ 4194304) : Ctr Tryz.prog 54 [l.v] [] (yy 2 (r7 l)) (r5 aq.cs (r7 l)) := by
 have hsz : (l.Durable ++ l.Pending).size = l.Durable.size + l.Pending.size := ByteArray.size_append
 refine Ctr.intro Tryz.mixed Tryz.func54 rfl Tryz.a6f ?_
 refine ev2 @Tryz.ntmps54 @Tryz.results54 ?_
 refine ev1 @Log.v.eq_1 ?_
 (have ct := uk l hd hp; (first | refine ak.at ct ⟨leA, trivial⟩ ?_ | refine ai.at ct ⟨leA, trivial⟩ ?_); clear ct)
 cases h : jd l with
 | false =>
  refine rs1 @Bool.not_false ?_
  have e : r7 l = none := by simp [r7, h]
  rw [e]
  simp only [yy, r5]
  refine aj.pick [1] (by decide) (fun j hj => by omega) (.inl ?_) ?_
  · first | rfl | (simp [ren, bb, posOf]; done)
  · simp only [az, List.map_cons, List.map_nil, bg, List.getElem?_cons_zero, List.getElem?_cons_succ, ab]
 | true =>
  refine rs1 @Bool.not_true ?_
  (have ct := y5 (l.Durable ++ l.Pending) (by rw [hsz]; omega); (first | refine ak.at ct ⟨leA, trivial⟩ ?_ | refine ai.at ct ⟨leA, trivial⟩ ?_); clear ct)
  refine rs2 @acx.eq_1 @acm.eq_1 ?_
  have e : r7 l = some (bt (l.Durable ++ l.Pending)) := by simp [r7, h]
  rw [e]
  simp only [yy, r5]
  refine aj.pick [1] (by decide) (fun j hj => by omega) (.inl ?_) ?_
  · first | rfl | (simp [ren, bb, posOf]; done)
  · simp only [az, List.map_cons, List.map_nil, bg, List.getElem?_cons_zero, List.getElem?_cons_succ, ab]
def ad9 (s : ByteArray) : List V := if s.size ≤ 30000 then [.agg [.str (s.extract 0 (ga s)), .str ByteArray.empty, .int .i64 (bt s).length], .int .i64 (ga s), .bool true] else [a0x, .int .i64 0, .bool false]
theorem aer (s : ByteArray) (hs : s.size ≤ 281474976710656) : Ctr Tryz.prog 26 [.str s] [] (.tup (ad9 s)) [] := by
 refine Ctr.intro Tryz.mixed Tryz.func26 rfl Tryz.a8n ?_
 refine ev2 @Tryz.ntmps26 @Tryz.results26 ?_
 repeat (with_reducible refine And.intro ?_ ?_; focus (first | omega | with_reducible rfl | (show cc _ = true; kernel_rfl) | (simp only [ay, bf, List.length_append, List.length_cons, List.length_nil, List.all_append, List.all_cons, List.all_nil, ch, Nat.mul_one, Nat.one_mul, Bool.and_self]; first | done | omega) | (simp only [ByteArray.size_append, cg, List.size_toArray, List.length_cons, List.length_nil]; omega)))
 refine aw.split (fun g1 => ?_) (fun g1 => ?_) <;> refine ev1 @g1 ?_
 · repeat (with_reducible refine And.intro ?_ ?_; focus (first | omega | with_reducible rfl | (show cc _ = true; kernel_rfl) | (simp only [ay, bf, List.length_append, List.length_cons, List.length_nil, List.all_append, List.all_cons, List.all_nil, ch, Nat.mul_one, Nat.one_mul, Bool.and_self]; first | done | omega) | (simp only [ByteArray.size_append, cg, List.size_toArray, List.length_cons, List.length_nil]; omega)))
   exact aj.au (by rw [ad9, if_neg (by simp at g1; omega)]; rfl) (by rfl)
 have g1' : s.size ≤ 30000 := by simp at g1; omega
 have hb := x5 s
 (have ct := anc s (by omega); (first | refine ak.at ct ⟨leA, trivial⟩ ?_ | refine ai.at ct ⟨leA, trivial⟩ ?_); clear ct)
 have h60 := (lq s).2.2.2
 have hen := vn s (bt s).length
 have htk : List.take (bt s).length (rows IntS.cs (mf s (bt s).length)) = rows IntS.cs (mf s (bt s).length) := List.take_of_length_le (by rw [ay, hen]; omega)
 have hsl := qd s
 have hlast : (bt s).length < (dw s).length := by omega
 have hr2 := bw IntS.csl hlast
 rw [qa hlast, ← ai1] at hr2
 have hst : rows IntS.cs (dw s) = V.int .i64 0 :: rows IntS.cs (mf s (bt s).length) := by rw [dw, e9]; simp only [IntS.cs, List.cons_append, List.nil_append]
 rw [hst, Nat.mul_one] at hr2
 refine rs11 @anj.eq_1 @aoc.eq_1 @ay @bf @hen @htk @Nat.mul_one @List.length_cons.{0} @List.length_nil.{0} @hr2 @IntS.cs.eq_1 ?_
 exact aj.au (by rw [ad9, if_pos g1']) (by rfl)
end Go.Proofs
end
section
set_option maxRecDepth 100000
set_option maxHeartbeats 2000000
namespace Go.Proofs
open Go.Lv
def x9 (l : Log) (e : aq) : List V := if jd l = true ∧ ic e = true then (if l.Count = 60 then [l.v, .int .i64 2] else [.agg [.str l.Durable, .str (l.Pending ++ cf l.Count e), .int .i64 (l.Count + 1)], .int .i64 0]) else [l.v, .int .i64 1]
theorem kf {l : Log} (h : jd l = true) : 0 ≤ l.Count ∧ l.Count ≤ 60 := by
 simp [jd] at h
 have := (lq (l.Durable ++ l.Pending)).2.2.2
 omega
theorem abw (l : Log) (e : aq) (hd : l.Durable.size ≤ 4194304) (hp : l.Pending.size ≤ 4194304) (hc : e.Command.size ≤ 4194304) (hr : e.Reply.size ≤ 4194304) : Ctr Tryz.prog 36 [l.v, e.v] [] (.tup (x9 l e)) [] := by
 refine Ctr.intro Tryz.mixed Tryz.func36 rfl Tryz.a4p ?_
 refine ev2 @Tryz.ntmps36 @Tryz.results36 ?_
 refine ev2 @Log.v.eq_1 @aq.v.eq_1 ?_
 repeat (with_reducible refine And.intro ?_ ?_; focus (first | omega | with_reducible rfl | (show cc _ = true; kernel_rfl) | (simp only [ay, bf, List.length_append, List.length_cons, List.length_nil, List.all_append, List.all_cons, List.all_nil, ch, Nat.mul_one, Nat.one_mul, Bool.and_self]; first | done | omega) | (simp only [ByteArray.size_append, cg, List.size_toArray, List.length_cons, List.length_nil]; omega)))
 (have ct := rk l hd hp; (first | refine ak.at ct ⟨leA, trivial⟩ ?_ | refine ai.at ct ⟨leA, trivial⟩ ?_); clear ct)
 refine ev0 ?_
 refine ax.cu (fun g1 => ?_) (fun g1 => ?_) <;> refine rs1 @g1 ?_
 rotate_left
 · exact aj.au (by rw [x9, if_neg (by simp at g1; simp [g1])]; rfl) (by rfl)
 (have ct := nn e (by omega) (by omega); (first | refine ak.at ct ⟨leA, trivial⟩ ?_ | refine ai.at ct ⟨leA, trivial⟩ ?_); clear ct)
 refine ev0 ?_
 refine aw.split (fun g2 => ?_) (fun g2 => ?_) <;> refine rs1 @g2 ?_
 · exact aj.au (by rw [x9, if_neg (by simp at g2; simp [g2])]; rfl) (by rfl)
 have hL : jd l = true := by simpa using g1
 have hE : ic e = true := by simpa using g2
 have hb := kf hL
 refine aw.split (fun g3 => ?_) (fun g3 => ?_) <;> refine rs1 @g3 ?_
 · exact aj.au (by rw [x9, if_pos ⟨hL, hE⟩, if_pos (by simpa using g3)]; rfl) (by rfl)
 have g3' : ¬ l.Count = 60 := by simpa using g3
 have hk : 0 ≤ l.Count ∧ l.Count ≤ 59 := by omega
 have z1 := gr hk hE
 have z2 := jb (di l.Count e)
 have z3 : (cf l.Count e).size = (ky (di l.Count e)).size + 1 := by rw [cf, ByteArray.size_append]; rfl
 have hi := ur l.Count e (by omega) (by omega)
 rw [amw, if_pos ⟨gg.2 hk, hE⟩] at hi
 (first | refine ak.at (hi) ⟨leA, leA, trivial⟩ ?_ | refine ai.at (hi) ⟨leA, leA, trivial⟩ ?_)
 refine rs0 ?_
 exact aj.au (by rw [x9, if_pos ⟨hL, hE⟩, if_neg g3']) (by rfl)
theorem ot (l : Log) (e : aq) (hd : l.Durable.size ≤ 4194304) (hp : l.Pending.size ≤ 4194304) (hc : e.Command.size ≤ 4194304) (hr : e.Reply.size ≤ 4194304) : Ctr Tryz.prog 30 [l.v, e.v] [] (.tup (x9 l e)) [] := by
 refine Ctr.intro Tryz.mixed Tryz.func30 rfl Tryz.a5w ?_
 refine ev2 @Tryz.ntmps30 @Tryz.results30 ?_
 refine ev2 @Log.v.eq_1 @aq.v.eq_1 ?_
 repeat (with_reducible refine And.intro ?_ ?_; focus (first | omega | with_reducible rfl | (show cc _ = true; kernel_rfl) | (simp only [ay, bf, List.length_append, List.length_cons, List.length_nil, List.all_append, List.all_cons, List.all_nil, ch, Nat.mul_one, Nat.one_mul, Bool.and_self]; first | done | omega) | (simp only [ByteArray.size_append, cg, List.size_toArray, List.length_cons, List.length_nil]; omega)))
 (have ct := uk l hd hp; (first | refine ak.at ct ⟨leA, trivial⟩ ?_ | refine ai.at ct ⟨leA, trivial⟩ ?_); clear ct)
 refine ev0 ?_
 refine ax.cu (fun g1 => ?_) (fun g1 => ?_) <;> refine rs1 @g1 ?_
 rotate_left
 · exact aj.au (by rw [x9, if_neg (by simp at g1; simp [g1])]; rfl) (by rfl)
 (have ct := vb e (by omega) (by omega); (first | refine ak.at ct ⟨leA, trivial⟩ ?_ | refine ai.at ct ⟨leA, trivial⟩ ?_); clear ct)
 refine ev0 ?_
 refine aw.split (fun g2 => ?_) (fun g2 => ?_) <;> refine rs1 @g2 ?_
 · exact aj.au (by rw [x9, if_neg (by simp at g2; simp [g2])]; rfl) (by rfl)
 have hL : jd l = true := by simpa using g1
 have hE : ic e = true := by simpa using g2
 have hb := kf hL
 refine aw.split (fun g3 => ?_) (fun g3 => ?_) <;> refine rs1 @g3 ?_
 · exact aj.au (by rw [x9, if_pos ⟨hL, hE⟩, if_pos (by simpa using g3)]; rfl) (by rfl)
 have g3' : ¬ l.Count = 60 := by simpa using g3
 have hk : 0 ≤ l.Count ∧ l.Count ≤ 59 := by omega
 have z1 := gr hk hE
 have z2 := jb (di l.Count e)
 have z3 : (cf l.Count e).size = (ky (di l.Count e)).size + 1 := by rw [cf, ByteArray.size_append]; rfl
 (have ct := adx l.Count e hk hE; (first | refine ak.at ct ⟨leA, leA, trivial⟩ ?_ | refine ai.at ct ⟨leA, leA, trivial⟩ ?_); clear ct)
 refine rs0 ?_
 exact aj.au (by rw [x9, if_pos ⟨hL, hE⟩, if_neg g3']) (by rfl)
end Go.Proofs
end
section
set_option maxRecDepth 100000
set_option maxHeartbeats 2000000
namespace Go.Proofs
open Go.Lv
def recP (B : List Int) (k : Int) (r : V) (hout : Hp) : Prop := ∃ (e : aq) (c : Cur), e.Command.size ≤ 100 ∧ e.Reply.size ≤ 100 ∧ c.le k ∧ r = e.v ∧ hout = [some (c.cs B)]
theorem ah4 {B : List Int} {k : Int} {h : Hp} {x y : ByteArray} {c : Cur} (h0 : h[0]? = some (some (c.cs B))) (hx : x.size ≤ 100) (hy : y.size ≤ 100) (hc : c.le k) : yl 1 (.agg [.str x, .str y]) h (recP B k) := by
 refine ⟨_, _, ⟨⟨x, y⟩, c, hx, hy, hc, rfl, rfl⟩, aj.pick [0] (by decide) (fun j hj => by cases j <;> simp_all) (.inl rfl) ?_⟩
 simp only [az, List.map_cons, List.map_nil, bg, h0, Cur.ren]
theorem aak {B : List Int} (hB : CB B) {k : Int} (hk : k ≤ 1000000) {c : Cur} (hc : c.le k) : lr Tryz.prog 52 [.ptr 0 0] [some (c.cs B)] (recP B (k + 20)) := by
 have hcb : ∀ {c' : Cur} {k' : Int}, c'.le k' → k' ≤ 4000000 → c'.le 4611686018427387903 := fun h h' => ⟨h.1, by have := h.2; omega⟩
 refine lr.intro Tryz.mixed Tryz.func52 rfl Tryz.a8x ?_
 refine ev2 @Tryz.ntmps52 @Tryz.results52 ?_
 refine rs0 ?_
 have pc1 := agf hB (hcb hc (by omega)) [⟨#[99, 111, 117, 110, 116]⟩, ⟨#[115, 111, 114, 116, 32, 109, 101, 114, 103, 101]⟩, ⟨#[120]⟩, ⟨#[115, 101, 108, 101, 99, 116, 32, 50]⟩, ⟨#[48, 32, 49]⟩] (by simp) (by simp); have hc1 := dt (B := B) (n := (([⟨#[99, 111, 117, 110, 116]⟩, ⟨#[115, 111, 114, 116, 32, 109, 101, 114, 103, 101]⟩, ⟨#[120]⟩, ⟨#[115, 101, 108, 101, 99, 116, 32, 50]⟩, ⟨#[48, 32, 49]⟩] : List ByteArray).length : Int)) hc; have pvc1 := xr hB (K := [⟨#[99, 111, 117, 110, 116]⟩, ⟨#[115, 111, 114, 116, 32, 109, 101, 114, 103, 101]⟩, ⟨#[120]⟩, ⟨#[115, 101, 108, 101, 99, 116, 32, 50]⟩, ⟨#[48, 32, 49]⟩]) (by simp) hc.1; generalize ofV B [⟨#[99, 111, 117, 110, 116]⟩, ⟨#[115, 111, 114, 116, 32, 109, 101, 114, 103, 101]⟩, ⟨#[120]⟩, ⟨#[115, 101, 108, 101, 99, 116, 32, 50]⟩, ⟨#[48, 32, 49]⟩] c = vc1 at pc1 pvc1; generalize fj B (([⟨#[99, 111, 117, 110, 116]⟩, ⟨#[115, 111, 114, 116, 32, 109, 101, 114, 103, 101]⟩, ⟨#[120]⟩, ⟨#[115, 101, 108, 101, 99, 116, 32, 50]⟩, ⟨#[48, 32, 49]⟩] : List ByteArray).length : Int) c = c1 at pc1 hc1; (first | refine ai.dp [0, 1] false pc1 (by decide) ⟨leO, leO, trivial⟩ (br rfl rfl) (bq B _ _) (.inl rfl) ?_ | refine ai.dp [0, 2] false pc1 (by decide) ⟨leO, leO, trivial⟩ (br rfl rfl) (bq B _ _) (.inl rfl) ?_ | refine ai.dp [0, 3] false pc1 (by decide) ⟨leO, leO, trivial⟩ (br rfl rfl) (bq B _ _) (.inl rfl) ?_ | refine ai.dp [0, 4] false pc1 (by decide) ⟨leO, leO, trivial⟩ (br rfl rfl) (bq B _ _) (.inl rfl) ?_ | refine ai.dp [0, 5] false pc1 (by decide) ⟨leO, leO, trivial⟩ (br rfl rfl) (bq B _ _) (.inl rfl) ?_ | refine ai.dp [0, 6] false pc1 (by decide) ⟨leO, leO, trivial⟩ (br rfl rfl) (bq B _ _) (.inl rfl) ?_ | refine ai.dp [0, 7] false pc1 (by decide) ⟨leO, leO, trivial⟩ (br rfl rfl) (bq B _ _) (.inl rfl) ?_ | refine ai.dp [0, 8] false pc1 (by decide) ⟨leO, leO, trivial⟩ (br rfl rfl) (bq B _ _) (.inl rfl) ?_)
 refine rs2 @Cur.ren @ab ?_
 have pc2 := agf hB (hcb hc1 (by omega)) [⟨#[]⟩, ⟨#[51]⟩, ⟨#[63]⟩, ⟨#[97, 64, 98]⟩, ⟨#[51, 32, 49, 32, 50]⟩] (by simp) (by simp); have hc2 := dt (B := B) (n := (([⟨#[]⟩, ⟨#[51]⟩, ⟨#[63]⟩, ⟨#[97, 64, 98]⟩, ⟨#[51, 32, 49, 32, 50]⟩] : List ByteArray).length : Int)) hc1; have pvc2 := xr hB (K := [⟨#[]⟩, ⟨#[51]⟩, ⟨#[63]⟩, ⟨#[97, 64, 98]⟩, ⟨#[51, 32, 49, 32, 50]⟩]) (by simp) hc1.1; generalize ofV B [⟨#[]⟩, ⟨#[51]⟩, ⟨#[63]⟩, ⟨#[97, 64, 98]⟩, ⟨#[51, 32, 49, 32, 50]⟩] c1 = vc2 at pc2 pvc2; generalize fj B (([⟨#[]⟩, ⟨#[51]⟩, ⟨#[63]⟩, ⟨#[97, 64, 98]⟩, ⟨#[51, 32, 49, 32, 50]⟩] : List ByteArray).length : Int) c1 = c2 at pc2 hc2; (first | refine ai.dp [0, 1] false pc2 (by decide) ⟨leO, leO, trivial⟩ (br rfl rfl) (bq B _ _) (.inl rfl) ?_ | refine ai.dp [0, 2] false pc2 (by decide) ⟨leO, leO, trivial⟩ (br rfl rfl) (bq B _ _) (.inl rfl) ?_ | refine ai.dp [0, 3] false pc2 (by decide) ⟨leO, leO, trivial⟩ (br rfl rfl) (bq B _ _) (.inl rfl) ?_ | refine ai.dp [0, 4] false pc2 (by decide) ⟨leO, leO, trivial⟩ (br rfl rfl) (bq B _ _) (.inl rfl) ?_ | refine ai.dp [0, 5] false pc2 (by decide) ⟨leO, leO, trivial⟩ (br rfl rfl) (bq B _ _) (.inl rfl) ?_ | refine ai.dp [0, 6] false pc2 (by decide) ⟨leO, leO, trivial⟩ (br rfl rfl) (bq B _ _) (.inl rfl) ?_ | refine ai.dp [0, 7] false pc2 (by decide) ⟨leO, leO, trivial⟩ (br rfl rfl) (bq B _ _) (.inl rfl) ?_ | refine ai.dp [0, 8] false pc2 (by decide) ⟨leO, leO, trivial⟩ (br rfl rfl) (bq B _ _) (.inl rfl) ?_)
 refine rs2 @Cur.ren @ab ?_
 refine gj hB hc2 (by omega) 24 (by omega) rfl (fun vc3 c3 pvc3 hc3 => ?_)
 refine rs2 @Cur.ren @ab ?_
 have hx := wu pvc1 (by rfl)
 have hy := wu pvc2 (by rfl)
 refine aw.split (fun h1 => ?_) (fun h1 => ?_)
 · refine rs1 @h1 ?_
   have hz : oa (List.take 3 (xn 3 [V.int .u8 0])) = some [0, 0, 0] := rfl
   rw [hz]
   refine rs0 ?_
   have pc4 := agf hB (hcb hc3 (by omega)) [⟨#[]⟩, ⟨#[97, 64, 98]⟩, ⟨#[97, 35]⟩, ⟨#[10]⟩, strOfNums [0, 0, 0]] (by simp) (by simp); have hc4 := dt (B := B) (n := (([⟨#[]⟩, ⟨#[97, 64, 98]⟩, ⟨#[97, 35]⟩, ⟨#[10]⟩, strOfNums [0, 0, 0]] : List ByteArray).length : Int)) hc3; have pvc4 := xr hB (K := [⟨#[]⟩, ⟨#[97, 64, 98]⟩, ⟨#[97, 35]⟩, ⟨#[10]⟩, strOfNums [0, 0, 0]]) (by simp) hc3.1; generalize ofV B [⟨#[]⟩, ⟨#[97, 64, 98]⟩, ⟨#[97, 35]⟩, ⟨#[10]⟩, strOfNums [0, 0, 0]] c3 = vc4 at pc4 pvc4; generalize fj B (([⟨#[]⟩, ⟨#[97, 64, 98]⟩, ⟨#[97, 35]⟩, ⟨#[10]⟩, strOfNums [0, 0, 0]] : List ByteArray).length : Int) c3 = c4 at pc4 hc4; (first | refine ai.dp [0, 1] false pc4 (by decide) ⟨leO, leO, trivial⟩ (br rfl rfl) (bq B _ _) (.inl rfl) ?_ | refine ai.dp [0, 2] false pc4 (by decide) ⟨leO, leO, trivial⟩ (br rfl rfl) (bq B _ _) (.inl rfl) ?_ | refine ai.dp [0, 3] false pc4 (by decide) ⟨leO, leO, trivial⟩ (br rfl rfl) (bq B _ _) (.inl rfl) ?_ | refine ai.dp [0, 4] false pc4 (by decide) ⟨leO, leO, trivial⟩ (br rfl rfl) (bq B _ _) (.inl rfl) ?_ | refine ai.dp [0, 5] false pc4 (by decide) ⟨leO, leO, trivial⟩ (br rfl rfl) (bq B _ _) (.inl rfl) ?_ | refine ai.dp [0, 6] false pc4 (by decide) ⟨leO, leO, trivial⟩ (br rfl rfl) (bq B _ _) (.inl rfl) ?_ | refine ai.dp [0, 7] false pc4 (by decide) ⟨leO, leO, trivial⟩ (br rfl rfl) (bq B _ _) (.inl rfl) ?_ | refine ai.dp [0, 8] false pc4 (by decide) ⟨leO, leO, trivial⟩ (br rfl rfl) (bq B _ _) (.inl rfl) ?_)
   refine rs2 @Cur.ren @ab ?_
   exact ah4 rfl (wu pvc4 (by decide)) hy (fa hc4 (by omega))
 · refine rs1 @h1 ?_
   refine aw.split (fun h2 => ?_) (fun h2 => ?_)
   · refine rs1 @h2 ?_
     have pc4 := agf hB (hcb hc3 (by omega)) [⟨#[35]⟩, ⟨#[10]⟩, ⟨#[127]⟩] (by simp) (by simp); have hc4 := dt (B := B) (n := (([⟨#[35]⟩, ⟨#[10]⟩, ⟨#[127]⟩] : List ByteArray).length : Int)) hc3; have pvc4 := xr hB (K := [⟨#[35]⟩, ⟨#[10]⟩, ⟨#[127]⟩]) (by simp) hc3.1; generalize ofV B [⟨#[35]⟩, ⟨#[10]⟩, ⟨#[127]⟩] c3 = vc4 at pc4 pvc4; generalize fj B (([⟨#[35]⟩, ⟨#[10]⟩, ⟨#[127]⟩] : List ByteArray).length : Int) c3 = c4 at pc4 hc4; (first | refine ai.dp [0, 1] false pc4 (by decide) ⟨leO, leO, trivial⟩ (br rfl rfl) (bq B _ _) (.inl rfl) ?_ | refine ai.dp [0, 2] false pc4 (by decide) ⟨leO, leO, trivial⟩ (br rfl rfl) (bq B _ _) (.inl rfl) ?_ | refine ai.dp [0, 3] false pc4 (by decide) ⟨leO, leO, trivial⟩ (br rfl rfl) (bq B _ _) (.inl rfl) ?_ | refine ai.dp [0, 4] false pc4 (by decide) ⟨leO, leO, trivial⟩ (br rfl rfl) (bq B _ _) (.inl rfl) ?_ | refine ai.dp [0, 5] false pc4 (by decide) ⟨leO, leO, trivial⟩ (br rfl rfl) (bq B _ _) (.inl rfl) ?_ | refine ai.dp [0, 6] false pc4 (by decide) ⟨leO, leO, trivial⟩ (br rfl rfl) (bq B _ _) (.inl rfl) ?_ | refine ai.dp [0, 7] false pc4 (by decide) ⟨leO, leO, trivial⟩ (br rfl rfl) (bq B _ _) (.inl rfl) ?_ | refine ai.dp [0, 8] false pc4 (by decide) ⟨leO, leO, trivial⟩ (br rfl rfl) (bq B _ _) (.inl rfl) ?_)
     refine rs2 @Cur.ren @ab ?_
     exact ah4 rfl hx (wu pvc4 (by rfl)) (fa hc4 (by omega))
   · refine rs1 @h2 ?_
     exact ah4 rfl hx hy (fa hc3 (by omega))
def a0e (B : List Int) (b : Nat) (k : Int) (r : V) (hout : Hp) : Prop := ∃ (l : Log) (c : Cur), l.Durable.size ≤ b ∧ l.Pending.size ≤ b ∧ bu l.Count ∧ c.le k ∧ r = l.v ∧ hout = [some (c.cs B)]
theorem zr {B : List Int} {b : Nat} {k : Int} {h : Hp} {x y : ByteArray} {n : Int} {c : Cur} (h0 : h[0]? = some (some (c.cs B))) (hx : x.size ≤ b) (hy : y.size ≤ b) (hn : bu n) (hc : c.le k) : yl 1 (.agg [.str x, .str y, .int .i64 n]) h (a0e B b k) := by
 refine ⟨_, _, ⟨⟨x, y, n⟩, c, hx, hy, hn, hc, rfl, rfl⟩, aj.pick [0] (by decide) (fun j hj => by cases j <;> simp_all) (.inl rfl) ?_⟩
 simp only [az, List.map_cons, List.map_nil, bg, h0, Cur.ren]
theorem afq {l : Log} (h : jd l = true) : l.Durable.size + l.Pending.size ≤ 30000 := by
 simp only [jd, Bool.and_eq_true, decide_eq_true_eq] at h
 exact h.1
theorem amg (l : Log) (e : aq) (hd : l.Durable.size ≤ 40000) (hp : l.Pending.size ≤ 40000) (hn : bu l.Count) : ∃ (l' : Log) (n : Int), x9 l e = [l'.v, .int .i64 n] ∧ l'.Durable.size ≤ 40000 ∧ l'.Pending.size ≤ 40000 ∧ bu l'.Count := by
 unfold x9
 split
 · rename_i h
   split
   · exact ⟨l, 2, rfl, hd, hp, hn⟩
   · rename_i h2
     have h3 := afq h.1
     have h4 := kf h.1
     have hk : 0 ≤ l.Count ∧ l.Count ≤ 59 := by omega
     have z1 := gr hk h.2
     have z2 := jb (di l.Count e)
     have z3 : (cf l.Count e).size = (ky (di l.Count e)).size + 1 := by rw [cf, ByteArray.size_append]; rfl
     refine ⟨⟨l.Durable, l.Pending ++ cf l.Count e, l.Count + 1⟩, 0, rfl, hd, ?_, ⟨by simp only []; omega, by simp only []; omega⟩⟩
     simp only [ByteArray.size_append]
     omega
 · exact ⟨l, 1, rfl, hd, hp, hn⟩
theorem akk (l : Log) (hd : l.Durable.size ≤ 40000) (hp : l.Pending.size ≤ 40000) (hn : bu l.Count) : ∃ (l' : Log) (b : Bool), aj7 l = [l'.v, .bool b] ∧ l'.Durable.size ≤ 40000 ∧ l'.Pending.size ≤ 40000 ∧ bu l'.Count := by
 unfold aj7
 split
 · rename_i h
   have h3 := afq h
   exact ⟨⟨l.Durable ++ l.Pending, ByteArray.empty, l.Count⟩, true, rfl, by simp only [ByteArray.size_append]; omega, by simp, hn⟩
 · exact ⟨⟨ByteArray.empty, ByteArray.empty, 0⟩, false, rfl, by simp, by simp, by simp [bu]⟩
theorem azo {B : List Int} (hB : CB B) {k : Int} (hk : k ≤ 100000) {c : Cur} (hc : c.le k) : lr Tryz.prog 102 [.ptr 0 0] [some (c.cs B)] (a0e B 40000 (k + 1000)) := by
 have hcb : ∀ {c' : Cur} {k' : Int}, c'.le k' → k' ≤ 4000000 → c'.le 4611686018427387903 := fun h h' => ⟨h.1, by have := h.2; omega⟩
 refine lr.intro Tryz.mixed Tryz.func102 rfl Tryz.azj ?_
 refine ev2 @Tryz.ntmps102 @Tryz.results102 ?_
 refine rs0 ?_
 refine gj hB hc (by omega) 7 (by omega) rfl (fun vc1 c1 pvc1 hc1 => ?_)
 refine rs1 @Cur.ren ?_
 obtain ⟨n0, hn0⟩ : ∃ n : Nat, vc1 = n := ⟨vc1.toNat, by omega⟩
 subst hn0
 refine dn.intro (fun x : Nat × Log × Cur => x.1 ≤ 7 ∧ x.2.1.Durable.size ≤ 40000 ∧ x.2.1.Pending.size ≤ 40000 ∧ bu x.2.1.Count ∧ x.2.2.le (k + 2 + 30 * (7 - (x.1 : Int)))) (fun x => ⟨(.ptr 0 0 :: .undef :: .ptr 1 0 :: .ptr 2 0 :: .int .i64 x.1 :: (un 22 [])), [some (x.2.2.cs B), some Log.zs, some x.2.1.cs], 1⟩) (fun x => x.1) (n0, ⟨ByteArray.empty, ByteArray.empty, 0⟩, c1) ⟨by simp only []; omega, by simp, by simp, by simp [bu], fa hc1 (by simp only []; omega)⟩ ?_ (fun x hx => ?_)
 · refine bo.cut (3) (by simp) (by simp) ?_ ?_
   · simp [LeC, LeV, ren, bh]
   · simp [cb, ck, Cur.ren, ren, Log.zs, Log.cs]
 obtain ⟨n, l, c2⟩ := x
 obtain ⟨x1, x2, x3, x4, hc2⟩ := hx
 dsimp only at x1 x2 x3 x4 hc2
 refine ev0 ?_
 refine aw.split (fun h1 => ?_) (fun h1 => ?_)
 · have hn : 0 < n := by have := of_decide_eq_true h1; omega
   refine rs1 @h1 ?_
   refine clT.tree (fun s2 => ∃ (l' : Log) (c4 : Cur), l'.Durable.size ≤ 40000 ∧ l'.Pending.size ≤ 40000 ∧ bu l'.Count ∧ c4.le (k + 2 + 30 * (7 - (n : Int)) + 20) ∧ s2 = ⟨(.ptr 0 0 :: .undef :: .ptr 1 0 :: .ptr 2 0 :: .int .i64 n :: (un 22 [])), [some (c4.cs B), some Log.zs, some l'.cs], 1⟩) (.take 1 (.alt 0 (.alt 2 (.alt 3 (.take 4 (.take 5 (.take 6 (.alt 7 .done .stop)))) .stop) .stop) (.alt 2 (.alt 0 (.alt 3 (.take 4 (.take 5 (.take 6 (.alt 7 .done .stop)))) .stop) .stop) .stop))) (by kernel_rfl) (fun s2 hs2 => ?_) ?_
   · obtain ⟨l', c4, y1, y2, y3, hc4, rfl⟩ := hs2
     refine rs0 ?_
     refine eb hB hc4 (by omega) 4 (by omega) rfl (fun vc5 c5 hc5 => ?_)
     refine rs3 @Cur.ren @Log.zs.eq_1 @Log.cs.eq_1 ?_
     have hn1 : ((n - 1 : Nat) : Int) = (n : Int) - 1 := by omega
     refine aw.split (fun h2 => ?_) (fun h2 => ?_)
     · refine rs2 @h2 @Log.cs.eq_1 ?_
       obtain ⟨l2, b2, e2, z1, z2, z3⟩ := akk l' y1 y2 y3
       have hs := ake l' (by omega) (by omega)
       rw [e2] at hs
       (first | refine ak.at (hs) ⟨leA, trivial⟩ ?_ | refine ai.at (hs) ⟨leA, trivial⟩ ?_)
       refine rs1 @Log.v.eq_1 ?_
       refine ⟨(n - 1, l2, c5), ⟨by simp only []; omega, z1, z2, z3, fa hc5 (by simp only []; omega)⟩, ?_, by simp only []; omega⟩
       refine bo.cut (3) (by simp) (by simp) ?_ ?_
       · simp [LeC, LeV, ren, bh, hn1]
       · simp [cb, ck, Cur.ren, ren, Log.zs, Log.cs]
     · refine rs1 @h2 ?_
       refine ⟨(n - 1, l', c5), ⟨by simp only []; omega, y1, y2, y3, fa hc5 (by simp only []; omega)⟩, ?_, by simp only []; omega⟩
       refine bo.cut (3) (by simp) (by simp) ?_ ?_
       · simp [LeC, LeV, ren, bh, hn1]
       · simp [cb, ck, Cur.ren, ren, Log.zs, Log.cs]
   · refine rs1 @Log.cs.eq_1 ?_
     repeat' (first | (refine ai.rel [0] (aak hB (by omega) hc2) (by decide) ⟨leO, trivial⟩ (dm rfl) rfl (fun r hout hΦ => ?_); obtain ⟨e, c4, he1, he2, hc4, rfl, rfl⟩ := hΦ; refine ⟨⟨⟨rfl, rfl⟩, trivial⟩, ?_⟩; obtain ⟨l2, n2, e2, z1, z2, z3⟩ := amg l e x2 x3 x4; have ha := ot l e (by omega) (by omega) (by omega) (by omega); rw [e2] at ha; refine rs4 @Cur.ren @Log.cs.eq_1 @aq.v.eq_1 @Log.zs.eq_1 ?_) | ((first | refine ak.at (ha) ⟨leA, leA, trivial⟩ ?_ | refine ai.at (ha) ⟨leA, leA, trivial⟩ ?_); refine rs1 @Log.v.eq_1 ?_) | (refine And.intro ?_ ?_) | exact trivial)
     all_goals
      refine ⟨_, ⟨l2, c4, z1, z2, z3, fa hc4 (by omega), rfl⟩, ?_⟩
      refine bo.cut (3) (by simp) (by simp) ?_ ?_
      · simp [LeC, LeV, ren, bh]
      · simp [cb, ck, Cur.ren, ren, Log.zs, Log.cs]
 · refine rs2 @h1 @Log.cs.eq_1 ?_
   exact zr rfl x2 x3 x4 (fa hc2 (by omega))
end Go.Proofs
end
section
set_option maxRecDepth 100000
set_option maxHeartbeats 2000000
namespace Go.Proofs
open Go.Lv
theorem agb {B : List Int} (hB : CB B) {k : Int} (hk : k ≤ 100000) {c : Cur} (hc : c.le k) : lr Tryz.prog 60 [.ptr 0 0] [some (c.cs B)] (a0e B 100000 (k + 1100)) := by
 have hcb : ∀ {c' : Cur} {k' : Int}, c'.le k' → k' ≤ 4000000 → c'.le 4611686018427387903 := fun h h' => ⟨h.1, by have := h.2; omega⟩
 refine lr.intro Tryz.mixed Tryz.func60 rfl Tryz.a64 ?_
 refine ev2 @Tryz.ntmps60 @Tryz.results60 ?_
 refine rs0 ?_
 refine ai.rel [0] (azo hB hk hc) (by decide) ⟨leO, trivial⟩ (dm rfl) rfl (fun r hout hΦ => ?_)
 obtain ⟨l, c1, x1, x2, x3, hc1, rfl, rfl⟩ := hΦ
 refine ⟨⟨⟨rfl, rfl⟩, trivial⟩, ?_⟩
 refine rs2 @Cur.ren @Log.v.eq_1 ?_
 refine gj hB hc1 (by omega) 24 (by omega) rfl (fun vc2 c2 pvc2 hc2 => ?_)
 refine rs1 @Cur.ren ?_
 refine aw.split (fun h1 => ?_) (fun h1 => ?_)
 · refine rs1 @h1 ?_
   exact zr rfl (by omega) (by omega) (by unfold bu IntKind.wrap; simp [IntKind.bits, IntKind.signed]; omega) (fa hc2 (by omega))
 · refine rs1 @h1 ?_
   refine aw.split (fun h2 => ?_) (fun h2 => ?_)
   · refine rs1 @h2 ?_
     refine ai.rel [0] (aom hB (by omega) hc2 l.Pending ⟨#[35, 64, 10, 48, 49]⟩ (by omega) (by decide)) (by decide) ⟨leO, leO, leO, trivial⟩ (dm rfl) rfl (fun r hout hΦ => ?_)
     obtain ⟨x, c3, y1, hc3, rfl, rfl⟩ := hΦ
     refine ⟨⟨⟨rfl, rfl⟩, trivial⟩, ?_⟩
     refine rs1 @Cur.ren ?_
     exact zr rfl (by omega) (by omega) x3 (fa hc3 (by omega))
   · refine rs1 @h2 ?_
     refine aw.split (fun h3 => ?_) (fun h3 => ?_)
     · refine rs1 @h3 ?_
       exact zr rfl (by simp only [ByteArray.size_append]; omega) (by omega) x3 (fa hc2 (by omega))
     · refine rs1 @h3 ?_
       exact zr rfl (by omega) (by omega) x3 (fa hc2 (by omega))
end Go.Proofs
end
