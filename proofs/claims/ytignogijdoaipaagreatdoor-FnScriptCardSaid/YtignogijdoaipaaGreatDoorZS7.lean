/-
  A part of the proof: texts put together by a program of the prover. Conditions: none.
-/
import Derived.Test.YtignogijdoaipaaGreatDoorZS4
import Derived.Test.YtignogijdoaipaaGreatDoorZS5
import Derived.Test.YtignogijdoaipaaGreatDoorZS6
import Derived.Lib.AppendIntMem
set_option linter.unusedSimpArgs false
set_option linter.unusedVariables false
section
set_option maxRecDepth 100000
namespace Go.Proofs
open Go.Lv
theorem aok {w : World} {av : Nat → Prop} (h : GL w av) : Lib.TabIs Tryz.prog w "internal/strconv.uint64pow10" .u64 Lib.pow10Tab := by
 obtain ⟨_, T, fr, h2⟩ := h.1 _ (List.mem_singleton.2 rfl)
 have hg : Tryz.prog.globalNamed "internal/strconv.uint64pow10" = some 5 := by kernel_rfl
 unfold Lib.TabIs World.var?
 rw [hg, Option.bind_some, h2]
 rfl
theorem aj8 {W : World} (h : Lib.TabIs Tryz.prog W "internal/strconv.uint64pow10" .u64 Lib.pow10Tab) (hv : ∀ p ∈ ae5, ¬ False ∧ ∃ C T fr v, W.heap[p.1]? = some (.cells C T fr) ∧ C[0]? = some v ∧ axz p.2 v) : GL W (fun _ => False) := by
 refine ⟨fun p hp => ?_, hv⟩
 have hp' := List.mem_singleton.1 hp
 subst hp'
 have hg : Tryz.prog.globalNamed "internal/strconv.uint64pow10" = some 5 := by kernel_rfl
 unfold Lib.TabIs World.var? at h
 rw [hg, Option.bind_some] at h
 dsimp only at h ⊢
 split at h
 · rename_i cs T fr hc
   refine ⟨fun h => h, T, fr, ?_⟩
   rw [hc]
   simp only [Option.some.injEq] at h
   subst h
   rfl
 · cases h
theorem n8 (n : Int) (hn : bt n) : Ctr Tryz.prog 97 [.int .i64 n] [] (.str (num n)) [] := by
 refine ⟨Tryz.a1n, fun w vs m av hH hav hgl hsz ha => ?_⟩
 obtain ⟨v, rfl⟩ : ∃ v, vs = #[v] := by
  match vs, hsz with
  | ⟨[v]⟩, _ => exact ⟨v, rfl⟩
 have h0 := ha 0 (by simp)
 simp only [List.getElem_cons_zero] at h0
 have hv : v = .int .i64 n := by
  have := sx h0
  simpa using this
 subst hv
 refine (Tryz.strconv_Itoa n hn.1 hn.2 w (aok hgl)).mono ?_
 rintro e w' ⟨rfl, k, os, rfl⟩
 refine ⟨_, m, rfl, ?_, ⟨fun i j ci cj h => by simp at h, fun id cs h => by simp at h, fun id cs h => by simp at h⟩, .str _, fun id cs h => by simp at h⟩
 have hb : ∀ g, g < w.heap.size → (Sort.grow (w.drewN k) os).heap[g]? = w.heap[g]? := fun g hg => Lib.heap_grow_old w k os g hg
 exact ⟨rfl, rfl, rfl, Lib.size_grow w k os, fun g hg _ => hb g hg, fun g hg => Nat.le_of_eq (im (hb g hg)).symm⟩
theorem lu (n : Int) (hn : bt n) : Ctr Tryz.prog 47 [.int .i64 n] [] (.str (num n)) [] := by
 refine Ctr.intro Tryz.mixed Tryz.func47 rfl Tryz.a4l ?_
 refine ev2 @Tryz.ntmps47 @Tryz.results47 ?_
 (first | refine al.at (n8 n hn) ⟨leA, trivial⟩ ?_ | refine ai.at (n8 n hn) ⟨leA, trivial⟩ ?_)
 refine ev0 ?_
 exact ak.au rfl (by rfl)
theorem afh : ∀ (k u : Nat), u < k → u ≤ 9223372036854775807 → Ctr Tryz.prog 49 [.int .i64 u] [] (.str (num u)) [] := by
 intro k
 induction k with
 | zero => intro u h; omega
 | succ k ih =>
  intro u hu hb
  refine Ctr.intro Tryz.mixed Tryz.func49 rfl Tryz.avx ?_
  refine ev2 @Tryz.ntmps49 @Tryz.results49 ?_
  refine ax.split (fun h => absurd h (by simp)) (fun h => ?_)
  refine ev1 @h ?_
  refine ax.split (fun h2 => ?_) (fun h2 => ?_)
  · have hlt : u < 10 := by simp at h2; omega
    refine rn1 @h2 ?_
    have e : ((u : Int) + 1).toNat = u + 1 := by omega
    have e2 : ((#[48, 49, 50, 51, 52, 53, 54, 55, 56, 57] : Array UInt8).size : Int) = 10 := rfl
    rw [e, e2]
    refine ⟨⟨by omega, by omega, by omega⟩, ak.au ?_ (by rfl)⟩
    rw [ag3 hlt, digits]
  · have hge : ¬ u < 10 := by simp at h2; omega
    have t1 : Int.tdiv (u : Int) 10 = ((u / 10 : Nat) : Int) := rfl
    have t2 : Int.tmod (u : Int) 10 = ((u % 10 : Nat) : Int) := rfl
    refine rn3 @h2 @t1 @t2 ?_
    (have ct := ih (u / 10) (by omega) (by omega); (first | refine al.at ct ⟨leA, trivial⟩ ?_ | refine ai.at ct ⟨leA, trivial⟩ ?_); clear ct)
    have e : (((u % 10 : Nat) : Int) + 1).toNat = u % 10 + 1 := by omega
    have e2 : ((#[48, 49, 50, 51, 52, 53, 54, 55, 56, 57] : Array UInt8).size : Int) = 10 := rfl
    have hs := dz (n := ((u / 10 : Nat) : Int)) (by omega) (by omega)
    have hd : ({ data := #[48, 49, 50, 51, 52, 53, 54, 55, 56, 57] } : ByteArray).extract (u % 10) (u % 10 + 1) = ⟨#[UInt8.ofNat (48 + u % 10)]⟩ := tq (u % 10) (by omega)
    (repeat ((repeat1' (first | simp -implicitDefEqProofs -dsimp only [go_sem, e, e2, hd, cb] | simp -dsimp (disch := omega) only [wrap_i64])); repeat (with_reducible refine de ?_)))
    refine ⟨by simp only [List.size_toArray, List.length_cons, List.length_nil]; omega, ak.au ?_ (by rfl)⟩
    rw [ac4 hge, tq (u % 10) (by omega)]
theorem ed (n : Int) (h0 : -9223372036854775807 ≤ n) (h1 : n ≤ 9223372036854775807) : Ctr Tryz.prog 49 [.int .i64 n] [] (.str (num n)) [] := by
 rcases Int.lt_or_le n 0 with hn | hn
 · obtain ⟨u, rfl⟩ : ∃ u : Nat, n = -(u : Int) := ⟨n.natAbs, by omega⟩
   refine Ctr.intro Tryz.mixed Tryz.func49 rfl Tryz.avx ?_
   refine ev2 @Tryz.ntmps49 @Tryz.results49 ?_
   refine ax.split (fun h => ?_) (fun h => absurd h (by simp; omega))
   have e : IntKind.i64.wrap (0 - -(u : Int)) = (u : Int) := by rw [wrap_i64 (by omega) (by omega)]; omega
   refine ev2 @h @e ?_
   (have ct := afh (u + 1) u (by omega) (by omega); (first | refine al.at ct ⟨leA, trivial⟩ ?_ | refine ai.at ct ⟨leA, trivial⟩ ?_); clear ct)
   have hs := dz (n := (u : Int)) (by omega) (by omega)
   simp -implicitDefEqProofs -dsimp only [go_sem, cb]
   refine ⟨by simp; omega, ak.au ?_ (by rfl)⟩
   rw [ata (by omega)]
 · obtain ⟨u, rfl⟩ : ∃ u : Nat, n = u := ⟨n.toNat, by omega⟩
   exact afh (u + 1) u (by omega) (by omega)
end Go.Proofs
end
section
set_option maxRecDepth 100000
set_option maxHeartbeats 1000000
namespace Go.Proofs
open Go.Lv
theorem s4 {a b : ByteArray} (h : a.data.toList = b.data.toList) : a = b := by
 apply ByteArray.ext
 exact Array.toList_inj.1 h
theorem iy (a b : ByteArray) : (a.toList == b.toList) = decide (a = b) := by
 rw [acg, acg, Bool.eq_iff_iff]
 simp only [beq_iff_eq, decide_eq_true_eq]
 exact ⟨fun h => s4 h, fun h => by rw [h]⟩
theorem l5 (a b : ByteArray) : (a ++ b).data.toList = a.data.toList ++ b.data.toList := by simp [ByteArray.data_append]
theorem ec (s : ByteArray) (a b : Nat) : (s.extract a b).data.toList = (s.data.toList.take b).drop a := by
 rw [ByteArray.data_extract, Array.toList_extract, List.extract_eq_take_drop, List.drop_take]
def idx (c : UInt8) (s : ByteArray) : Int := Lib.indexByte s.data.toList c
def fnd (c : UInt8) (s : ByteArray) : Bool := decide (0 ≤ idx c s)
def bef (c : UInt8) (s : ByteArray) : ByteArray := if 0 ≤ idx c s then s.extract 0 (idx c s).toNat else s
def aft (c : UInt8) (s : ByteArray) : ByteArray := if 0 ≤ idx c s then s.extract ((idx c s).toNat + 1) s.size else ⟨#[]⟩
theorem alo {c : UInt8} : ∀ {x : List UInt8} (y : List UInt8), (x.all fun b => !(b == c)) = true → Lib.indexByte (x ++ c :: y) c = x.length
 | [], y, _ => by simp [Lib.indexByte]
 | a :: x, y, h => by
  simp only [List.all_cons, Bool.and_eq_true] at h
  have hf : (a == c) = false := by simpa using h.1
  rw [List.cons_append, Lib.indexByte, hf, alo y h.2]
  have : ((x.length : Int) == -1) = false := by simp
  simp [this]
theorem amy {c : UInt8} : ∀ {x : List UInt8}, (x.all fun b => !(b == c)) = true → Lib.indexByte x c = -1
 | [], _ => rfl
 | a :: x, h => by
  simp only [List.all_cons, Bool.and_eq_true] at h
  have hf : (a == c) = false := by simpa using h.1
  rw [Lib.indexByte, hf, amy h.2]
  rfl
theorem amt {c : UInt8} : ∀ {l : List UInt8}, 0 ≤ Lib.indexByte l c → ∃ x y, l = x ++ c :: y ∧ (x.all fun b => !(b == c)) = true
 | [], h => by simp [Lib.indexByte] at h
 | a :: l, h => by
  by_cases e : a = c
  · exact ⟨[], l, by simp [e], rfl⟩
  · have hf : (a == c) = false := by simpa using e
    rw [Lib.indexByte, hf] at h
    by_cases e2 : Lib.indexByte l c = -1
    · simp [e2] at h
    · have hg := Lib.indexByte_ge l c
      obtain ⟨x, y, h1, h2⟩ := amt (l := l) (c := c) (by omega)
      refine ⟨a :: x, y, by rw [h1]; rfl, ?_⟩
      rw [List.all_cons, hf, h2]; rfl
def noB (c : UInt8) (s : ByteArray) : Bool := dv (fun b => !(b == c)) s
theorem sy {c : UInt8} {x y : ByteArray} (h : noB c x = true) : idx c (x ++ (⟨#[c]⟩ ++ y)) = x.size ∧ bef c (x ++ (⟨#[c]⟩ ++ y)) = x ∧ aft c (x ++ (⟨#[c]⟩ ++ y)) = y ∧ fnd c (x ++ (⟨#[c]⟩ ++ y)) = true := by
 have e : (x ++ (⟨#[c]⟩ ++ y)).data.toList = x.data.toList ++ c :: y.data.toList := by rw [l5, l5]; rfl
 have hi : idx c (x ++ (⟨#[c]⟩ ++ y)) = x.size := by
  rw [idx, e, alo _ h, gf]
 have hp : (0 : Int) ≤ x.size := by omega
 refine ⟨hi, ?_, ?_, ?_⟩
 · rw [bef, hi, if_pos hp]
   apply s4
   rw [ec, e, Int.toNat_natCast, List.drop_zero]
   exact List.take_left' (gf x)
 · rw [aft, hi, if_pos hp]
   apply s4
   have hl : (x ++ (⟨#[c]⟩ ++ y)).size = (x ++ (⟨#[c]⟩ ++ y)).data.toList.length := rfl
   rw [ec, Int.toNat_natCast, hl, List.take_length, e]
   have e2 : x.data.toList ++ c :: y.data.toList = (x.data.toList ++ [c]) ++ y.data.toList := by simp
   rw [e2]
   exact List.drop_left' (by rw [List.length_append, gf]; rfl)
 · rw [fnd, hi]; exact decide_eq_true hp
theorem ajq {c : UInt8} {x : ByteArray} (h : noB c x = true) : idx c x = -1 ∧ bef c x = x ∧ aft c x = ⟨#[]⟩ ∧ fnd c x = false := by
 have hi : idx c x = -1 := amy h
 refine ⟨hi, ?_, ?_, ?_⟩
 · rw [bef, hi]; rfl
 · rw [aft, hi]; rfl
 · rw [fnd, hi]; rfl
theorem aag {c : UInt8} {s : ByteArray} (h : fnd c s = true) : ∃ x y, s = x ++ (⟨#[c]⟩ ++ y) ∧ noB c x = true := by
 obtain ⟨x, y, h1, h2⟩ := amt (of_decide_eq_true h)
 refine ⟨⟨x.toArray⟩, ⟨y.toArray⟩, ?_, ?_⟩
 · apply s4
   rw [l5, l5, h1]
   simp
 · unfold noB dv; simpa using h2
theorem apl (c : UInt8) (s : ByteArray) : -1 ≤ idx c s ∧ idx c s < s.size := by
 refine ⟨Lib.indexByte_ge _ _, ?_⟩
 by_cases h : 0 ≤ idx c s
 · obtain ⟨x, y, e, hx⟩ := aag (c := c) (s := s) (decide_eq_true h)
   rw [e, (sy hx).1]
   simp only [ByteArray.size_append]
   have : (⟨#[c]⟩ : ByteArray).size = 1 := rfl
   omega
 · omega
theorem ti (c : UInt8) (s : ByteArray) : (bef c s).size ≤ s.size := by
 have := apl c s
 unfold bef; split
 · rw [ByteArray.size_extract]; omega
 · exact Nat.le_refl _
theorem ajj (c : UInt8) (s : ByteArray) : (aft c s).size ≤ s.size := by
 unfold aft; split
 · rw [ByteArray.size_extract]; omega
 · exact Nat.zero_le _
theorem abl (s : ByteArray) (c : UInt8) : Ctr Tryz.prog 141 [.str s, .str ⟨#[c]⟩] [] (.int .i64 (idx c s)) [] := by
 refine ⟨Tryz.axv, fun w vs m av hH hav hgl hsz ha => ?_⟩
 obtain ⟨v, u, rfl⟩ : ∃ v u, vs = #[v, u] := by
  match vs, hsz with
  | ⟨[v, u]⟩, _ => exact ⟨v, u, rfl⟩
 have h0 := ha 0 (by simp)
 have h1 := ha 1 (by simp)
 simp only [List.getElem_cons_zero, List.getElem_cons_succ] at h0 h1
 obtain rfl : v = .string s := by
  simp at h0; cases h0; rfl
 obtain rfl : u = .string ⟨#[c]⟩ := by
  simp at h1; cases h1; rfl
 refine (Tryz.stringslite_Index_one s c w).mono ?_
 rintro e w' ⟨rfl, rfl⟩
 exact ⟨_, m, rfl, Ext.refl _ _, ⟨fun i j ci cj h => by simp at h, fun id cs h => by simp at h, fun id cs h => by simp at h⟩, .int _ _, fun id cs h => by simp at h⟩
theorem akb (s : ByteArray) (c : UInt8) (hs : s.size ≤ 281474976710656) : Ctr Tryz.prog 161 [.str s, .str ⟨#[c]⟩] [] (.tup [.str (bef c s), .str (aft c s), .bool (fnd c s)]) [] := by
 have hi := apl c s
 refine Ctr.intro Tryz.mixed Tryz.func161 rfl Tryz.azb ?_
 refine ev2 @Tryz.ntmps161 @Tryz.results161 ?_
 (first | refine al.at (abl s c) ⟨leA, leA, trivial⟩ ?_ | refine ai.at (abl s c) ⟨leA, leA, trivial⟩ ?_)
 refine ev0 ?_
 refine ax.split (fun h1 => ?_) (fun h1 => ?_) <;> refine ev1 @h1 ?_
 · have h1' := of_decide_eq_true h1
   repeat (with_reducible refine de ?_)
   have e1 : ((#[c] : Array UInt8).size : Int) = 1 := rfl
   have e2 : (idx c s + 1).toNat = (idx c s).toNat + 1 := by omega
   rw [e1, wrap_i64 (by omega) (by omega), e2]
   refine ⟨⟨by omega, by omega⟩, ak.au ?_ (by rfl)⟩
   rw [bef, aft, fnd, if_pos h1', if_pos h1', h1]
 · have h1' := of_decide_eq_false h1
   exact ak.au (by rw [bef, aft, fnd, if_neg h1', if_neg h1', h1]) (by rfl)
theorem ago (s : ByteArray) (c : UInt8) (hs : s.size ≤ 281474976710656) : Ctr Tryz.prog 132 [.str s, .str ⟨#[c]⟩] [] (.tup [.str (bef c s), .str (aft c s), .bool (fnd c s)]) [] := by
 refine Ctr.intro Tryz.mixed Tryz.func132 rfl Tryz.axp ?_
 refine ev2 @Tryz.ntmps132 @Tryz.results132 ?_
 (have ct := akb s c hs; (first | refine al.at ct ⟨leA, leA, trivial⟩ ?_ | refine ai.at ct ⟨leA, leA, trivial⟩ ?_); clear ct)
 refine ev0 ?_
 exact ak.au rfl (by rfl)
def gb (c : UInt8) (s : ByteArray) : Nat → List ByteArray × Nat
 | 0 => ([], 0)
 | i + 1 => if h : i < s.size then (if (s[i]'h == c) = true then ((gb c s i).1 ++ [s.extract (gb c s i).2 i], i + 1) else gb c s i) else gb c s i
theorem ob {c : UInt8} {s : ByteArray} {i : Nat} (h : i < s.size) (hc : (s[i]'h == c) = true) : gb c s (i + 1) = ((gb c s i).1 ++ [s.extract (gb c s i).2 i], i + 1) := by
 rw [gb, dif_pos h, if_pos hc]
theorem q8 {c : UInt8} {s : ByteArray} {i : Nat} (h : i < s.size) (hc : (s[i]'h == c) = false) : gb c s (i + 1) = gb c s i := by
 rw [gb, dif_pos h, if_neg (by simp [hc])]
theorem ade (c : UInt8) (s : ByteArray) : ∀ i, i ≤ s.size → (gb c s i).2 ≤ i ∧ (gb c s i).1.length ≤ i
 | 0, _ => by simp [gb]
 | i + 1, h => by
  have ih := ade c s i (by omega)
  have hi : i < s.size := by omega
  cases hc : (s[i]'hi == c) with
  | true => rw [ob hi hc]; simp; omega
  | false => rw [q8 hi hc]; omega
def gi (c : UInt8) (s : ByteArray) : List ByteArray := (gb c s s.size).1 ++ [s.extract (gb c s s.size).2 s.size]
theorem anu {c : UInt8} {s : ByteArray} {i : Nat} (h : i < s.size) (h0 : pd (fun b => !(b == c)) s i = true) (hc : (s[i]'h == c) = true) : idx c s = i := by
 have hl : i < s.data.toList.length := h
 have e : s.data.toList = s.data.toList.take i ++ c :: s.data.toList.drop (i + 1) := by
  have : s.data.toList[i] = c := by rw [l6 s h]; simpa using hc
  rw [← this, ← List.drop_eq_getElem_cons hl, List.take_append_drop]
 rw [idx, e, alo _ h0]
 simp
 omega
theorem afe (c : UInt8) (s : ByteArray) : ∀ i, i ≤ s.size → (pd (fun b => !(b == c)) s i = true → gb c s i = ([], 0)) ∧ (pd (fun b => !(b == c)) s i = false → fnd c s = true ∧ ∃ l, (gb c s i).1 = bef c s :: l)
 | 0, _ => ⟨fun _ => rfl, fun h => by simp [pd] at h⟩
 | i + 1, h => by
  have hi : i < s.size := by omega
  obtain ⟨h1, h2⟩ := afe c s i (by omega)
  cases hc : (s[i]'hi == c) with
  | true =>
   rw [ob hi hc, qi hi]
   refine ⟨fun g => by simp [hc] at g, fun _ => ?_⟩
   cases ha : pd (fun b => !(b == c)) s i with
   | true =>
    have hx := anu hi ha hc
    refine ⟨by rw [fnd, hx]; exact decide_eq_true (by omega), [], ?_⟩
    rw [h1 ha, bef, hx, if_pos (by omega)]
    simp
   | false =>
    obtain ⟨g1, l, g2⟩ := h2 ha
    refine ⟨g1, l ++ [s.extract (gb c s i).2 i], ?_⟩
    rw [g2]; rfl
  | false =>
   rw [q8 hi hc, qi hi]
   have e : (pd (fun b => !(b == c)) s i && !(s[i]'hi == c)) = pd (fun b => !(b == c)) s i := by rw [hc]; simp
   rw [e]
   exact ⟨h1, h2⟩
theorem qd (c : UInt8) (s : ByteArray) : ∃ l, gi c s = bef c s :: l ∧ (l = [] ↔ fnd c s = false) := by
 obtain ⟨h1, h2⟩ := afe c s s.size (Nat.le_refl _)
 rw [w4] at h1 h2
 cases ha : dv (fun b => !(b == c)) s with
 | true =>
  obtain ⟨_, g2, _, g4⟩ := ajq (c := c) (x := s) ha
  refine ⟨[], ?_, by simp [g4]⟩
  rw [gi, h1 ha, g2]
  simp
 | false =>
  obtain ⟨g1, l, g2⟩ := h2 ha
  refine ⟨l ++ [s.extract (gb c s s.size).2 s.size], by rw [gi, g2]; rfl, ?_⟩
  rw [g1]
  simp
theorem tv (s : ByteArray) (c : UInt8) (hs : s.size ≤ 16777216) : Ctr Tryz.prog 46 [.str s, .int .u8 c.toNat] [] (.osl 0 0 (gi c s).length 1) [some (rows StringS.cs (gi c s))] := by
 refine Ctr.intro Tryz.mixed Tryz.func46 rfl Tryz.a3o ?_
 refine ev2 @Tryz.ntmps46 @Tryz.results46 ?_
 refine dh.intro (fun i : Nat => i ≤ s.size) (fun i => ⟨(.str s :: .int .u8 c.toNat :: (un 3 (.osl 0 0 (gb c s i).1.length 1 :: .int .i64 (gb c s i).2 :: .int .i64 i :: (un 27 [])))), [some (rows StringS.cs (gb c s i).1)], 0⟩) (fun i => s.size - i) 0 (Nat.zero_le _) ?_ (fun i hi => ?_)
 · refine aq.cut (1) (by simp) (by simp) ?_ ?_
   · simp [LeC, LeV, ren, bj, gb]
   · simp [bz, ck, gb, rows]
 have hbd := ade c s i hi
 refine ev0 ?_
 refine ax.split (fun h1 => ?_) (fun h1 => ?_)
 · refine ev1 @h1 ?_
   have hi' : i < s.size := by simpa using h1
   refine ⟨⟨by omega, hi'⟩, ?_⟩
   have hbb : ((s[i]'hi') == c) = (((s[i]'hi').toNat : Int) == (c.toNat : Int)) := by
    rw [Bool.eq_iff_iff]; simp only [beq_iff_eq]
    constructor
    · intro g; rw [g]
    · intro g; exact UInt8.toNat_inj.1 (by omega)
   refine ax.split (fun h2 => ?_) (fun h2 => ?_) <;> refine ev1 @h2 ?_
   · refine rn3 @bb @bh @Nat.mul_one ?_
     refine ⟨i + 1, hi', ?_, by omega⟩
     refine aq.cut (1) (by simp) (by simp) ?_ ?_
     · rw [ob hi' (by rw [hbb]; exact h2)]
       simp [LeC, LeV, ren, bj]
     · rw [ob hi' (by rw [hbb]; exact h2), ← di]
       simp [bz, ck, ren, bj, ae, dd, StringS.cs]
   · try refine ew0 ?_
     refine ⟨i + 1, hi', ?_, by omega⟩
     refine aq.cut (1) (by simp) (by simp) ?_ ?_
     · rw [q8 hi' (by rw [hbb]; exact h2)]
       simp [LeC, LeV, ren, bj]
     · rw [q8 hi' (by rw [hbb]; exact h2)]
       simp [bz, ck, ae]
 · refine ev1 @h1 ?_
   have hi' : i = s.size := by simp at h1; omega
   subst hi'
   refine rn3 @bb @bh @Nat.mul_one ?_
   have hl : (gi c s).length = (gb c s s.size).1.length + 1 := by simp [gi]
   rw [hl]
   refine ak.pick [0] (by decide) (fun j hj => by omega) (.inl ?_) ?_
   · rfl
   · simp only [az, List.map_cons, List.map_nil, bg, List.getElem?_cons_zero, gi, ← di]
     simp [ren, bc, posOf, ae, StringS.cs, dd]
end Go.Proofs
end
section
set_option maxRecDepth 100000
namespace Go.Proofs
open Go.Lv
structure ay where
 Command : ByteArray
 Reply : ByteArray
def ay.cs (r : ay) : List V := [.str r.Command, .str r.Reply]
def ay.v (r : ay) : V := .agg [.str r.Command, .str r.Reply]
theorem ay.csl (a : ay) : a.cs.length = 2 := rfl
instance : ri ay.cs 2 := ⟨fun _ => rfl, fun _ d => by cases d <;> rfl, fun _ => rfl, fun _ => rfl⟩
def ay.ok (r : ay) : Prop := apy r.Command ∧ apy r.Reply
abbrev ay.rows (L : List ay) : List V := Go.Lv.rows ay.cs L
abbrev ay.sl (L : List ay) : V := .sl L.length 2 (Go.Lv.rows ay.cs L)
abbrev ay.zs : List V := [.str ByteArray.empty, .str ByteArray.empty]
end Go.Proofs
end
section
set_option maxRecDepth 100000
set_option maxHeartbeats 1000000
namespace Go.Proofs
open Go.Lv
theorem vm (s : ByteArray) (hs : s.size ≤ 281474976710656) : Ctr Tryz.prog 67 [.str s] [] (.bool (dv kf s)) [] := by
 refine Ctr.intro Tryz.mixed Tryz.func67 rfl Tryz.a4n ?_
 refine ev2 @Tryz.ntmps67 @Tryz.results67 ?_
 refine dh.intro (fun i : Nat => i ≤ s.size ∧ pd kf s i = true) (fun i => ⟨(.str s :: (un 4 (.int .i64 s.size :: .int .i64 i :: (un 13 [])))), [], 0⟩) (fun i => s.size - i) 0 ⟨Nat.zero_le _, rfl⟩ ?_ (fun i hi => ?_)
 · refine aq.cut (0) (by simp) (by simp) ?_ ?_
   · simp [LeC, LeV, ren, bj]
   · rfl
 refine ev0 ?_
 refine ax.split (fun h1 => ?_) (fun h1 => ?_)
 · refine ev1 @h1 ?_
   have hi' : i < s.size := by simpa using h1
   refine ⟨⟨by omega, hi'⟩, ?_⟩
   have hb : kf (s[i]'hi') = (decide (32 ≤ ((s[i]'hi').toNat : Int)) && decide (((s[i]'hi').toNat : Int) ≤ 126)) := by rw [kf, Bool.eq_iff_iff]; simp; omega
   refine aw.cg (fun h2 => ?_) (fun h2 => ?_) <;> refine ev1 @h2 ?_
   · refine ⟨⟨by omega, hi'⟩, ?_⟩
     refine ax.split (fun h3 => ?_) (fun h3 => ?_) <;> refine ev1 @h3 ?_
     · have hf : kf (s[i]'hi') = false := by rw [hb]; simp at h3 ⊢; omega
       exact ak.au (by rw [y0 hi' hf]) (by rfl)
     · have hf : kf (s[i]'hi') = true := by rw [hb]; simp at h2 h3 ⊢; omega
       refine ⟨i + 1, ⟨hi', by rw [qi hi', hi.2, hf]; rfl⟩, ?_, by omega⟩
       refine aq.cut (0) (by simp) (by simp) ?_ ?_
       · rw [wrap_i64 (by omega) (by omega)]; simp [LeC, LeV, ren, bj]
       · rfl
   · have hf : kf (s[i]'hi') = false := by rw [hb]; simp at h2 ⊢; omega
     exact ak.au (by rw [y0 hi' hf]) (by rfl)
 · refine ev1 @h1 ?_
   have hi' : i = s.size := by simp at h1; omega
   subst hi'
   exact ak.au (by rw [← w4, hi.2]) (by rfl)
def br (b : UInt8) : Bool := kf b && !(b == 35)
theorem abo (s : ByteArray) (most : Int) (hs : s.size ≤ 281474976710656) : Ctr Tryz.prog 78 [.str s, .int .i64 most] [] (.bool (dv br s && decide ((s.size : Int) ≤ most))) [] := by
 refine Ctr.intro Tryz.mixed Tryz.func78 rfl Tryz.a3y ?_
 refine ev2 @Tryz.ntmps78 @Tryz.results78 ?_
 refine dh.intro (fun i : Nat => i ≤ s.size ∧ pd br s i = true) (fun i => ⟨(.str s :: .int .i64 most :: (un 3 (.int .i64 i :: (un 22 [])))), [], 0⟩) (fun i => s.size - i) 0 ⟨Nat.zero_le _, rfl⟩ ?_ (fun i hi => ?_)
 · refine aq.cut (0) (by simp) (by simp) ?_ ?_
   · simp [LeC, LeV, ren, bj]
   · rfl
 refine ev0 ?_
 refine ax.split (fun h1 => ?_) (fun h1 => ?_)
 · refine ev1 @h1 ?_
   have hi' : i < s.size := by simpa using h1
   have hu := UInt8.toNat_lt (s[i]'hi')
   refine ⟨⟨by omega, hi'⟩, ?_⟩
   have hwr : IntKind.i64.wrap ((s[i]'hi').toNat : Int) = ((s[i]'hi').toNat : Int) := wrap_i64 (by omega) (by omega)
   try refine ew1 @hwr ?_
   (first | refine al.at (dx _ _ _) ⟨leA, leA, leA, trivial⟩ ?_ | refine ai.at (dx _ _ _) ⟨leA, leA, leA, trivial⟩ ?_)
   refine ev0 ?_
   have hb : kf (s[i]'hi') = fb ((s[i]'hi').toNat : Int) 32 126 := by rw [kf, Bool.eq_iff_iff]; simp [fb]; omega
   have h35 : ((s[i]'hi') == 35) = (((s[i]'hi').toNat : Int) == 35) := by
    rw [Bool.eq_iff_iff]; simp only [beq_iff_eq]
    constructor
    · intro g; rw [g]; rfl
    · intro g; exact UInt8.toNat_inj.1 (by show _ = 35; omega)
   refine aw.cg (fun h2 => ?_) (fun h2 => ?_) <;> refine ev1 @h2 ?_
   · refine ⟨⟨by omega, hi'⟩, ?_⟩
     refine ax.split (fun h3 => ?_) (fun h3 => ?_) <;> refine ev1 @h3 ?_
     · have hf : br (s[i]'hi') = false := by rw [br, h35, h3]; simp
       exact ak.au (by rw [y0 hi' hf]; rfl) (by rfl)
     · have hf : br (s[i]'hi') = true := by rw [br, h35, h3, hb]; simp at h2; simp [h2]
       refine ⟨i + 1, ⟨hi', by rw [qi hi', hi.2, hf]; rfl⟩, ?_, by omega⟩
       refine aq.cut (0) (by simp) (by simp) ?_ ?_
       · rw [wrap_i64 (by omega) (by omega)]; simp [LeC, LeV, ren, bj]
       · rfl
   · have hf : br (s[i]'hi') = false := by rw [br, hb]; simp at h2; simp [h2]
     exact ak.au (by rw [y0 hi' hf]; rfl) (by rfl)
 · refine ev1 @h1 ?_
   have hi' : i = s.size := by simp at h1; omega
   subst hi'
   exact ak.au (by rw [← w4, hi.2]; rfl) (by rfl)
theorem aiw (s : ByteArray) (b : UInt8) (hs : s.size ≤ 281474976710656) : Ctr Tryz.prog 79 [.str s, .int .u8 b.toNat] [] (.bool (!(dv (fun x => !(x == b)) s))) [] := by
 refine Ctr.intro Tryz.mixed Tryz.func79 rfl Tryz.a3d ?_
 refine ev2 @Tryz.ntmps79 @Tryz.results79 ?_
 refine dh.intro (fun i : Nat => i ≤ s.size ∧ pd (fun x => !(x == b)) s i = true) (fun i => ⟨(.str s :: .int .u8 b.toNat :: (un 3 (.int .i64 i :: (un 11 [])))), [], 0⟩) (fun i => s.size - i) 0 ⟨Nat.zero_le _, rfl⟩ ?_ (fun i hi => ?_)
 · refine aq.cut (0) (by simp) (by simp) ?_ ?_
   · simp [LeC, LeV, ren, bj]
   · rfl
 refine ev0 ?_
 refine ax.split (fun h1 => ?_) (fun h1 => ?_)
 · refine ev1 @h1 ?_
   have hi' : i < s.size := by simpa using h1
   refine ⟨⟨by omega, hi'⟩, ?_⟩
   have hbb : ((s[i]'hi') == b) = (((s[i]'hi').toNat : Int) == (b.toNat : Int)) := by
    rw [Bool.eq_iff_iff]; simp only [beq_iff_eq]
    constructor
    · intro g; rw [g]
    · intro g; exact UInt8.toNat_inj.1 (by omega)
   refine ax.split (fun h2 => ?_) (fun h2 => ?_) <;> refine ev1 @h2 ?_
   · exact ak.au (by rw [y0 hi' (by simp only [hbb, h2]; rfl)]; rfl) (by rfl)
   · refine ⟨i + 1, ⟨hi', by rw [qi hi', hi.2]; simp only [hbb, h2]; rfl⟩, ?_, by omega⟩
     refine aq.cut (0) (by simp) (by simp) ?_ ?_
     · rw [wrap_i64 (by omega) (by omega)]; simp [LeC, LeV, ren, bj]
     · rfl
 · refine ev1 @h1 ?_
   have hi' : i = s.size := by simp at h1; omega
   subst hi'
   exact ak.au (by rw [← w4, hi.2]; rfl) (by rfl)
theorem vq (s : ByteArray) (c : UInt8) : Ctr Tryz.prog 69 [.str s, .str ⟨#[c]⟩] [] (.bool (decide (0 ≤ Lib.indexByte s.data.toList c))) [] := by
 refine ⟨Tryz.a58, fun w vs m av hH hav hgl hsz ha => ?_⟩
 obtain ⟨v, u, rfl⟩ : ∃ v u, vs = #[v, u] := by
  match vs, hsz with
  | ⟨[v, u]⟩, _ => exact ⟨v, u, rfl⟩
 have h0 := ha 0 (by simp)
 have h1 := ha 1 (by simp)
 simp only [List.getElem_cons_zero, List.getElem_cons_succ] at h0 h1
 obtain rfl : v = .string s := by
  simp at h0; cases h0; rfl
 obtain rfl : u = .string ⟨#[c]⟩ := by
  simp at h1; cases h1; rfl
 refine (Tryz.strings_Contains_one s c w).mono ?_
 rintro e w' ⟨rfl, rfl⟩
 exact ⟨_, m, rfl, Ext.refl _ _, ⟨fun i j ci cj h => by simp at h, fun id cs h => by simp at h, fun id cs h => by simp at h⟩, .bool _, fun id cs h => by simp at h⟩
theorem ac2 (s chars : ByteArray) (hs : s.size < 4294967281) (hcs : chars.size < 4294967281) (has : ∀ (j : Nat) b, s.data.toList[j]? = some b → b.toNat < 128) (hac : ∀ (j : Nat) b, chars.data.toList[j]? = some b → b.toNat < 128) :
 Ctr Tryz.prog 68 [.str s, .str chars] [] (.bool (Lib.containsAny s.data.toList chars.data.toList)) [] := by
 refine ⟨Tryz.a3i, fun w vs m av hH hav hgl hsz ha => ?_⟩
 obtain ⟨v, u, rfl⟩ : ∃ v u, vs = #[v, u] := by
  match vs, hsz with
  | ⟨[v, u]⟩, _ => exact ⟨v, u, rfl⟩
 have h0 := ha 0 (by simp)
 have h1 := ha 1 (by simp)
 simp only [List.getElem_cons_zero, List.getElem_cons_succ] at h0 h1
 obtain rfl : v = .string s := by
  simp at h0; cases h0; rfl
 obtain rfl : u = .string chars := by
  simp at h1; cases h1; rfl
 refine (Tryz.strings_ContainsAny_laid s chars w hs hcs has hac).mono ?_
 rintro e w' ⟨rfl, hb⟩
 exact ⟨_, m, rfl, ⟨hb.os, hb.tape, hb.output, hb.size, fun g hg _ => hb.block g hg, fun g hg => Nat.le_of_eq (im (hb.block g hg)).symm⟩, ⟨fun i j ci cj h => by simp at h, fun id cs h => by simp at h, fun id cs h => by simp at h⟩, .bool _, fun id cs h => by simp at h⟩
def jc (e : ay) : Bool := (decide (1 ≤ e.Command.size) && decide (e.Command.size ≤ 160)) && dv (fun b => br b && !(b == 64)) e.Command && (decide (e.Reply.size ≤ 200) && dv br e.Reply)
theorem wg (p q : UInt8 → Bool) (s : ByteArray) : dv (fun b => p b && q b) s = (dv p s && dv q s) := by
 unfold dv
 induction s.data.toList with
 | nil => rfl
 | cons a l ih => simp only [List.all_cons, ih]; cases p a <;> cases q a <;> simp
theorem ss (c : UInt8) : ∀ l : List UInt8, decide (0 ≤ Lib.indexByte l c) = !(l.all fun x => !(x == c))
 | [] => rfl
 | a :: l => by
  have ih := ss c l
  have hg := Lib.indexByte_ge l c
  unfold Lib.indexByte
  rw [List.all_cons]
  by_cases h : a = c
  · simp [h]
  · have hf : (a == c) = false := by simpa using h
    rw [hf]
    simp only [Bool.false_eq_true, if_false, Bool.not_false, Bool.true_and]
    rw [← ih]
    by_cases h1 : Lib.indexByte l c = -1
    · simp [h1]
    · have : (Lib.indexByte l c == -1) = false := by simpa using h1
      rw [this]
      rw [Bool.eq_iff_iff]; simp; omega
theorem u6 (chars : List UInt8) : ∀ l : List UInt8, Lib.containsAny l chars = !(l.all fun x => !(chars.contains x))
 | [] => rfl
 | a :: l => by
  have ih := u6 chars l
  have hg := Lib.indexAny_ge chars l
  unfold Lib.containsAny at ih ⊢
  unfold Lib.indexAny
  rw [List.all_cons]
  by_cases h : chars.contains a = true
  · simp only [h, if_true, Bool.not_true, Bool.false_and, Bool.not_false]; rfl
  · have hf : chars.contains a = false := by simpa using h
    rw [hf]
    simp only [Bool.false_eq_true, if_false, Bool.not_false, Bool.true_and]
    rw [← ih]
    by_cases h1 : Lib.indexAny l chars = -1
    · simp [h1]
    · have : (Lib.indexAny l chars == -1) = false := by simpa using h1
      rw [this]
      rw [Bool.eq_iff_iff]; simp; omega
end Go.Proofs
end
section
set_option maxRecDepth 100000
set_option maxHeartbeats 1000000
namespace Go.Proofs
open Go.Lv
theorem as9 {s : ByteArray} (h : dv kf s = true) : Lib.containsAny s.data.toList (⟨#[35, 64]⟩ : ByteArray).data.toList = !(dv (fun b => !(b == 35) && !(b == 64)) s) := by
 rw [u6]
 congr 2
 funext x
 show (!(List.contains [35, 64] x)) = _
 simp only [List.contains_cons, List.contains_nil, Bool.or_false, Bool.not_or]
theorem ag6 (s : ByteArray) : dv (fun b => br b && !(b == 64)) s = (dv kf s && dv (fun b => !(b == 35) && !(b == 64)) s) := by
 rw [← wg]
 congr 1
 funext b
 exact Bool.and_assoc _ _ _
theorem ae9 (s : ByteArray) : dv br s = (dv kf s && dv (fun b => !(b == 35)) s) := wg kf _ s
theorem aqk {s : ByteArray} (h : dv kf s = true) : ∀ (j : Nat) b, s.data.toList[j]? = some b → b.toNat < 128 := by
 intro j b hb
 have := List.all_eq_true.1 h b (List.mem_of_getElem? hb)
 simp [kf] at this; omega
theorem ano : ∀ (j : Nat) b, (⟨#[35, 64]⟩ : ByteArray).data.toList[j]? = some b → b.toNat < 128 := by
 intro j b hb
 have := List.mem_of_getElem? hb
 simp at this
 rcases this with rfl | rfl <;> decide
theorem amr (s : ByteArray) : (!(s.toList == (⟨#[]⟩ : ByteArray).toList)) = decide (1 ≤ s.size) := by
 rw [acg, acg, ← gf]
 cases s.data.toList with
 | nil => rfl
 | cons a l => simp
theorem nc (e : ay) (hc : e.Command.size ≤ 281474976710656) (hr : e.Reply.size ≤ 281474976710656) : Ctr Tryz.prog 34 [e.v] [] (.bool (jc e)) [] := by
 refine Ctr.intro Tryz.mixed Tryz.func34 rfl Tryz.a33 ?_
 refine ev2 @Tryz.ntmps34 @Tryz.results34 ?_
 refine ev1 @ay.v.eq_1 ?_
 (first | refine al.at (j8 _ _ _) ⟨leA, leA, leA, trivial⟩ ?_ | refine ai.at (j8 _ _ _) ⟨leA, leA, leA, trivial⟩ ?_)
 refine ev0 ?_
 refine aw.bu (fun g1 => ?_) (fun g1 => ?_) <;> refine ev1 @g1 ?_
 rotate_left
 · refine ak.au ?_ (by rfl)
   simp [fb] at g1
   simp [jc]; omega
 have hs := gr.1 g1
 have b1 : decide (1 ≤ e.Command.size) = true := decide_eq_true (by omega)
 have b2 : decide (e.Command.size ≤ 160) = true := decide_eq_true (by omega)
 (have ct := vm e.Command hc; (first | refine al.at ct ⟨leA, trivial⟩ ?_ | refine ai.at ct ⟨leA, trivial⟩ ?_); clear ct)
 refine ev0 ?_
 refine aw.bu (fun g2 => ?_) (fun g2 => ?_) <;> refine ev1 @g2 ?_
 rotate_left
 · refine ak.au ?_ (by rfl)
   simp [jc, ag6, g2]
 (have ct := ac2 e.Command ⟨#[35, 64]⟩ (by omega) (by decide) (aqk g2) ano; (first | refine al.at ct ⟨leA, leA, trivial⟩ ?_ | refine ai.at ct ⟨leA, leA, trivial⟩ ?_); clear ct)
 simp -implicitDefEqProofs -dsimp only [go_sem, as9 g2, Bool.not_not]
 refine aw.bu (fun g3 => ?_) (fun g3 => ?_) <;> refine ev1 @g3 ?_
 rotate_left
 · refine ak.au ?_ (by rfl)
   simp [jc, ag6, g2, g3]
 refine aw.bu (fun g4 => ?_) (fun g4 => ?_) <;> refine ev1 @g4 ?_
 rotate_left
 · refine ak.au ?_ (by rfl)
   have : decide (e.Reply.size ≤ 200) = false := by simp at g4 ⊢; omega
   simp only [jc, this, Bool.false_and, Bool.and_false]
 have b3 : decide (e.Reply.size ≤ 200) = true := by simp at g4 ⊢; omega
 (have ct := vm e.Reply hr; (first | refine al.at ct ⟨leA, trivial⟩ ?_ | refine ai.at ct ⟨leA, trivial⟩ ?_); clear ct)
 refine ev0 ?_
 refine aw.bu (fun g5 => ?_) (fun g5 => ?_) <;> refine ev1 @g5 ?_
 rotate_left
 · refine ak.au ?_ (by rfl)
   simp [jc, ae9, g5]
 (have ct := vq e.Reply 35; (first | refine al.at ct ⟨leA, leA, trivial⟩ ?_ | refine ai.at ct ⟨leA, leA, trivial⟩ ?_); clear ct)
 refine ev1 @ss ?_
 refine ak.au ?_ (by rfl)
 simp only [jc, ag6, ae9, g2, g3, g5, b1, b2, b3, Bool.and_true, Bool.true_and, Bool.not_not]
 rfl
theorem ug (e : ay) (hc : e.Command.size ≤ 281474976710656) (hr : e.Reply.size ≤ 281474976710656) : Ctr Tryz.prog 39 [e.v] [] (.bool (jc e)) [] := by
 refine Ctr.intro Tryz.mixed Tryz.func39 rfl Tryz.a2o ?_
 refine ev2 @Tryz.ntmps39 @Tryz.results39 ?_
 refine ev2 @ay.v.eq_1 @amr ?_
 refine aw.bu (fun g1 => ?_) (fun g1 => ?_) <;> refine ev2 @g1 @amr ?_
 rotate_left
 · refine ak.au ?_ (by rfl)
   simp only [jc, g1, Bool.false_and]
 (have ct := abo e.Command 160 hc; (first | refine al.at ct ⟨leA, leA, trivial⟩ ?_ | refine ai.at ct ⟨leA, leA, trivial⟩ ?_); clear ct)
 refine ev0 ?_
 refine aw.bu (fun g2 => ?_) (fun g2 => ?_) <;> refine ev2 @g2 @amr ?_
 rotate_left
 · refine ak.au ?_ (by rfl)
   have : dv (fun b => br b && !(b == 64)) e.Command = (dv br e.Command && dv (fun b => !(b == 64)) e.Command) := wg _ _ _
   simp only [jc, this]
   by_cases k : e.Command.size ≤ 160
   · have : dv br e.Command = false := by
      cases q : dv br e.Command with
      | false => rfl
      | true => rw [q] at g2; simp at g2; omega
     simp [this]
   · simp [k]
 have g2' : dv br e.Command = true ∧ e.Command.size ≤ 160 := by simp at g2; exact ⟨g2.1, by omega⟩
 (have ct := aiw e.Command 64 hc; (first | refine al.at ct ⟨leA, leA, trivial⟩ ?_ | refine ai.at ct ⟨leA, leA, trivial⟩ ?_); clear ct)
 refine ev1 @Bool.not_not ?_
 refine aw.bu (fun g3 => ?_) (fun g3 => ?_) <;> refine ev2 @g3 @amr ?_
 rotate_left
 · refine ak.au ?_ (by rfl)
   have : dv (fun b => br b && !(b == 64)) e.Command = (dv br e.Command && dv (fun b => !(b == 64)) e.Command) := wg _ _ _
   simp only [jc, this, g3, Bool.and_false, Bool.false_and]
 (have ct := abo e.Reply 200 hr; (first | refine al.at ct ⟨leA, leA, trivial⟩ ?_ | refine ai.at ct ⟨leA, leA, trivial⟩ ?_); clear ct)
 refine ev0 ?_
 refine ak.au ?_ (by rfl)
 have h4 : dv (fun b => br b && !(b == 64)) e.Command = (dv br e.Command && dv (fun b => !(b == 64)) e.Command) := wg _ _ _
 simp only [jc, h4, g3, g2'.1, g1, decide_eq_true g2'.2, Bool.and_true, Bool.true_and]
 congr 1
 have h6 : decide ((e.Reply.size : Int) ≤ 200) = decide (e.Reply.size ≤ 200) := by rw [Bool.eq_iff_iff]; simp; omega
 rw [h6, Bool.and_comm]
end Go.Proofs
end
section
set_option maxRecDepth 100000
set_option maxHeartbeats 1000000
namespace Go.Proofs
open Go.Lv
theorem aek (p : UInt8 → Bool) (a b : ByteArray) : dv p (a ++ b) = (dv p a && dv p b) := by
 simp [dv, ByteArray.data_append]
theorem afg : ∀ (n u : Nat), u < n → dv (fun b => !(b == 35)) (num u) = true
 | 0, u, h => by omega
 | n + 1, u, h => by
  have one : ∀ d, d < 10 → dv (fun b => !(b == 35)) (digits.extract d (d + 1)) = true := by
   intro d hd
   rw [tq d hd]
   match d, hd with
   | 0, _ => decide
   | 1, _ => decide
   | 2, _ => decide
   | 3, _ => decide
   | 4, _ => decide
   | 5, _ => decide
   | 6, _ => decide
   | 7, _ => decide
   | 8, _ => decide
   | 9, _ => decide
  by_cases c : u < 10
  · rw [ag3 c]; exact one u c
  · rw [ac4 c, aek, afg n (u / 10) (by omega), one (u % 10) (by omega)]; rfl
def adh (h : Int) (b : UInt8) : Int := (41 * h + b.toNat + 1) % 999979
def rb (s : ByteArray) (i : Nat) : Int := (s.data.toList.take i).foldl adh 7
def ckS (s : ByteArray) : Int := rb s s.size
theorem aat {s : ByteArray} {i : Nat} (h : i < s.size) : rb s (i + 1) = adh (rb s i) (s[i]'h) := by
 have hl : i < s.data.toList.length := h
 rw [rb, List.take_succ_eq_append_getElem hl, List.foldl_append, ← l6 s h]; rfl
theorem ahc (s : ByteArray) : ∀ i, i ≤ s.size → 0 ≤ rb s i ∧ rb s i < 999979
 | 0, _ => by simp [rb]
 | i + 1, h => by
  rw [aat (by omega : i < s.size), adh]
  omega
theorem als (s : ByteArray) : 0 ≤ ckS s ∧ ckS s < 999979 := ahc s s.size (Nat.le_refl _)
theorem al7 {h : Int} {b : UInt8} (h0 : 0 ≤ h) : (41 * h + b.toNat + 1).tmod 999979 = adh h b := by
 rw [adh, Int.tmod_eq_emod_of_nonneg (by omega)]
theorem aju (s : ByteArray) (hs : s.size ≤ 4000) : Ctr Tryz.prog 154 [.str s] [] (.tup [.int .i64 (ckS s), .bool true]) [] := by
 refine Ctr.intro Tryz.mixed Tryz.func154 rfl Tryz.ayw ?_
 refine ev2 @Tryz.ntmps154 @Tryz.results154 ?_
 have c0 : decide ((4000 : Int) < s.size) = false := decide_eq_false (by omega)
 refine ev1 @c0 ?_
 refine dh.intro (fun i : Nat => i ≤ s.size) (fun i => ⟨(.str s :: (un 3 (.int .i64 (rb s i) :: (un 5 (.int .i64 s.size :: .int .i64 i :: (un 13 [])))))), [], 0⟩) (fun i => s.size - i) 0 (Nat.zero_le _) ?_ (fun i hi => ?_)
 · refine aq.cut (0) (by simp) (by simp) ?_ ?_
   · simp [LeC, LeV, ren, bj, rb]
   · rfl
 refine ev0 ?_
 refine ax.split (fun h1 => ?_) (fun h1 => ?_)
 · refine ev1 @h1 ?_
   have hi' : i < s.size := by simpa using h1
   have hu := UInt8.toNat_lt (s[i]'hi')
   have hbd := ahc s i hi
   have hw1 : IntKind.i64.wrap ((s[i]'hi').toNat : Int) = ((s[i]'hi').toNat : Int) := wrap_i64 (by omega) (by omega)
   have hw2 : IntKind.i64.wrap (41 * rb s i) = 41 * rb s i := wrap_i64 (by omega) (by omega)
   have hw3 : IntKind.i64.wrap (41 * rb s i + ((s[i]'hi').toNat : Int)) = 41 * rb s i + ((s[i]'hi').toNat : Int) := wrap_i64 (by omega) (by omega)
   have hw4 : IntKind.i64.wrap (41 * rb s i + ((s[i]'hi').toNat : Int) + 1) = 41 * rb s i + ((s[i]'hi').toNat : Int) + 1 := wrap_i64 (by omega) (by omega)
   have hq := al7 (b := s[i]'hi') hbd.1
   refine ⟨⟨by omega, hi'⟩, ?_⟩
   try refine ew5 @hw1 @hw2 @hw3 @hw4 @hq ?_
   repeat (with_reducible refine And.intro ?_ ?_; focus (first | omega | with_reducible rfl | (show cc _ = true; kernel_rfl) | (simp only [bb, bh, List.length_append, List.length_cons, List.length_nil, List.all_append, List.all_cons, List.all_nil, cn, Nat.mul_one, Nat.one_mul, Bool.and_self]; first | done | omega) | (simp only [ByteArray.size_append, cb, List.size_toArray, List.length_cons, List.length_nil]; omega)))
   refine ⟨i + 1, hi', ?_, by omega⟩
   refine aq.cut (0) (by simp) (by simp) ?_ ?_
   · rw [aat hi']
     try rw [wrap_i64 (by omega) (by omega)]
     simp [LeC, LeV, ren, bj]
   · rfl
 · refine ev1 @h1 ?_
   have hi' : i = s.size := by simp at h1; omega
   subst hi'
   exact ak.au rfl (by rfl)
theorem ai1 (s : ByteArray) (hs : s.size ≤ 4000) : Ctr Tryz.prog 136 [.str s] [] (.int .i64 (ckS s)) [] := by
 refine Ctr.intro Tryz.mixed Tryz.func136 rfl Tryz.axh ?_
 refine ev2 @Tryz.ntmps136 @Tryz.results136 ?_
 refine dh.intro (fun i : Nat => i ≤ s.size) (fun i => ⟨(.str s :: .undef :: .undef :: .int .i64 (rb s i) :: .int .i64 i :: (un 16 [])), [], 0⟩) (fun i => s.size - i) 0 (Nat.zero_le _) ?_ (fun i hi => ?_)
 · refine aq.cut (0) (by simp) (by simp) ?_ ?_
   · simp [LeC, LeV, ren, bj, rb]
   · rfl
 refine ev0 ?_
 refine ax.split (fun h1 => ?_) (fun h1 => ?_)
 · refine ev1 @h1 ?_
   have hi' : i < s.size := by simpa using h1
   have hu := UInt8.toNat_lt (s[i]'hi')
   have hbd := ahc s i hi
   have hw1 : IntKind.i64.wrap ((s[i]'hi').toNat : Int) = ((s[i]'hi').toNat : Int) := wrap_i64 (by omega) (by omega)
   have hw2 : IntKind.i64.wrap (41 * rb s i) = 41 * rb s i := wrap_i64 (by omega) (by omega)
   have hw3 : IntKind.i64.wrap (41 * rb s i + ((s[i]'hi').toNat : Int)) = 41 * rb s i + ((s[i]'hi').toNat : Int) := wrap_i64 (by omega) (by omega)
   have hw4 : IntKind.i64.wrap (41 * rb s i + ((s[i]'hi').toNat : Int) + 1) = 41 * rb s i + ((s[i]'hi').toNat : Int) + 1 := wrap_i64 (by omega) (by omega)
   have hq := al7 (b := s[i]'hi') hbd.1
   refine ⟨⟨by omega, hi'⟩, ?_⟩
   try refine ew5 @hw1 @hw2 @hw3 @hw4 @hq ?_
   repeat (with_reducible refine And.intro ?_ ?_; focus (first | omega | with_reducible rfl | (show cc _ = true; kernel_rfl) | (simp only [bb, bh, List.length_append, List.length_cons, List.length_nil, List.all_append, List.all_cons, List.all_nil, cn, Nat.mul_one, Nat.one_mul, Bool.and_self]; first | done | omega) | (simp only [ByteArray.size_append, cb, List.size_toArray, List.length_cons, List.length_nil]; omega)))
   refine ⟨i + 1, hi', ?_, by omega⟩
   refine aq.cut (0) (by simp) (by simp) ?_ ?_
   · rw [aat hi']
     try rw [wrap_i64 (by omega) (by omega)]
     simp [LeC, LeV, ren, bj]
   · rfl
 · refine ev1 @h1 ?_
   have hi' : i = s.size := by simp at h1; omega
   subst hi'
   exact ak.au rfl (by rfl)
def nq (s : ByteArray) : ByteArray := (s ++ ⟨#[35]⟩) ++ num (ckS s)
theorem ad5 (s : ByteArray) : (num (ckS s)).size ≤ 21 := by
 have := als s
 exact dz (by omega) (by omega)
theorem ix (s : ByteArray) : (nq s).size ≤ s.size + 22 := by
 have := ad5 s
 unfold nq
 simp only [ByteArray.size_append, cb, List.size_toArray, List.length_cons, List.length_nil]; omega
theorem aod (s : ByteArray) (hs : s.size ≤ 4000) : Ctr Tryz.prog 103 [.str s] [] (.str (nq s)) [] := by
 have hc := als s
 have hz := ad5 s
 refine Ctr.intro Tryz.mixed Tryz.func103 rfl Tryz.aym ?_
 refine ev2 @Tryz.ntmps103 @Tryz.results103 ?_
 repeat (first | ((first | refine al.at (ai1 s hs) ⟨leA, trivial⟩ ?_ | refine ai.at (ai1 s hs) ⟨leA, trivial⟩ ?_); refine ev0 ?_) | ((have ct := ed (ckS s) (by omega) (by omega); (first | refine al.at ct ⟨leA, trivial⟩ ?_ | refine ai.at ct ⟨leA, trivial⟩ ?_); clear ct); refine ev0 ?_) | (with_reducible refine And.intro (by first | omega | (show cc _ = true; kernel_rfl) | (simp only [ByteArray.size_append, cb, List.size_toArray, List.length_cons, List.length_nil]; omega)) ?_; try refine ew0 ?_))
 exact ak.au rfl (by rfl)
theorem zw (s : ByteArray) (hs : s.size ≤ 1000) (hp : dv (fun b => !(b == 35)) s = true) : Ctr Tryz.prog 118 [.str s] [] (.tup [.str (nq s), .bool true]) [] := by
 have hc := als s
 have hz := ad5 s
 have hss := ix s
 have hno : decide (0 ≤ Lib.indexByte s.data.toList 35) = false := by
  rw [ss]
  show (!(dv (fun b => !(b == 35)) s)) = false
  rw [hp]; rfl
 have hlong : decide ((4000 : Int) < ((nq s).size : Int)) = false := decide_eq_false (by omega)
 refine Ctr.intro Tryz.mixed Tryz.func118 rfl Tryz.ax1 ?_
 refine ev2 @Tryz.ntmps118 @Tryz.results118 ?_
 repeat (first | ((have ct := aju s (by omega); (first | refine al.at ct ⟨leA, trivial⟩ ?_ | refine ai.at ct ⟨leA, trivial⟩ ?_); clear ct); refine ev0 ?_) | ((have ct := n8 (ckS s) ⟨by omega, by omega⟩; (first | refine al.at ct ⟨leA, trivial⟩ ?_ | refine ai.at ct ⟨leA, trivial⟩ ?_); clear ct); refine ev0 ?_) | (with_reducible refine And.intro (by first | omega | (show cc _ = true; kernel_rfl) | (simp only [ByteArray.size_append, cb, List.size_toArray, List.length_cons, List.length_nil]; omega)) ?_; try refine ew0 ?_))
 (have ct := vq s 35; (first | refine al.at ct ⟨leA, leA, trivial⟩ ?_ | refine ai.at ct ⟨leA, leA, trivial⟩ ?_); clear ct)
 have e : (s ++ (⟨#[35]⟩ : ByteArray)) ++ num (ckS s) = nq s := rfl
 rw [e]
 refine ev2 @hno @hlong ?_
 exact ak.au rfl (by rfl)
def dn (k : Int) (e : ay) : ByteArray := (((num k ++ ⟨#[32]⟩) ++ e.Command) ++ ⟨#[64]⟩) ++ e.Reply
def fj (k : Int) (e : ay) : ByteArray := nq (dn k e) ++ ⟨#[10]⟩
theorem aab {e : ay} (h : jc e = true) : e.Command.size ≤ 160 ∧ e.Reply.size ≤ 200 ∧ dv (fun b => br b && !(b == 64)) e.Command = true ∧ dv br e.Reply = true ∧ 1 ≤ e.Command.size := by
 simp [jc] at h
 exact ⟨h.1.1.2, h.2.1, h.1.2, h.2.2, h.1.1.1⟩
theorem gn {k : Int} {e : ay} (hk : 0 ≤ k ∧ k ≤ 59) (h : jc e = true) : (dn k e).size ≤ 400 := by
 have := aab h
 have := dz (n := k) (by omega) (by omega)
 unfold dn
 simp only [ByteArray.size_append, cb, List.size_toArray, List.length_cons, List.length_nil]; omega
theorem aa7 {p q : UInt8 → Bool} {s : ByteArray} (h : dv p s = true) (hpq : ∀ b, p b = true → q b = true) : dv q s = true :=
 List.all_eq_true.2 fun x hx => hpq x (List.all_eq_true.1 h x hx)
theorem xm {k : Int} {e : ay} (hk : 0 ≤ k ∧ k ≤ 59) (h : jc e = true) : dv (fun b => !(b == 35)) (dn k e) = true := by
 obtain ⟨_, _, h3, h4, _⟩ := aab h
 obtain ⟨u, rfl⟩ := Int.eq_ofNat_of_zero_le hk.1
 have n1 : dv (fun b => !(b == 35)) (num (u : Int)) = true := afg (u + 1) u (by omega)
 have c1 : dv (fun b => !(b == 35)) e.Command = true := aa7 h3 (fun b hb => by simp [br] at hb ⊢; exact hb.1.2)
 have c2 : dv (fun b => !(b == 35)) e.Reply = true := aa7 h4 (fun b hb => by simp [br] at hb ⊢; exact hb.2)
 unfold dn
 simp only [aek, n1, c1, c2, Bool.true_and, Bool.and_true]
 rfl
def aki (k : Int) (e : ay) : List V := if fb k 0 59 = true ∧ jc e = true then [.str (fj k e), .bool true] else [.str ⟨#[]⟩, .bool false]
theorem tb (k : Int) (e : ay) (hc : e.Command.size ≤ 281474976710656) (hr : e.Reply.size ≤ 281474976710656) : Ctr Tryz.prog 75 [.int .i64 k, e.v] [] (.tup (aki k e)) [] := by
 refine Ctr.intro Tryz.mixed Tryz.func75 rfl Tryz.a2s ?_
 refine ev2 @Tryz.ntmps75 @Tryz.results75 ?_
 refine ev1 @ay.v.eq_1 ?_
 (first | refine al.at (j8 k 0 59) ⟨leA, leA, leA, trivial⟩ ?_ | refine ai.at (j8 k 0 59) ⟨leA, leA, leA, trivial⟩ ?_)
 refine ev0 ?_
 refine aw.cg (fun g1 => ?_) (fun g1 => ?_) <;> refine ev1 @g1 ?_
 rotate_left
 · exact ak.au (by rw [aki, if_neg (by simp at g1; simp [g1])]) (by rfl)
 (have ct := nc e hc hr; (first | refine al.at ct ⟨leA, trivial⟩ ?_ | refine ai.at ct ⟨leA, trivial⟩ ?_); clear ct)
 refine ev0 ?_
 refine ax.split (fun g2 => ?_) (fun g2 => ?_) <;> refine ev1 @g2 ?_
 · exact ak.au (by rw [aki, if_neg (by simp at g2; simp [g2])]) (by rfl)
 have hk : fb k 0 59 = true := by simpa using g1
 have he : jc e = true := by simpa using g2
 have hk' := gr.1 hk
 have z1 := dz (n := k) (by omega) (by omega)
 have z2 := aab he
 have z3 := gn hk' he
 have z4 := ix (dn k e)
 have e1 : (((num k ++ (⟨#[32]⟩ : ByteArray)) ++ e.Command) ++ (⟨#[64]⟩ : ByteArray)) ++ e.Reply = dn k e := rfl
 repeat (first | ((have ct := n8 k ⟨by omega, by omega⟩; (first | refine al.at ct ⟨leA, trivial⟩ ?_ | refine ai.at ct ⟨leA, trivial⟩ ?_); clear ct); refine ev0 ?_) | (with_reducible refine And.intro (by first | omega | (show cc _ = true; kernel_rfl) | (simp only [ByteArray.size_append, cb, List.size_toArray, List.length_cons, List.length_nil]; omega)) ?_; try refine ew0 ?_))
 rw [e1]
 repeat (first | ((have ct := zw (dn k e) (by omega) (xm hk' he); (first | refine al.at ct ⟨leA, trivial⟩ ?_ | refine ai.at ct ⟨leA, trivial⟩ ?_); clear ct); refine ev0 ?_) | (with_reducible refine And.intro (by first | omega | (show cc _ = true; kernel_rfl) | (simp only [ByteArray.size_append, cb, List.size_toArray, List.length_cons, List.length_nil]; omega)) ?_; try refine ew0 ?_))
 exact ak.au (by rw [aki, if_pos ⟨hk, he⟩]; rfl) (by rfl)
theorem acp (k : Int) (e : ay) (hk : 0 ≤ k ∧ k ≤ 59) (he : jc e = true) : Ctr Tryz.prog 62 [.int .i64 k, e.v] [] (.str (fj k e)) [] := by
 have z1 := dz (n := k) (by omega) (by omega)
 have z2 := aab he
 have z3 := gn hk he
 have z4 := ix (dn k e)
 have e1 : (((num k ++ (⟨#[32]⟩ : ByteArray)) ++ e.Command) ++ (⟨#[64]⟩ : ByteArray)) ++ e.Reply = dn k e := rfl
 refine Ctr.intro Tryz.mixed Tryz.func62 rfl Tryz.a48 ?_
 refine ev2 @Tryz.ntmps62 @Tryz.results62 ?_
 refine ev1 @ay.v.eq_1 ?_
 repeat (first | ((have ct := ed k (by omega) (by omega); (first | refine al.at ct ⟨leA, trivial⟩ ?_ | refine ai.at ct ⟨leA, trivial⟩ ?_); clear ct); refine ev0 ?_) | (with_reducible refine And.intro (by first | omega | (show cc _ = true; kernel_rfl) | (simp only [ByteArray.size_append, cb, List.size_toArray, List.length_cons, List.length_nil]; omega)) ?_; try refine ew0 ?_))
 rw [e1]
 repeat (first | ((have ct := aod (dn k e) (by omega); (first | refine al.at ct ⟨leA, trivial⟩ ?_ | refine ai.at ct ⟨leA, trivial⟩ ?_); clear ct); refine ev0 ?_) | (with_reducible refine And.intro (by first | omega | (show cc _ = true; kernel_rfl) | (simp only [ByteArray.size_append, cb, List.size_toArray, List.length_cons, List.length_nil]; omega)) ?_; try refine ew0 ?_))
 exact ak.au rfl (by rfl)
end Go.Proofs
end
section
set_option maxRecDepth 100000
set_option maxHeartbeats 1000000
namespace Go.Proofs
open Go.Lv
theorem al2 (c : UInt8) (hc : c.toNat < 48) : ∀ (n u : Nat), u < n → noB c (num u) = true
 | 0, u, h => by omega
 | n + 1, u, h => by
  have one : ∀ d, d < 10 → noB c (digits.extract d (d + 1)) = true := by
   intro d hd
   rw [tq d hd]
   have hne : (UInt8.ofNat (48 + d) == c) = false := by
    rw [beq_eq_false_iff_ne]
    intro e
    have h1 : (UInt8.ofNat (48 + d)).toNat = c.toNat := by rw [e]
    rw [UInt8.toNat_ofNat'] at h1
    omega
   show (!(UInt8.ofNat (48 + d) == c) && true) = true
   rw [hne]; rfl
  by_cases h1 : u < 10
  · rw [ag3 h1]; exact one u h1
  · rw [ac4 h1, noB, aek]
    have g1 := al2 c hc n (u / 10) (by omega)
    have g2 := one (u % 10) (by omega)
    unfold noB at g1 g2
    rw [g1, g2]; rfl
def kv (line : ByteArray) : ay := ⟨bef 64 (aft 32 (bef 35 line)), aft 64 (aft 32 (bef 35 line))⟩
theorem at3 (s : ByteArray) : nq s = s ++ (⟨#[35]⟩ ++ num (ckS s)) := by rw [nq, ByteArray.append_assoc]
theorem alx (k : Int) (e : ay) : dn k e = num k ++ (⟨#[32]⟩ ++ (e.Command ++ (⟨#[64]⟩ ++ e.Reply))) := by
 simp only [dn, ByteArray.append_assoc]
theorem ame {e : ay} (h : jc e = true) : noB 64 e.Command = true :=
 aa7 (aab h).2.2.1 (fun b hb => by simp at hb ⊢; exact hb.2)
theorem ajy {k : Int} {e : ay} (hk : 0 ≤ k ∧ k ≤ 59) (h : jc e = true) : bef 35 (nq (dn k e)) = dn k e := by
 rw [at3]
 exact (sy (xm hk h)).2.1
theorem abc {k : Int} {e : ay} (hk : 0 ≤ k ∧ k ≤ 59) (h : jc e = true) : kv (nq (dn k e)) = e := by
 obtain ⟨u, rfl⟩ := Int.eq_ofNat_of_zero_le hk.1
 have n1 : noB 32 (num (u : Int)) = true := al2 32 (by decide) (u + 1) u (by omega)
 have a1 : aft 32 (dn u e) = e.Command ++ (⟨#[64]⟩ ++ e.Reply) := by
  rw [alx]; exact (sy n1).2.2.1
 have c := sy (y := e.Reply) (ame h)
 rw [kv, ajy hk h, a1, c.2.1, c.2.2.1]
def aa6 (k : Int) (line : ByteArray) : Option ay := if fb k 0 59 = true ∧ jc (kv line) = true ∧ nq (dn k (kv line)) = line then some (kv line) else none
theorem qc {k : Int} {line : ByteArray} {e : ay} : aa6 k line = some e ↔ (0 ≤ k ∧ k ≤ 59) ∧ jc e = true ∧ nq (dn k e) = line := by
 unfold aa6
 constructor
 · intro g
   split at g
   · rename_i c
     simp only [Option.some.injEq] at g
     subst g
     exact ⟨gr.1 c.1, c.2.1, c.2.2⟩
   · cases g
 · rintro ⟨hk, he, rfl⟩
   rw [abc hk he, if_pos ⟨gr.2 hk, he, rfl⟩]
theorem aa4 {k : Int} {line : ByteArray} (h : ∀ e, ¬ ((0 ≤ k ∧ k ≤ 59) ∧ jc e = true ∧ nq (dn k e) = line)) : aa6 k line = none := by
 cases g : aa6 k line with
 | none => rfl
 | some e => exact absurd (qc.1 g) (h e)
theorem append_right_inj {a b c : ByteArray} (h : a ++ c = b ++ c) : a = b := by
 apply s4
 have := congrArg (fun x : ByteArray => x.data.toList) h
 simp only [l5] at this
 exact List.append_cancel_right this
def jd (k : Int) (s : ByteArray) : Option (ay × Nat) := if fnd 10 s = true then (aa6 k (bef 10 s)).map fun e => (e, (bef 10 s).size + 1) else none
def ya (k : Int) (line R : ByteArray) : ay × Bool :=
 if (bef 64 R).size = R.size then (⟨⟨#[]⟩, ⟨#[]⟩⟩, false)
 else (⟨bef 64 R, R.extract ((bef 64 R).size + 1) R.size⟩, jc ⟨bef 64 R, R.extract ((bef 64 R).size + 1) R.size⟩ && decide (fj k ⟨bef 64 R, R.extract ((bef 64 R).size + 1) R.size⟩ = line ++ ⟨#[10]⟩))
def l4 (k : Int) (line : ByteArray) : ay × Bool :=
 if (bef 35 line).size < (num k ++ (⟨#[32]⟩ : ByteArray)).size ∨ ¬ (bef 35 line).extract 0 (num k ++ (⟨#[32]⟩ : ByteArray)).size = num k ++ (⟨#[32]⟩ : ByteArray) then (⟨⟨#[]⟩, ⟨#[]⟩⟩, false)
 else ya k line ((bef 35 line).extract (num k ++ (⟨#[32]⟩ : ByteArray)).size (bef 35 line).size)
theorem aii {k : Int} {line : ByteArray} (hk : 0 ≤ k ∧ k ≤ 59) (h : (l4 k line).2 = true) : aa6 k line = some (l4 k line).1 := by
 unfold l4 at h ⊢
 split
 · rename_i c; rw [if_pos c] at h; cases h
 · rename_i c
   rw [if_neg c] at h
   unfold ya at h ⊢
   split
   · rename_i c2; rw [if_pos c2] at h; cases h
   · rename_i c2
     rw [if_neg c2] at h
     simp only [Bool.and_eq_true, decide_eq_true_eq] at h
     exact qc.2 ⟨hk, h.1, append_right_inj h.2⟩
theorem aqo (a b : ByteArray) : (a ++ b).extract 0 a.size = a := by
 apply s4
 rw [ec, l5, List.drop_zero]
 exact List.take_left' (gf a)
theorem af9 (a b : ByteArray) : (a ++ b).extract a.size (a ++ b).size = b := by
 apply s4
 have hl : (a ++ b).size = (a ++ b).data.toList.length := rfl
 rw [ec, hl, List.take_length, l5]
 exact List.drop_left' (gf a)
theorem aor {k : Int} {line : ByteArray} {e : ay} (h : aa6 k line = some e) : l4 k line = (e, true) := by
 obtain ⟨hk, he, hl⟩ := qc.1 h
 have ht : bef 35 line = (num k ++ (⟨#[32]⟩ : ByteArray)) ++ (e.Command ++ (⟨#[64]⟩ ++ e.Reply)) := by
  rw [← hl, ajy hk he, alx]
  simp only [ByteArray.append_assoc]
 have hs : ((num k ++ (⟨#[32]⟩ : ByteArray)) ++ (e.Command ++ (⟨#[64]⟩ ++ e.Reply))).size = (num k ++ (⟨#[32]⟩ : ByteArray)).size + (e.Command ++ (⟨#[64]⟩ ++ e.Reply)).size := ByteArray.size_append
 have c := sy (y := e.Reply) (ame he)
 have hz : (e.Command ++ ((⟨#[64]⟩ : ByteArray) ++ e.Reply)).size = e.Command.size + (1 + e.Reply.size) := by
  rw [ByteArray.size_append, ByteArray.size_append]; rfl
 have hx : (e.Command ++ ((⟨#[64]⟩ : ByteArray) ++ e.Reply)).extract (e.Command.size + 1) (e.Command ++ ((⟨#[64]⟩ : ByteArray) ++ e.Reply)).size = e.Reply := by
  have h2 := af9 (e.Command ++ (⟨#[64]⟩ : ByteArray)) e.Reply
  have h3 : (e.Command ++ (⟨#[64]⟩ : ByteArray)).size = e.Command.size + 1 := by rw [ByteArray.size_append]; rfl
  rw [h3, ByteArray.append_assoc] at h2
  exact h2
 have ee : (⟨e.Command, e.Reply⟩ : ay) = e := rfl
 unfold l4
 rw [ht, aqo, af9, if_neg (by rw [hs]; simp), ya, c.2.1, if_neg (by rw [hz]; omega), hx, ee, he]
 have hr : fj k e = line ++ ⟨#[10]⟩ := by rw [fj, hl]
 rw [hr]
 simp
def rdN (s : ByteArray) : Nat → List ay × Nat
 | 0 => ([], 0)
 | n + 1 => match jd (rdN s n).1.length (s.extract (rdN s n).2 s.size) with
  | some r => ((rdN s n).1 ++ [r.1], (rdN s n).2 + r.2)
  | none => rdN s n
theorem ln {s : ByteArray} {n : Nat} {r : ay × Nat} (h : jd (rdN s n).1.length (s.extract (rdN s n).2 s.size) = some r) : rdN s (n + 1) = ((rdN s n).1 ++ [r.1], (rdN s n).2 + r.2) := by rw [rdN, h]
theorem s6 {s : ByteArray} {n : Nat} (h : jd (rdN s n).1.length (s.extract (rdN s n).2 s.size) = none) : rdN s (n + 1) = rdN s n := by rw [rdN, h]
theorem aan {s : ByteArray} {n : Nat} (h : jd (rdN s n).1.length (s.extract (rdN s n).2 s.size) = none) : ∀ m, rdN s (n + m) = rdN s n
 | 0 => rfl
 | m + 1 => by
  have ih := aan h m
  rw [← Nat.add_assoc, s6 (by rw [ih]; exact h), ih]
theorem ad8 {c : UInt8} {s : ByteArray} (h : fnd c s = true) : (bef c s).size + 1 ≤ s.size := by
 obtain ⟨x, y, e, hx⟩ := aag h
 have h1 := (sy (y := y) hx).2.1
 have h2 : (x ++ ((⟨#[c]⟩ : ByteArray) ++ y)).size = x.size + (1 + y.size) := by rw [ByteArray.size_append, ByteArray.size_append]; rfl
 rw [e, h1, h2]; omega
theorem w7 {k : Int} {s : ByteArray} {r : ay × Nat} (h : jd k s = some r) : fnd 10 s = true ∧ aa6 k (bef 10 s) = some r.1 ∧ r.2 = (bef 10 s).size + 1 := by
 unfold jd at h
 split at h
 · rename_i c
   cases g : aa6 k (bef 10 s) with
   | none => rw [g] at h; cases h
   | some e =>
    rw [g] at h
    simp only [Option.map_some, Option.some.injEq] at h
    subst h
    exact ⟨c, rfl, rfl⟩
 · cases h
theorem aal {k : Int} {s : ByteArray} {r : ay × Nat} (h : jd k s = some r) : 1 ≤ r.2 ∧ r.2 ≤ s.size ∧ r.2 ≤ 423 := by
 obtain ⟨h1, h2, h3⟩ := w7 h
 have := ad8 h1
 obtain ⟨hk, he, hl⟩ := qc.1 h2
 have g1 := gn hk he
 have g2 := ix (dn k r.1)
 rw [hl] at g2
 omega
theorem x6 (s : ByteArray) : ∀ n, (rdN s n).2 ≤ s.size ∧ (rdN s n).2 ≤ 423 * (rdN s n).1.length ∧ (rdN s n).1.length ≤ n
 | 0 => by simp [rdN]
 | n + 1 => by
  have ih := x6 s n
  cases h : jd (rdN s n).1.length (s.extract (rdN s n).2 s.size) with
  | none => rw [s6 h]; omega
  | some r =>
   have hz := aal h
   rw [ByteArray.size_extract] at hz
   rw [ln h]
   simp only [List.length_append, List.length_singleton]
   omega
theorem akz {k : Int} {s : ByteArray} {r : ay × Nat} (h : jd k s = some r) : 0 ≤ k ∧ k ≤ 59 := (qc.1 (w7 h).2.1).1
theorem yi (s : ByteArray) : ∀ n, (rdN s n).1.length ≤ 60
 | 0 => by simp [rdN]
 | n + 1 => by
  have ih := yi s n
  cases h : jd (rdN s n).1.length (s.extract (rdN s n).2 s.size) with
  | none => rw [s6 h]; exact ih
  | some r =>
   have hz := akz h
   rw [ln h]
   simp only [List.length_append, List.length_singleton]
   omega
def dq (s : ByteArray) : List ay := (rdN s 60).1
def qs (s : ByteArray) : Nat := (rdN s 60).2
theorem z7 {s : ByteArray} {i : Nat} (hl : (rdN s i).1.length = i) (h : jd i (s.extract (rdN s i).2 s.size) = none) : rdN s 60 = rdN s i := by
 have h60 := yi s i
 have := aan (s := s) (n := i) (by rw [hl]; exact h) (60 - i)
 rw [← this]
 congr 1; omega
theorem acj {s : ByteArray} : ∀ {i j : Nat}, (rdN s i).1.length = i → j ≤ i → (rdN s j).1.length = j
 | 0, j, _, hj => by have : j = 0 := by omega
                     subst this; rfl
 | i + 1, j, h, hj => by
  by_cases e : j = i + 1
  · subst e; exact h
  · refine acj (i := i) ?_ (by omega)
    have hb := (x6 s i).2.2
    cases g : jd (rdN s i).1.length (s.extract (rdN s i).2 s.size) with
    | none => rw [s6 g] at h; omega
    | some r => rw [ln g] at h; simp at h; exact h
def o3 (s : ByteArray) (i : Nat) : List Int := (List.range i).map fun j => ((rdN s (j + 1)).2 : Int)
theorem ajc (s : ByteArray) (i : Nat) : o3 s (i + 1) = o3 s i ++ [((rdN s (i + 1)).2 : Int)] := by simp [o3, List.range_succ]
theorem xt (s : ByteArray) (i : Nat) : (o3 s i).length = i := by simp [o3]
end Go.Proofs
end
section
set_option maxRecDepth 100000
set_option maxHeartbeats 2000000
namespace Go.Proofs
open Go.Lv
def aq3 : Option (ay × Nat) → V
 | some r => .tup [r.1.v, .int .i64 r.2, .bool true]
 | none => .tup [.agg [.str ⟨#[]⟩, .str ⟨#[]⟩], .int .i64 0, .bool false]
theorem an7 (k : Int) (s : ByteArray) (hs : s.size ≤ 16777216) : Ctr Tryz.prog 100 [.int .i64 k, .str s] [] (aq3 (jd k s)) [] := by
 have z1 := ti 10 s
 have z2 := ti 35 (bef 10 s)
 have z3 := ajj 32 (bef 35 (bef 10 s))
 have z4 := ti 64 (aft 32 (bef 35 (bef 10 s)))
 have z5 := ajj 64 (aft 32 (bef 35 (bef 10 s)))
 refine Ctr.intro Tryz.mixed Tryz.func100 rfl Tryz.aw6 ?_
 refine ev2 @Tryz.ntmps100 @Tryz.results100 ?_
 repeat (with_reducible refine And.intro ?_ ?_; focus (first | omega | with_reducible rfl | (show cc _ = true; kernel_rfl) | (simp only [bb, bh, List.length_append, List.length_cons, List.length_nil, List.all_append, List.all_cons, List.all_nil, cn, Nat.mul_one, Nat.one_mul, Bool.and_self]; first | done | omega) | (simp only [ByteArray.size_append, cb, List.size_toArray, List.length_cons, List.length_nil]; omega)))
 (have ct := ago s 10 (by omega); (first | refine al.at ct ⟨leA, leA, trivial⟩ ?_ | refine ai.at ct ⟨leA, leA, trivial⟩ ?_); clear ct)
 refine ev0 ?_
 have no : jd k s = none → ∀ h, ak 0 (.tup [.agg [.str ByteArray.empty, .str ByteArray.empty], .int .i64 0, .bool false]) h (aq3 (jd k s)) [] := fun e h => ak.au (by rw [e]; rfl) (by rfl)
 cases hf : fnd 10 s with
 | false =>
  have hn : jd k s = none := by rw [jd, hf]; rfl
  refine ev2 @hf @Bool.not_false ?_
  repeat (with_reducible refine And.intro ?_ ?_; focus (first | omega | with_reducible rfl | (show cc _ = true; kernel_rfl) | (simp only [bb, bh, List.length_append, List.length_cons, List.length_nil, List.all_append, List.all_cons, List.all_nil, cn, Nat.mul_one, Nat.one_mul, Bool.and_self]; first | done | omega) | (simp only [ByteArray.size_append, cb, List.size_toArray, List.length_cons, List.length_nil]; omega)))
  exact no hn _
 | true =>
  have hd : jd k s = (aa6 k (bef 10 s)).map fun e => (e, (bef 10 s).size + 1) := by rw [jd, if_pos hf]
  have hsz := ad8 hf
  refine ev2 @hf @Bool.not_true ?_
  refine ax.split (fun g1 => ?_) (fun g1 => ?_) <;> refine rs1 @g1 ?_
  · refine no ?_ _
    rw [hd, aa4]
    · rfl
    · rintro e ⟨hk, he, hl⟩
      have := gn hk he
      have := ix (dn k e)
      rw [hl] at this
      simp at g1
      omega
  (have ct := ago (bef 10 s) 35 (by omega); (first | refine al.at ct ⟨leA, leA, trivial⟩ ?_ | refine ai.at ct ⟨leA, leA, trivial⟩ ?_); clear ct)
  refine ev0 ?_
  (have ct := ago (bef 35 (bef 10 s)) 32 (by omega); (first | refine al.at ct ⟨leA, leA, trivial⟩ ?_ | refine ai.at ct ⟨leA, leA, trivial⟩ ?_); clear ct)
  refine ev0 ?_
  (have ct := ago (aft 32 (bef 35 (bef 10 s))) 64 (by omega); (first | refine al.at ct ⟨leA, leA, trivial⟩ ?_ | refine ai.at ct ⟨leA, leA, trivial⟩ ?_); clear ct)
  refine rs0 ?_
  have hE := tb k (kv (bef 10 s)) (by show (bef 64 _).size ≤ _; omega) (by show (aft 64 _).size ≤ _; omega)
  have pc : (kv (bef 10 s)).Command = bef 64 (aft 32 (bef 35 (bef 10 s))) := rfl
  have pr : (kv (bef 10 s)).Reply = aft 64 (aft 32 (bef 35 (bef 10 s))) := rfl
  by_cases hc : fb k 0 59 = true ∧ jc (kv (bef 10 s)) = true
  · rw [aki, if_pos hc] at hE
    have t1 := gn (gr.1 hc.1) hc.2
    have t2 := ix (dn k (kv (bef 10 s)))
    have t3 : (fj k (kv (bef 10 s))).size = (nq (dn k (kv (bef 10 s)))).size + 1 := by rw [fj, ByteArray.size_append]; rfl
    (first | refine al.at (hE) ⟨leA, leA, trivial⟩ ?_ | refine ai.at (hE) ⟨leA, leA, trivial⟩ ?_)
    refine rs1 @iy ?_
    by_cases hq : fj k (kv (bef 10 s)) = bef 10 s ++ ⟨#[10]⟩
    · have hdq : decide (fj k (kv (bef 10 s)) = bef 10 s ++ (⟨#[10]⟩ : ByteArray)) = true := decide_eq_true hq
      have hs' : aa6 k (bef 10 s) = some (kv (bef 10 s)) := qc.2 ⟨gr.1 hc.1, hc.2, append_right_inj hq⟩
      refine rs2 @hdq @Bool.not_true ?_
      refine ak.au ?_ (by rfl)
      rw [hd, hs']
      simp only [Option.map_some, aq3, ay.v, pc, pr]
      rfl
    · have hdq : decide (fj k (kv (bef 10 s)) = bef 10 s ++ (⟨#[10]⟩ : ByteArray)) = false := decide_eq_false hq
      have hn : jd k s = none := by
       rw [hd, aa4]
       · rfl
       · rintro e ⟨hk, he, hl⟩
         have := abc hk he
         rw [hl] at this
         rw [this] at hq
         exact hq (by rw [fj, hl])
      refine rs2 @hdq @Bool.not_false ?_
      exact no hn _
  · rw [aki, if_neg hc] at hE
    have hn : jd k s = none := by
     rw [hd, aa4]
     · rfl
     · rintro e ⟨hk, he, hl⟩
       have := abc hk he
       rw [hl] at this
       rw [this] at hc
       exact hc ⟨gr.2 hk, he⟩
    (first | refine al.at (hE) ⟨leA, leA, trivial⟩ ?_ | refine ai.at (hE) ⟨leA, leA, trivial⟩ ?_)
    refine rs1 @Bool.not_false ?_
    exact no hn _
def ary (s : ByteArray) : V := .tup [.osl 0 0 (dq s).length 2, .osl 1 0 (dq s).length 1]
def aqd (s : ByteArray) : Hp := [some (rows ay.cs (dq s)), some (rows IntS.cs (o3 s (dq s).length))]
theorem auc (s : ByteArray) (hs : s.size ≤ 16777216) : Ctr Tryz.prog 58 [.str s] [] (ary s) (aqd s) := by
 refine Ctr.intro Tryz.mixed Tryz.func58 rfl Tryz.a6f ?_
 refine ev2 @Tryz.ntmps58 @Tryz.results58 ?_
 refine dh.intro (fun i : Nat => (rdN s i).1.length = i) (fun i => ⟨(.str s :: (un 3 (.osl 0 0 i 2 :: .osl 1 0 i 1 :: .int .i64 (rdN s i).2 :: (un 30 [])))), [some (rows ay.cs (rdN s i).1), some (rows IntS.cs (o3 s i))], 0⟩) (fun i => 61 - i) 0 rfl ?_ (fun i hi => ?_)
 · refine aq.cut (2) (by simp) (by simp) ?_ ?_
   · simp [LeC, LeV, ren, bj, rdN]
   · simp [bz, ck, rdN, rows, o3]
 have hb := x6 s i
 have h60 := yi s i
 have hez : (s.extract (rdN s i).2 s.size).size ≤ 16777216 := by rw [ByteArray.size_extract]; omega
 have hen := xt s i
 rw [hi] at h60
 refine ev0 ?_
 repeat (with_reducible refine And.intro ?_ ?_; focus (first | omega | with_reducible rfl | (show cc _ = true; kernel_rfl) | (simp only [bb, bh, List.length_append, List.length_cons, List.length_nil, List.all_append, List.all_cons, List.all_nil, cn, Nat.mul_one, Nat.one_mul, Bool.and_self]; first | done | omega) | (simp only [ByteArray.size_append, cb, List.size_toArray, List.length_cons, List.length_nil]; omega)))
 (have ct := an7 (i : Int) (s.extract (rdN s i).2 s.size) hez; (first | refine al.at ct ⟨leA, leA, trivial⟩ ?_ | refine ai.at ct ⟨leA, leA, trivial⟩ ?_); clear ct)
 cases hd : jd (i : Int) (s.extract (rdN s i).2 s.size) with
 | none =>
  have e := z7 hi hd
  (repeat ((repeat1' (first | simp -implicitDefEqProofs -dsimp only [go_sem, aq3, Bool.not_false] | simp -dsimp (disch := omega) only [wrap_i64])); repeat (with_reducible refine And.intro ?_ ?_; focus (first | omega | with_reducible rfl | (show cc _ = true; kernel_rfl) | (simp only [bb, bh, List.length_append, List.length_cons, List.length_nil, List.all_append, List.all_cons, List.all_nil, cn, Nat.mul_one, Nat.one_mul, Bool.and_self]; first | done | omega) | (simp only [ByteArray.size_append, cb, List.size_toArray, List.length_cons, List.length_nil]; omega)))))
  have e1 : dq s = (rdN s i).1 := by rw [dq, e]
  rw [ary, aqd, e1, hi]
  refine ak.pick [0, 1] (by decide) (fun j hj => by omega) (.inl ?_) ?_
  · first | rfl | (simp [ren, bc, posOf]; done)
  · simp only [az, List.map_cons, List.map_nil, bg, List.getElem?_cons_zero, List.getElem?_cons_succ, ae]
 | some r =>
  have hz := aal hd
  rw [ByteArray.size_extract] at hz
  have hk := akz hd
  have hS : rdN s (i + 1) = ((rdN s i).1 ++ [r.1], (rdN s i).2 + r.2) := ln (by rw [hi]; exact hd)
  (repeat ((repeat1' (first | simp -implicitDefEqProofs -dsimp only [go_sem, aq3, Bool.not_true, ay.v] | simp -dsimp (disch := omega) only [wrap_i64])); repeat (with_reducible refine And.intro ?_ ?_; focus (first | omega | with_reducible rfl | (show cc _ = true; kernel_rfl) | (simp only [bb, bh, List.length_append, List.length_cons, List.length_nil, List.all_append, List.all_cons, List.all_nil, cn, Nat.mul_one, Nat.one_mul, Bool.and_self]; first | done | omega) | (simp only [ByteArray.size_append, cb, List.size_toArray, List.length_cons, List.length_nil]; omega)))))
  refine ⟨i + 1, by rw [hS]; simp [hi], ?_, by omega⟩
  have e2 := ajc s i
  rw [hS] at e2
  refine aq.cut (2) (by simp) (by simp) ?_ ?_
  · rw [hS]; simp [LeC, LeV, ren, bj]
  · rw [e2, hS, ← di, ← di]
    simp [bz, ck, ren, bj, ae, dd, me, ay.cs, IntS.cs]
theorem akq (k : Int) (s : ByteArray) (hk : 0 ≤ k ∧ k ≤ 59) (hs : s.size ≤ 16777216) : Ctr Tryz.prog 131 [.str s, .int .i64 k] [] (.tup [(l4 k s).1.v, .bool (l4 k s).2]) [] := by
 have n1 := dz (n := k) (by omega) (by omega)
 have z2 := ti 35 s
 obtain ⟨l, hl, _⟩ := qd 35 s
 have hsp := tv s 35 hs
 rw [hl] at hsp
 have c35 : (((35 : UInt8).toNat : Nat) : Int) = 35 := rfl
 have c64 : (((64 : UInt8).toNat : Nat) : Int) = 64 := rfl
 rw [c35] at hsp
 refine Ctr.intro Tryz.mixed Tryz.func131 rfl Tryz.axx ?_
 refine ev2 @Tryz.ntmps131 @Tryz.results131 ?_
 repeat (with_reducible refine And.intro ?_ ?_; focus (first | omega | with_reducible rfl | (show cc _ = true; kernel_rfl) | (simp only [bb, bh, List.length_append, List.length_cons, List.length_nil, List.all_append, List.all_cons, List.all_nil, cn, Nat.mul_one, Nat.one_mul, Bool.and_self]; first | done | omega) | (simp only [ByteArray.size_append, cb, List.size_toArray, List.length_cons, List.length_nil]; omega)))
 repeat (first | ((have ct := ed k (by omega) (by omega); (first | refine al.at ct ⟨leA, trivial⟩ ?_ | refine ai.at ct ⟨leA, trivial⟩ ?_); clear ct); refine ev0 ?_) | (with_reducible refine And.intro (by first | omega | (show cc _ = true; kernel_rfl) | (simp only [ByteArray.size_append, cb, List.size_toArray, List.length_cons, List.length_nil]; omega)) ?_; try refine ew0 ?_))
 (first | refine al.at (hsp) ⟨leA, leA, trivial⟩ ?_ | refine ai.at (hsp) ⟨leA, leA, trivial⟩ ?_)
 refine rs3 @List.length_cons.{0} @e8 @StringS.cs.eq_1 ?_
 have h32 : ((#[32] : Array UInt8).size) = 1 := rfl
 have hN : (num k ++ (⟨#[32]⟩ : ByteArray)).size = (num k).size + 1 := ByteArray.size_append
 rw [h32]
 refine aw.cg (fun g1 => ?_) (fun g1 => ?_) <;> refine ev2 @g1 @h32 ?_
 rotate_left
 · repeat (with_reducible refine And.intro ?_ ?_; focus (first | omega | with_reducible rfl | (show cc _ = true; kernel_rfl) | (simp only [bb, bh, List.length_append, List.length_cons, List.length_nil, List.all_append, List.all_cons, List.all_nil, cn, Nat.mul_one, Nat.one_mul, Bool.and_self]; first | done | omega) | (simp only [ByteArray.size_append, cb, List.size_toArray, List.length_cons, List.length_nil]; omega)))
   refine ak.au ?_ (by rfl)
   rw [l4, if_pos (.inl (by rw [hN]; simp at g1; omega))]
   rfl
 repeat (with_reducible refine And.intro ?_ ?_; focus (first | omega | with_reducible rfl | (show cc _ = true; kernel_rfl) | (simp only [bb, bh, List.length_append, List.length_cons, List.length_nil, List.all_append, List.all_cons, List.all_nil, cn, Nat.mul_one, Nat.one_mul, Bool.and_self]; first | done | omega) | (simp only [ByteArray.size_append, cb, List.size_toArray, List.length_cons, List.length_nil]; omega)))
 refine ev1 @iy ?_
 have g1' : (num k).size + 1 ≤ (bef 35 s).size := by simp at g1; omega
 refine ⟨by omega, ?_⟩
 refine ax.split (fun g2 => ?_) (fun g2 => ?_) <;> refine ev2 @g2 @h32 ?_
 · repeat (with_reducible refine And.intro ?_ ?_; focus (first | omega | with_reducible rfl | (show cc _ = true; kernel_rfl) | (simp only [bb, bh, List.length_append, List.length_cons, List.length_nil, List.all_append, List.all_cons, List.all_nil, cn, Nat.mul_one, Nat.one_mul, Bool.and_self]; first | done | omega) | (simp only [ByteArray.size_append, cb, List.size_toArray, List.length_cons, List.length_nil]; omega)))
   refine ak.au ?_ (by rfl)
   rw [l4, if_pos (.inr (by rw [hN]; simpa using g2))]
   rfl
 have hno : ¬ ((bef 35 s).size < (num k ++ (⟨#[32]⟩ : ByteArray)).size ∨ ¬ (bef 35 s).extract 0 (num k ++ (⟨#[32]⟩ : ByteArray)).size = num k ++ (⟨#[32]⟩ : ByteArray)) := by
  rw [hN]
  rintro (q | q)
  · omega
  · simp at g2; exact q g2
 have hP : l4 k s = ya k s ((bef 35 s).extract ((num k).size + 1) (bef 35 s).size) := by rw [l4, if_neg hno, hN]
 have hRs : ((bef 35 s).extract ((num k).size + 1) (bef 35 s).size).size ≤ s.size := by rw [ByteArray.size_extract]; omega
 repeat (with_reducible refine And.intro ?_ ?_; focus (first | omega | with_reducible rfl | (show cc _ = true; kernel_rfl) | (simp only [bb, bh, List.length_append, List.length_cons, List.length_nil, List.all_append, List.all_cons, List.all_nil, cn, Nat.mul_one, Nat.one_mul, Bool.and_self]; first | done | omega) | (simp only [ByteArray.size_append, cb, List.size_toArray, List.length_cons, List.length_nil]; omega)))
 generalize hR : (bef 35 s).extract ((num k).size + 1) (bef 35 s).size = R at hP hRs ⊢
 have hz4 := ti 64 R
 obtain ⟨l2, hl2, _⟩ := qd 64 R
 have hsp2 := tv R 64 (by omega)
 rw [hl2, c64] at hsp2
 (first | refine al.at (hsp2) ⟨leA, leA, trivial⟩ ?_ | refine ai.at (hsp2) ⟨leA, leA, trivial⟩ ?_)
 refine rs3 @List.length_cons.{0} @e8 @StringS.cs.eq_1 ?_
 refine ax.split (fun g3 => ?_) (fun g3 => ?_) <;> refine ev1 @g3 ?_
 · repeat (with_reducible refine And.intro ?_ ?_; focus (first | omega | with_reducible rfl | (show cc _ = true; kernel_rfl) | (simp only [bb, bh, List.length_append, List.length_cons, List.length_nil, List.all_append, List.all_cons, List.all_nil, cn, Nat.mul_one, Nat.one_mul, Bool.and_self]; first | done | omega) | (simp only [ByteArray.size_append, cb, List.size_toArray, List.length_cons, List.length_nil]; omega)))
   refine ak.au ?_ (by rfl)
   rw [hP, ya, if_pos (by simp at g3; omega)]
   rfl
 have g3' : (bef 64 R).size + 1 ≤ R.size := by simp at g3; omega
 have hP2 : ya k s R = (⟨bef 64 R, R.extract ((bef 64 R).size + 1) R.size⟩, jc ⟨bef 64 R, R.extract ((bef 64 R).size + 1) R.size⟩ && decide (fj k ⟨bef 64 R, R.extract ((bef 64 R).size + 1) R.size⟩ = s ++ ⟨#[10]⟩)) := by
  rw [ya, if_neg (by omega)]
 have hq : IntKind.i64.wrap (((bef 64 R).size : Int) + 1) = (((bef 64 R).size + 1 : Nat) : Int) := by rw [wrap_i64 (by omega) (by omega)]; omega
 have hEz : (R.extract ((bef 64 R).size + 1) R.size).size ≤ R.size := by rw [ByteArray.size_extract]; omega
 refine rs1 @hq ?_
 have hE1 : R.extract (IntKind.i64.wrap (((bef 64 R).size : Int) + 1)).toNat R.size = R.extract ((bef 64 R).size + 1) R.size := by rw [hq]; rfl
 rw [hE1]
 generalize hE : R.extract ((bef 64 R).size + 1) R.size = E at hP2 hEz ⊢
 (first | refine al.at (ug ⟨bef 64 R, E⟩ (by show (bef 64 R).size ≤ _; omega) (by show E.size ≤ _; omega)) ⟨leA, trivial⟩ ?_ | refine ai.at (ug ⟨bef 64 R, E⟩ (by show (bef 64 R).size ≤ _; omega) (by show E.size ≤ _; omega)) ⟨leA, trivial⟩ ?_)
 cases hb : jc ⟨bef 64 R, E⟩ with
 | false =>
  refine ev0 ?_
  repeat (with_reducible refine And.intro ?_ ?_; focus (first | omega | with_reducible rfl | (show cc _ = true; kernel_rfl) | (simp only [bb, bh, List.length_append, List.length_cons, List.length_nil, List.all_append, List.all_cons, List.all_nil, cn, Nat.mul_one, Nat.one_mul, Bool.and_self]; first | done | omega) | (simp only [ByteArray.size_append, cb, List.size_toArray, List.length_cons, List.length_nil]; omega)))
  refine ak.au ?_ (by rfl)
  rw [hP, hP2, hb]
  rfl
 | true =>
  have t1 := gn hk hb
  have t2 := ix (dn k ⟨bef 64 R, E⟩)
  refine ev0 ?_
  have hLn := acp k ⟨bef 64 R, E⟩ hk hb
  simp only [ay.v] at hLn
  (first | refine al.at (hLn) ⟨leA, leA, trivial⟩ ?_ | refine ai.at (hLn) ⟨leA, leA, trivial⟩ ?_)
  refine rs1 @iy ?_
  refine ak.au ?_ (by rfl)
  rw [hP, hP2, hb, Bool.true_and]
  rfl
end Go.Proofs
end
section
set_option maxRecDepth 100000
set_option maxHeartbeats 2000000
namespace Go.Proofs
open Go.Lv
def aed (s : ByteArray) : V := .tup [.osl 0 0 (dq s).length 2, .int .i64 (qs s)]
def aef (s : ByteArray) : Hp := [some (rows ay.cs (dq s))]
theorem acv {k : Int} {s : ByteArray} (h : s.size = 0) : jd k s = none := by
 cases g : jd k s with
 | none => rfl
 | some r => have := aal g; omega
theorem aeh (s : ByteArray) (hs : s.size ≤ 16777216) : Ctr Tryz.prog 99 [.str s] [] (aed s) (aef s) := by
 refine Ctr.intro Tryz.mixed Tryz.func99 rfl Tryz.a5e ?_
 refine ev2 @Tryz.ntmps99 @Tryz.results99 ?_
 refine dh.intro (fun i : Nat => (rdN s i).1.length = i) (fun i => ⟨(.str s :: (un 3 (.osl 0 0 i 2 :: .int .i64 (rdN s i).2 :: (un 46 [])))), [some (rows ay.cs (rdN s i).1)], 0⟩) (fun i => 61 - i) 0 rfl ?_ (fun i hi => ?_)
 · refine aq.cut (1) (by simp) (by simp) ?_ ?_
   · simp [LeC, LeV, ren, bj, rdN]
   · simp [bz, ck, rdN, rows]
 have hb := x6 s i
 have h60 := yi s i
 have hez : (s.extract (rdN s i).2 s.size).size ≤ 16777216 := by rw [ByteArray.size_extract]; omega
 rw [hi] at h60
 have stop : jd (i : Int) (s.extract (rdN s i).2 s.size) = none → (dq s = (rdN s i).1 ∧ qs s = (rdN s i).2) := fun hd => by
  have e := z7 hi hd
  exact ⟨by rw [dq, e], by rw [qs, e]⟩
 refine ev0 ?_
 refine aw.bu (fun g1 => ?_) (fun g1 => ?_) <;> refine ev1 @g1 ?_
 rotate_left
 · obtain ⟨e1, e2⟩ := stop (acv (by rw [ByteArray.size_extract]; simp at g1; omega))
   rw [aed, aef, e1, e2, hi]
   refine ak.pick [0] (by decide) (fun j hj => by omega) (.inl ?_) ?_
   · first | rfl | (simp [ren, bc, posOf]; done)
   · simp only [az, List.map_cons, List.map_nil, bg, List.getElem?_cons_zero, List.getElem?_cons_succ, ae]
 refine ax.split (fun g2 => ?_) (fun g2 => ?_) <;> refine ev1 @g2 ?_
 rotate_left
 · have hn : jd (i : Int) (s.extract (rdN s i).2 s.size) = none := by
    cases g : jd (i : Int) (s.extract (rdN s i).2 s.size) with
    | none => rfl
    | some r => have := akz g; simp at g2; omega
   obtain ⟨e1, e2⟩ := stop hn
   rw [aed, aef, e1, e2, hi]
   refine ak.pick [0] (by decide) (fun j hj => by omega) (.inl ?_) ?_
   · first | rfl | (simp [ren, bc, posOf]; done)
   · simp only [az, List.map_cons, List.map_nil, bg, List.getElem?_cons_zero, List.getElem?_cons_succ, ae]
 have hk : (0 : Int) ≤ (i : Int) ∧ (i : Int) ≤ 59 := by simp at g2; omega
 repeat (with_reducible refine And.intro ?_ ?_; focus (first | omega | with_reducible rfl | (show cc _ = true; kernel_rfl) | (simp only [bb, bh, List.length_append, List.length_cons, List.length_nil, List.all_append, List.all_cons, List.all_nil, cn, Nat.mul_one, Nat.one_mul, Bool.and_self]; first | done | omega) | (simp only [ByteArray.size_append, cb, List.size_toArray, List.length_cons, List.length_nil]; omega)))
 generalize hR : s.extract (rdN s i).2 s.size = R at hez stop ⊢
 obtain ⟨l, hl, hl0⟩ := qd 10 R
 have hsp := tv R 10 hez
 have c10 : (((10 : UInt8).toNat : Nat) : Int) = 10 := rfl
 rw [hl, c10] at hsp
 (first | refine al.at (hsp) ⟨leA, leA, trivial⟩ ?_ | refine ai.at (hsp) ⟨leA, leA, trivial⟩ ?_)
 have hz := ti 10 R
 refine rs3 @List.length_cons.{0} @e8 @StringS.cs.eq_1 ?_
 (have ct := akq (i : Int) (bef 10 R) hk (by omega); (first | refine al.at ct ⟨leA, leA, trivial⟩ ?_ | refine ai.at ct ⟨leA, leA, trivial⟩ ?_); clear ct)
 refine rs1 @ay.v.eq_1 ?_
 refine aw.cg (fun g3 => ?_) (fun g3 => ?_) <;> refine ev1 @g3 ?_
 rotate_left
 · have hf : fnd 10 R = false := hl0.1 (by
    cases l with
    | nil => rfl
    | cons a l => simp at g3; omega)
   obtain ⟨e1, e2⟩ := stop (by rw [jd, hf]; rfl)
   rw [aed, aef, e1, e2, hi]
   refine ak.pick [0] (by decide) (fun j hj => by omega) (.inl ?_) ?_
   · first | rfl | (simp [ren, bc, posOf]; done)
   · simp only [az, List.map_cons, List.map_nil, bg, List.getElem?_cons_zero, List.getElem?_cons_succ, ae]
 have hf : fnd 10 R = true := by
  cases q : fnd 10 R with
  | true => rfl
  | false => rw [hl0.2 q] at g3; simp at g3
 have hd : jd (i : Int) R = (aa6 (i : Int) (bef 10 R)).map fun e => (e, (bef 10 R).size + 1) := by rw [jd, if_pos hf]
 have hfs := ad8 hf
 have hRs : R.size + (rdN s i).2 ≤ s.size := by
  rw [← hR, ByteArray.size_extract]; omega
 refine ax.split (fun g4 => ?_) (fun g4 => ?_)
 · refine ev1 @g4 ?_
   have hp : (l4 (i : Int) (bef 10 R)).2 = false := by simpa using g4
   obtain ⟨e1, e2⟩ := stop (by
    rw [hd]
    cases q : aa6 (i : Int) (bef 10 R) with
    | none => rfl
    | some e => rw [aor q] at hp; cases hp)
   rw [aed, aef, e1, e2, hi]
   refine ak.pick [0] (by decide) (fun j hj => by omega) (.inl ?_) ?_
   · first | rfl | (simp [ren, bc, posOf]; done)
   · simp only [az, List.map_cons, List.map_nil, bg, List.getElem?_cons_zero, List.getElem?_cons_succ, ae]
 · have hp : (l4 (i : Int) (bef 10 R)).2 = true := by simpa using g4
   have hs' := aii hk hp
   rw [hs'] at hd
   have hS : rdN s (i + 1) = ((rdN s i).1 ++ [(l4 (i : Int) (bef 10 R)).1], (rdN s i).2 + ((bef 10 R).size + 1)) := ln (r := ((l4 (i : Int) (bef 10 R)).1, (bef 10 R).size + 1)) (by rw [hi, hR, hd]; rfl)
   refine rs8 @g4 @bb @bh @hi @Nat.mul_one @List.length_cons.{0} @e8 @StringS.cs.eq_1 ?_
   refine ⟨i + 1, by rw [hS]; simp [hi], ?_, by omega⟩
   refine aq.cut (1) (by simp) (by simp) ?_ ?_
   · rw [hS]; (simp [LeC, LeV, ren, bj]; try omega)
   · rw [hS, ← di]
     simp [bz, ck, ren, bj, ae, dd, me, ay.cs]
end Go.Proofs
end
section
set_option maxRecDepth 100000
namespace Go.Proofs
open Go.Lv
structure Log where
 Durable : ByteArray
 Pending : ByteArray
 Count : Int
def Log.cs (r : Log) : List V := [.str r.Durable, .str r.Pending, .int .i64 r.Count]
def Log.v (r : Log) : V := .agg [.str r.Durable, .str r.Pending, .int .i64 r.Count]
theorem Log.csl (a : Log) : a.cs.length = 3 := rfl
instance : ri Log.cs 3 := ⟨fun _ => rfl, fun _ d => by cases d <;> rfl, fun _ => rfl, fun _ => rfl⟩
def Log.ok (r : Log) : Prop := apy r.Durable ∧ apy r.Pending ∧ bt r.Count
abbrev Log.rows (L : List Log) : List V := Go.Lv.rows Log.cs L
abbrev Log.sl (L : List Log) : V := .sl L.length 3 (Go.Lv.rows Log.cs L)
abbrev Log.zs : List V := [.str ByteArray.empty, .str ByteArray.empty, .int .i64 0]
end Go.Proofs
end
section
set_option maxRecDepth 100000
set_option maxHeartbeats 2000000
namespace Go.Proofs
open Go.Lv
theorem amp (s : ByteArray) : ∃ i, i ≤ 60 ∧ (rdN s i).1.length = i ∧ rdN s 60 = rdN s i ∧ jd i (s.extract (rdN s i).2 s.size) = none := by
 have key : ∀ m, (rdN s m).1.length = m ∨ ∃ i, (rdN s i).1.length = i ∧ jd i (s.extract (rdN s i).2 s.size) = none := by
  intro m
  induction m with
  | zero => exact .inl rfl
  | succ m ih =>
   rcases ih with h | h
   · cases g : jd (m : Int) (s.extract (rdN s m).2 s.size) with
     | none => exact .inr ⟨m, h, g⟩
     | some r =>
      refine .inl ?_
      rw [ln (r := r) (by rw [h]; exact g)]
      simp [h]
   · exact .inr h
 rcases key 61 with h | ⟨i, h1, h2⟩
 · have := yi s 61; omega
 · have := yi s i
   exact ⟨i, by omega, h1, z7 h1 h2, h2⟩
theorem wv (s : ByteArray) : (rdN s (dq s).length).1.length = (dq s).length ∧ rdN s 60 = rdN s (dq s).length ∧ jd (dq s).length (s.extract (qs s) s.size) = none ∧ (dq s).length ≤ 60 := by
 obtain ⟨i, h0, h1, h2, h3⟩ := amp s
 have e : (dq s).length = i := by rw [dq, h2, h1]
 have e2 : qs s = (rdN s i).2 := by rw [qs, h2]
 rw [e, e2]
 exact ⟨h1, h2, h3, h0⟩
theorem alu (s : ByteArray) : qs s = (rdN s (dq s).length).2 := by rw [qs, (wv s).2.1]
theorem at1 (s : ByteArray) : qs s ≤ s.size ∧ qs s ≤ 25380 := by
 have h1 := x6 s 60
 have h2 := yi s 60
 unfold qs; omega
theorem alv {c : UInt8} {x y : ByteArray} (h : fnd c x = true) : fnd c (x ++ y) = true ∧ bef c (x ++ y) = bef c x := by
 obtain ⟨a, b, rfl, ha⟩ := aag h
 have e : (a ++ (⟨#[c]⟩ ++ b)) ++ y = a ++ (⟨#[c]⟩ ++ (b ++ y)) := by simp only [ByteArray.append_assoc]
 rw [e]
 exact ⟨(sy ha).2.2.2, by rw [(sy ha).2.1, (sy ha).2.1]⟩
theorem aqv {k : Int} {x y : ByteArray} {r : ay × Nat} (h : jd k x = some r) : jd k (x ++ y) = some r := by
 obtain ⟨h1, h2, h3⟩ := w7 h
 obtain ⟨g1, g2⟩ := alv (y := y) h1
 rw [jd, if_pos g1, g2, h2]
 simp only [Option.map_some]
 rw [← h3]
theorem ats {c : UInt8} {x y : ByteArray} (h : fnd c (x ++ y) = true) (hs : (bef c (x ++ y)).size + 1 ≤ x.size) : fnd c x = true := by
 cases g : fnd c x with
 | true => rfl
 | false =>
  exfalso
  obtain ⟨a, b, e, ha⟩ := aag h
  rw [e, (sy ha).2.1] at hs
  have hx : x.data.toList ++ y.data.toList = a.data.toList ++ c :: b.data.toList := by
   rw [← l5, e, l5, l5]; rfl
  have hc : x.data.toList[a.size]? = some c := by
   have h1 : (x.data.toList ++ y.data.toList)[a.size]? = some c := by
    rw [hx, List.getElem?_append_right (by rw [gf]; exact Nat.le_refl _), gf]
    simp
   rwa [List.getElem?_append_left (by rw [gf]; omega)] at h1
  have hne : Lib.indexByte x.data.toList c = -1 := by
   have h1 := Lib.indexByte_ge x.data.toList c
   have h2 : ¬ 0 ≤ Lib.indexByte x.data.toList c := by
    intro q
    have : fnd c x = true := decide_eq_true q
    rw [this] at g; cases g
   omega
  exact Lib.indexByte_none hne a.size hc
theorem aqb {k : Int} {x y : ByteArray} {r : ay × Nat} (h : jd k (x ++ y) = some r) (hs : r.2 ≤ x.size) : jd k x = some r := by
 obtain ⟨h1, h2, h3⟩ := w7 h
 have g1 := ats h1 (by omega)
 have g2 := (alv (y := y) g1).2
 rw [g2] at h2 h3
 rw [jd, if_pos g1, h2]
 simp only [Option.map_some]
 rw [← h3]
theorem amh {D P : ByteArray} {a : Nat} (h : a ≤ D.size) : (D ++ P).extract a (D ++ P).size = D.extract a D.size ++ P := by
 apply s4
 have hl : (D ++ P).size = (D ++ P).data.toList.length := rfl
 have hl2 : D.size = D.data.toList.length := rfl
 rw [l5, ec, ec, hl, List.take_length, hl2, List.take_length, l5]
 exact List.drop_append_of_le_length (by rw [gf]; exact h)
theorem ark {D P : ByteArray} : ∀ {j : Nat}, (rdN D j).1.length = j → rdN (D ++ P) j = rdN D j
 | 0, _ => rfl
 | j + 1, h => by
  have hj := acj h (Nat.le_succ j)
  have ih := ark (P := P) hj
  cases g : jd (j : Int) (D.extract (rdN D j).2 D.size) with
  | none => rw [s6 (by rw [hj]; exact g)] at h; omega
  | some r =>
   rw [ln (s := D) (r := r) (by rw [hj]; exact g)]
   rw [ln (s := D ++ P) (r := r) (by rw [ih, hj, amh (x6 D j).1]; exact aqv g), ih]
theorem aps {D P : ByteArray} : ∀ {j : Nat}, (rdN (D ++ P) j).1.length = j → (rdN (D ++ P) j).2 ≤ D.size → rdN D j = rdN (D ++ P) j
 | 0, _, _ => rfl
 | j + 1, h, hs => by
  have hj := acj h (Nat.le_succ j)
  cases g : jd (j : Int) ((D ++ P).extract (rdN (D ++ P) j).2 (D ++ P).size) with
  | none => rw [s6 (by rw [hj]; exact g)] at h; omega
  | some r =>
   have hS := ln (s := D ++ P) (n := j) (r := r) (by rw [hj]; exact g)
   rw [hS] at hs ⊢
   simp only at hs
   have ih := aps hj (by omega)
   rw [← ih] at g hs
   rw [amh (x6 D j).1] at g
   have g2 := aqb g (by rw [ByteArray.size_extract]; omega)
   rw [ln (s := D) (r := r) (by
    have e : (rdN D j).1.length = j := by rw [ih]; exact hj
    rw [e]; exact g2), ih]
theorem aj5 {D P : ByteArray} : (∃ j, j ≤ (dq (D ++ P)).length ∧ (rdN (D ++ P) j).2 = D.size) ↔ qs D = D.size := by
 obtain ⟨h1, h2, h3, h4⟩ := wv (D ++ P)
 constructor
 · rintro ⟨j, hj, e⟩
   have hl := acj h1 hj
   have hp := aps hl (by omega)
   have hd : jd (j : Int) (D.extract (rdN D j).2 D.size) = none := acv (by rw [hp, e, ByteArray.size_extract]; omega)
   have := z7 (s := D) (by rw [hp]; exact hl) hd
   rw [qs, this, hp, e]
 · intro e
   obtain ⟨i, k0, k1, k2, k3⟩ := amp D
   have ha := ark (P := P) k1
   have hi : (rdN (D ++ P) i).1.length = i := by rw [ha]; exact k1
   refine ⟨i, ?_, by rw [ha, ← e, qs, k2]⟩
   by_cases c : i ≤ (dq (D ++ P)).length
   · exact c
   · exfalso
     have h5 : jd ((dq (D ++ P)).length : Int) ((D ++ P).extract (rdN (D ++ P) (dq (D ++ P)).length).2 (D ++ P).size) = none := by
      rw [← alu]; exact h3
     have := aan (s := D ++ P) (n := (dq (D ++ P)).length) (by rw [h1]; exact h5) (i - (dq (D ++ P)).length)
     have e2 : (dq (D ++ P)).length + (i - (dq (D ++ P)).length) = i := by omega
     rw [e2] at this
     rw [this, h1] at hi
     omega
def n4 (l : Log) : Bool := decide (l.Durable.size + l.Pending.size ≤ 30000) && (decide (qs (l.Durable ++ l.Pending) = l.Durable.size + l.Pending.size) && (decide (qs l.Durable = l.Durable.size) && decide (((dq (l.Durable ++ l.Pending)).length : Int) = l.Count)))
theorem aav (l : Log) (hd : l.Durable.size ≤ 4194304) (hp : l.Pending.size ≤ 4194304) : Ctr Tryz.prog 53 [l.v] [] (.bool (n4 l)) [] := by
 have hsz : (l.Durable ++ l.Pending).size = l.Durable.size + l.Pending.size := ByteArray.size_append
 have hw : IntKind.i64.wrap ((l.Durable.size : Int) + (l.Pending.size : Int)) = (l.Durable.size : Int) + (l.Pending.size : Int) := wrap_i64 (by omega) (by omega)
 refine Ctr.intro Tryz.mixed Tryz.func53 rfl Tryz.a5b ?_
 refine ev2 @Tryz.ntmps53 @Tryz.results53 ?_
 refine rs2 @Log.v.eq_1 @hw ?_
 refine ax.split (fun g1 => ?_) (fun g1 => ?_) <;> refine rs1 @g1 ?_
 · refine ak.au ?_ (by rfl)
   have : ¬ l.Durable.size + l.Pending.size ≤ 30000 := by simp at g1; omega
   simp [n4, this]
 (have ct := aeh (l.Durable ++ l.Pending) (by rw [hsz]; omega); (first | refine al.at ct ⟨leA, trivial⟩ ?_ | refine ai.at ct ⟨leA, trivial⟩ ?_); clear ct)
 refine rs3 @aed.eq_1 @aef.eq_1 @hw ?_
 (have ct := aeh l.Durable (by omega); (first | refine al.at ct ⟨leA, trivial⟩ ?_ | refine ai.at ct ⟨leA, trivial⟩ ?_); clear ct)
 refine rs3 @aed.eq_1 @aef.eq_1 @hw ?_
 have hb : decide (l.Durable.size + l.Pending.size ≤ 30000) = true := by simp at g1 ⊢; omega
 have c1 : (((qs (l.Durable ++ l.Pending) : Nat) : Int) == (l.Durable.size : Int) + (l.Pending.size : Int)) = decide (qs (l.Durable ++ l.Pending) = l.Durable.size + l.Pending.size) := by rw [Bool.eq_iff_iff]; simp; omega
 have c2 : (((qs l.Durable : Nat) : Int) == (l.Durable.size : Int)) = decide (qs l.Durable = l.Durable.size) := by rw [Bool.eq_iff_iff]; simp; omega
 refine aw.bu (fun g2 => ?_) (fun g2 => ?_) <;> refine ev2 @g2 @hw ?_
 rotate_left
 · refine ak.au ?_ (by rfl)
   rw [c1] at g2
   simp only [n4, g2, Bool.false_and, Bool.and_false]
 refine aw.bu (fun g3 => ?_) (fun g3 => ?_) <;> refine ev2 @g3 @hw ?_
 rotate_left
 · refine ak.au ?_ (by rfl)
   rw [c2] at g3
   simp only [n4, g3, Bool.false_and, Bool.and_false]
 refine ak.au ?_ (by rfl)
 rw [c1] at g2
 rw [c2] at g3
 simp only [n4, hb, g2, g3, Bool.true_and]
 congr 1
def ef (s : ByteArray) : List Int := 0 :: o3 s (dq s).length
theorem tu (s : ByteArray) : (ef s).length = (dq s).length + 1 := by simp [ef, xt]
theorem ud {s : ByteArray} {i : Nat} (h : i < (ef s).length) : (ef s)[i] = ((rdN s i).2 : Int) := by
 cases i with
 | zero => rfl
 | succ i => simp [ef, o3]
def axt (l : Log) : Bool := (ef (l.Durable ++ l.Pending)).any fun a => a == (l.Durable.size : Int)
theorem at5 (l : Log) : axt l = decide (qs l.Durable = l.Durable.size) := by
 rw [Bool.eq_iff_iff, decide_eq_true_eq, ← aj5 (P := l.Pending), axt, List.any_eq_true]
 constructor
 · rintro ⟨a, ha, e⟩
   obtain ⟨i, hi, rfl⟩ := List.getElem_of_mem ha
   rw [ud hi] at e
   rw [tu] at hi
   exact ⟨i, by omega, by simp at e; omega⟩
 · rintro ⟨j, hj, e⟩
   have hi : j < (ef (l.Durable ++ l.Pending)).length := by rw [tu]; omega
   exact ⟨_, List.getElem_mem hi, by rw [ud hi, e]; simp⟩
def ai2 (l : Log) : V := .tup [.osl 0 0 (dq (l.Durable ++ l.Pending)).length 2, .bool (n4 l)]
def amd (l : Log) : Hp := [some (rows ay.cs (dq (l.Durable ++ l.Pending)))]
theorem alp (l : Log) (hd : l.Durable.size ≤ 4194304) (hp : l.Pending.size ≤ 4194304) : Ctr Tryz.prog 44 [l.v] [] (ai2 l) (amd l) := by
 have hsz : (l.Durable ++ l.Pending).size = l.Durable.size + l.Pending.size := ByteArray.size_append
 refine Ctr.intro Tryz.mixed Tryz.func44 rfl Tryz.a4x ?_
 refine ev2 @Tryz.ntmps44 @Tryz.results44 ?_
 refine rs1 @Log.v.eq_1 ?_
 (have ct := auc (l.Durable ++ l.Pending) (by rw [hsz]; omega); (first | refine al.at ct ⟨leA, trivial⟩ ?_ | refine ai.at ct ⟨leA, trivial⟩ ?_); clear ct)
 have h60 := (wv (l.Durable ++ l.Pending)).2.2.2
 have hen := xt (l.Durable ++ l.Pending) (dq (l.Durable ++ l.Pending)).length
 have htk : List.take (dq (l.Durable ++ l.Pending)).length (rows IntS.cs (o3 (l.Durable ++ l.Pending) (dq (l.Durable ++ l.Pending)).length)) = rows IntS.cs (o3 (l.Durable ++ l.Pending) (dq (l.Durable ++ l.Pending)).length) :=
  List.take_of_length_le (by rw [bb, hen]; omega)
 refine rs9 @ary.eq_1 @aqd.eq_1 @bb @bh @hen @htk @Nat.mul_one @List.length_cons.{0} @List.length_nil.{0} ?_
 have hsl := tu (l.Durable ++ l.Pending)
 have hw : IntKind.i64.wrap ((l.Durable.size : Int) + (l.Pending.size : Int)) = (l.Durable.size : Int) + (l.Pending.size : Int) := wrap_i64 (by omega) (by omega)
 refine dh.intro (fun i : Nat => i ≤ (ef (l.Durable ++ l.Pending)).length) (fun i => ⟨(.undef :: .ptr 0 0 :: .undef :: .undef :: .str (l.Durable ++ l.Pending) :: .osl 1 0 (dq (l.Durable ++ l.Pending)).length 2 :: .undef :: .osl 2 0 (ef (l.Durable ++ l.Pending)).length 1 :: .bool (((ef (l.Durable ++ l.Pending)).take i).any fun a => a == (l.Durable.size : Int)) :: (un 15 (.osl 2 0 (ef (l.Durable ++ l.Pending)).length 1 :: .int .i64 (ef (l.Durable ++ l.Pending)).length :: .int .i64 i :: (un 32 [])))), [some l.cs, some (rows ay.cs (dq (l.Durable ++ l.Pending))), some (rows IntS.cs (ef (l.Durable ++ l.Pending)))], 0⟩) (fun i => (ef (l.Durable ++ l.Pending)).length - i) 0 (Nat.zero_le _) ?_ (fun i hi => ?_)
 · refine aq.pick [0, 1, 3] (by decide) (fun j hj => by omega) ?_ ?_
   · simp [LeG, LeV, ren, bc, posOf, hsl]
     omega
   · simp [az, bg, ren, bc, posOf, ae, Log.cs]
     rw [ef, e8]
     simp only [IntS.cs, List.cons_append, List.nil_append]
 refine ev1 @Log.cs.eq_1 ?_
 refine ax.split (fun h1 => ?_) (fun h1 => ?_)
 · refine ev1 @h1 ?_
   have hi' : i < (ef (l.Durable ++ l.Pending)).length := by simpa using h1
   have hr := bw IntS.csl hi'
   repeat (with_reducible refine And.intro ?_ ?_; focus (first | omega | with_reducible rfl | (show cc _ = true; kernel_rfl) | (simp only [bb, bh, List.length_append, List.length_cons, List.length_nil, List.all_append, List.all_cons, List.all_nil, cn, Nat.mul_one, Nat.one_mul, Bool.and_self]; first | done | omega) | (simp only [ByteArray.size_append, cb, List.size_toArray, List.length_cons, List.length_nil]; omega)))
   have e1 : ((ef (l.Durable ++ l.Pending)).take (i + 1)).any (fun a => a == (l.Durable.size : Int)) = (((ef (l.Durable ++ l.Pending)).take i).any (fun a => a == (l.Durable.size : Int)) || ((ef (l.Durable ++ l.Pending))[i] == (l.Durable.size : Int))) := by
    rw [List.take_succ_eq_append_getElem hi', List.any_append]; simp
   rw [hr]
   refine aw.cg (fun h2 => ?_) (fun h2 => ?_) <;> refine rs3 @h2 @IntS.cs.eq_1 @Log.cs.eq_1 ?_
   · refine ⟨i + 1, hi', ?_, by omega⟩
     refine aq.cut (3) (by simp) (by simp) ?_ ?_
     · rw [e1, h2]; simp [LeC, LeV, ren, bj]
     · simp [bz, ck, ren, ae, Log.cs]
   · refine ⟨i + 1, hi', ?_, by omega⟩
     refine aq.cut (3) (by simp) (by simp) ?_ ?_
     · rw [e1, h2]; simp [LeC, LeV, ren, bj]
     · simp [bz, ck, ren, ae, Log.cs]
 · refine ev1 @h1 ?_
   have hi' : i = (ef (l.Durable ++ l.Pending)).length := by simp at h1; omega
   subst hi'
   rw [List.take_length]
   have hdu : ((ef (l.Durable ++ l.Pending)).any fun a => a == (l.Durable.size : Int)) = axt l := rfl
   rw [hdu]
   repeat (with_reducible refine And.intro ?_ ?_; focus (first | omega | with_reducible rfl | (show cc _ = true; kernel_rfl) | (simp only [bb, bh, List.length_append, List.length_cons, List.length_nil, List.all_append, List.all_cons, List.all_nil, cn, Nat.mul_one, Nat.one_mul, Bool.and_self]; first | done | omega) | (simp only [ByteArray.size_append, cb, List.size_toArray, List.length_cons, List.length_nil]; omega)))
   have hlast : (dq (l.Durable ++ l.Pending)).length < (ef (l.Durable ++ l.Pending)).length := by rw [hsl]; omega
   have hr2 := bw IntS.csl hlast
   rw [ud hlast, ← alu] at hr2
   have hw2 : IntKind.i64.wrap (((ef (l.Durable ++ l.Pending)).length : Int) - 1) = ((dq (l.Durable ++ l.Pending)).length : Int) := by rw [wrap_i64 (by omega) (by omega)]; omega
   have hdb := at5 l
   refine aw.bu (fun g1 => ?_) (fun g1 => ?_) <;> refine ev1 @g1 ?_
   · refine rs4 @hr2 @hw2 @hsz @IntS.cs.eq_1 ?_
     rw [hdb] at g1
     have hab := (at1 (l.Durable ++ l.Pending)).2
     have c1 : (((qs (l.Durable ++ l.Pending) : Nat) : Int) == ((l.Durable.size + l.Pending.size : Nat) : Int)) = decide (qs (l.Durable ++ l.Pending) = l.Durable.size + l.Pending.size) := by rw [Bool.eq_iff_iff]; simp; omega
     refine aw.bu (fun g2 => ?_) (fun g2 => ?_) <;> refine ev1 @g2 ?_
     · rw [c1] at g2
       have hb : decide (l.Durable.size + l.Pending.size ≤ 30000) = true := by simp at g2 ⊢; omega
       have hL : n4 l = (l.Count == ((dq (l.Durable ++ l.Pending)).length : Int)) := by
        simp only [n4, hb, g1, g2, Bool.true_and]
        rw [Bool.eq_iff_iff]
        simp
        exact ⟨fun h => h.symm, fun h => h.symm⟩
       repeat (with_reducible refine And.intro ?_ ?_; focus (first | omega | with_reducible rfl | (show cc _ = true; kernel_rfl) | (simp only [bb, bh, List.length_append, List.length_cons, List.length_nil, List.all_append, List.all_cons, List.all_nil, cn, Nat.mul_one, Nat.one_mul, Bool.and_self]; first | done | omega) | (simp only [ByteArray.size_append, cb, List.size_toArray, List.length_cons, List.length_nil]; omega)))
       rw [ai2, amd, hL]
       refine ak.pick [1] (by decide) (fun j hj => by omega) (.inl ?_) ?_
       · first | rfl | (simp [ren, bc, posOf]; done)
       · simp only [az, List.map_cons, List.map_nil, bg, List.getElem?_cons_zero, List.getElem?_cons_succ, ae]
     · rw [c1] at g2
       have hL : n4 l = false := by simp only [n4, g2, Bool.false_and, Bool.and_false]
       repeat (with_reducible refine And.intro ?_ ?_; focus (first | omega | with_reducible rfl | (show cc _ = true; kernel_rfl) | (simp only [bb, bh, List.length_append, List.length_cons, List.length_nil, List.all_append, List.all_cons, List.all_nil, cn, Nat.mul_one, Nat.one_mul, Bool.and_self]; first | done | omega) | (simp only [ByteArray.size_append, cb, List.size_toArray, List.length_cons, List.length_nil]; omega)))
       rw [ai2, amd, hL]
       refine ak.pick [1] (by decide) (fun j hj => by omega) (.inl ?_) ?_
       · first | rfl | (simp [ren, bc, posOf]; done)
       · simp only [az, List.map_cons, List.map_nil, bg, List.getElem?_cons_zero, List.getElem?_cons_succ, ae]
   · rw [hdb] at g1
     have hL : n4 l = false := by simp only [n4, g1, Bool.false_and, Bool.and_false]
     rw [ai2, amd, hL]
     refine ak.pick [1] (by decide) (fun j hj => by omega) (.inl ?_) ?_
     · first | rfl | (simp [ren, bc, posOf]; done)
     · simp only [az, List.map_cons, List.map_nil, bg, List.getElem?_cons_zero, List.getElem?_cons_succ, ae]
theorem wb (l : Log) (hd : l.Durable.size ≤ 4194304) (hp : l.Pending.size ≤ 4194304) : Ctr Tryz.prog 43 [l.v] [] (.bool (n4 l)) [] := by
 refine Ctr.intro Tryz.mixed Tryz.func43 rfl Tryz.a5n ?_
 refine ev2 @Tryz.ntmps43 @Tryz.results43 ?_
 refine ev1 @Log.v.eq_1 ?_
 (have ct := alp l hd hp; (first | refine al.at ct ⟨leA, trivial⟩ ?_ | refine ai.at ct ⟨leA, trivial⟩ ?_); clear ct)
 refine ev1 @ai2.eq_1 ?_
 exact ak.au rfl (by rfl)
end Go.Proofs
end
section
set_option maxRecDepth 100000
set_option maxHeartbeats 2000000
namespace Go.Proofs
open Go.Lv
def logN : V := .agg [.str ByteArray.empty, .str ByteArray.empty, .int .i64 0]
def ajl (l : Log) : List V := if n4 l = true then [.agg [.str (l.Durable ++ l.Pending), .str ByteArray.empty, .int .i64 l.Count], .bool true] else [logN, .bool false]
theorem aih (l : Log) (hd : l.Durable.size ≤ 4194304) (hp : l.Pending.size ≤ 4194304) : Ctr Tryz.prog 135 [l.v] [] (.tup (ajl l)) [] := by
 refine Ctr.intro Tryz.mixed Tryz.func135 rfl Tryz.aza ?_
 refine ev2 @Tryz.ntmps135 @Tryz.results135 ?_
 refine ev1 @Log.v.eq_1 ?_
 repeat (with_reducible refine And.intro ?_ ?_; focus (first | omega | with_reducible rfl | (show cc _ = true; kernel_rfl) | (simp only [bb, bh, List.length_append, List.length_cons, List.length_nil, List.all_append, List.all_cons, List.all_nil, cn, Nat.mul_one, Nat.one_mul, Bool.and_self]; first | done | omega) | (simp only [ByteArray.size_append, cb, List.size_toArray, List.length_cons, List.length_nil]; omega)))
 (have ct := aav l hd hp; (first | refine al.at ct ⟨leA, trivial⟩ ?_ | refine ai.at ct ⟨leA, trivial⟩ ?_); clear ct)
 cases h : n4 l with
 | false =>
  refine rs1 @Bool.not_false ?_
  exact ak.au (by simp [ajl, h, logN]) (by rfl)
 | true =>
  refine rs1 @Bool.not_true ?_
  exact ak.au (by simp [ajl, h]) (by rfl)
end Go.Proofs
end
section
set_option maxRecDepth 100000
set_option maxHeartbeats 2000000
namespace Go.Proofs
open Go.Lv
def za (l : Log) (e : ay) : List V := if n4 l = true ∧ jc e = true then (if l.Count = 60 then [l.v, .int .i64 2] else [.agg [.str l.Durable, .str (l.Pending ++ fj l.Count e), .int .i64 (l.Count + 1)], .int .i64 0]) else [l.v, .int .i64 1]
theorem rf {l : Log} (h : n4 l = true) : 0 ≤ l.Count ∧ l.Count ≤ 60 := by
 simp [n4] at h
 have := (wv (l.Durable ++ l.Pending)).2.2.2
 omega
theorem aaw (l : Log) (e : ay) (hd : l.Durable.size ≤ 4194304) (hp : l.Pending.size ≤ 4194304) (hc : e.Command.size ≤ 4194304) (hr : e.Reply.size ≤ 4194304) : Ctr Tryz.prog 36 [l.v, e.v] [] (.tup (za l e)) [] := by
 refine Ctr.intro Tryz.mixed Tryz.func36 rfl Tryz.a6h ?_
 refine ev2 @Tryz.ntmps36 @Tryz.results36 ?_
 refine ev2 @Log.v.eq_1 @ay.v.eq_1 ?_
 repeat (with_reducible refine And.intro ?_ ?_; focus (first | omega | with_reducible rfl | (show cc _ = true; kernel_rfl) | (simp only [bb, bh, List.length_append, List.length_cons, List.length_nil, List.all_append, List.all_cons, List.all_nil, cn, Nat.mul_one, Nat.one_mul, Bool.and_self]; first | done | omega) | (simp only [ByteArray.size_append, cb, List.size_toArray, List.length_cons, List.length_nil]; omega)))
 (have ct := wb l hd hp; (first | refine al.at ct ⟨leA, trivial⟩ ?_ | refine ai.at ct ⟨leA, trivial⟩ ?_); clear ct)
 refine ev0 ?_
 refine aw.cg (fun g1 => ?_) (fun g1 => ?_) <;> refine rs1 @g1 ?_
 rotate_left
 · exact ak.au (by rw [za, if_neg (by simp at g1; simp [g1])]; rfl) (by rfl)
 (have ct := nc e (by omega) (by omega); (first | refine al.at ct ⟨leA, trivial⟩ ?_ | refine ai.at ct ⟨leA, trivial⟩ ?_); clear ct)
 refine ev0 ?_
 refine ax.split (fun g2 => ?_) (fun g2 => ?_) <;> refine rs1 @g2 ?_
 · exact ak.au (by rw [za, if_neg (by simp at g2; simp [g2])]; rfl) (by rfl)
 have hL : n4 l = true := by simpa using g1
 have hE : jc e = true := by simpa using g2
 have hb := rf hL
 refine ax.split (fun g3 => ?_) (fun g3 => ?_) <;> refine rs1 @g3 ?_
 · exact ak.au (by rw [za, if_pos ⟨hL, hE⟩, if_pos (by simpa using g3)]; rfl) (by rfl)
 have g3' : ¬ l.Count = 60 := by simpa using g3
 have hk : 0 ≤ l.Count ∧ l.Count ≤ 59 := by omega
 have z1 := gn hk hE
 have z2 := ix (dn l.Count e)
 have z3 : (fj l.Count e).size = (nq (dn l.Count e)).size + 1 := by rw [fj, ByteArray.size_append]; rfl
 have hi := tb l.Count e (by omega) (by omega)
 rw [aki, if_pos ⟨gr.2 hk, hE⟩] at hi
 (first | refine al.at (hi) ⟨leA, leA, trivial⟩ ?_ | refine ai.at (hi) ⟨leA, leA, trivial⟩ ?_)
 refine rs0 ?_
 exact ak.au (by rw [za, if_pos ⟨hL, hE⟩, if_neg g3']) (by rfl)
theorem tc (l : Log) (e : ay) (hd : l.Durable.size ≤ 4194304) (hp : l.Pending.size ≤ 4194304) (hc : e.Command.size ≤ 4194304) (hr : e.Reply.size ≤ 4194304) : Ctr Tryz.prog 30 [l.v, e.v] [] (.tup (za l e)) [] := by
 refine Ctr.intro Tryz.mixed Tryz.func30 rfl Tryz.a5a ?_
 refine ev2 @Tryz.ntmps30 @Tryz.results30 ?_
 refine ev2 @Log.v.eq_1 @ay.v.eq_1 ?_
 repeat (with_reducible refine And.intro ?_ ?_; focus (first | omega | with_reducible rfl | (show cc _ = true; kernel_rfl) | (simp only [bb, bh, List.length_append, List.length_cons, List.length_nil, List.all_append, List.all_cons, List.all_nil, cn, Nat.mul_one, Nat.one_mul, Bool.and_self]; first | done | omega) | (simp only [ByteArray.size_append, cb, List.size_toArray, List.length_cons, List.length_nil]; omega)))
 (have ct := aav l hd hp; (first | refine al.at ct ⟨leA, trivial⟩ ?_ | refine ai.at ct ⟨leA, trivial⟩ ?_); clear ct)
 refine ev0 ?_
 refine aw.cg (fun g1 => ?_) (fun g1 => ?_) <;> refine rs1 @g1 ?_
 rotate_left
 · exact ak.au (by rw [za, if_neg (by simp at g1; simp [g1])]; rfl) (by rfl)
 (have ct := ug e (by omega) (by omega); (first | refine al.at ct ⟨leA, trivial⟩ ?_ | refine ai.at ct ⟨leA, trivial⟩ ?_); clear ct)
 refine ev0 ?_
 refine ax.split (fun g2 => ?_) (fun g2 => ?_) <;> refine rs1 @g2 ?_
 · exact ak.au (by rw [za, if_neg (by simp at g2; simp [g2])]; rfl) (by rfl)
 have hL : n4 l = true := by simpa using g1
 have hE : jc e = true := by simpa using g2
 have hb := rf hL
 refine ax.split (fun g3 => ?_) (fun g3 => ?_) <;> refine rs1 @g3 ?_
 · exact ak.au (by rw [za, if_pos ⟨hL, hE⟩, if_pos (by simpa using g3)]; rfl) (by rfl)
 have g3' : ¬ l.Count = 60 := by simpa using g3
 have hk : 0 ≤ l.Count ∧ l.Count ≤ 59 := by omega
 have z1 := gn hk hE
 have z2 := ix (dn l.Count e)
 have z3 : (fj l.Count e).size = (nq (dn l.Count e)).size + 1 := by rw [fj, ByteArray.size_append]; rfl
 (have ct := acp l.Count e hk hE; (first | refine al.at ct ⟨leA, leA, trivial⟩ ?_ | refine ai.at ct ⟨leA, leA, trivial⟩ ?_); clear ct)
 refine rs0 ?_
 exact ak.au (by rw [za, if_pos ⟨hL, hE⟩, if_neg g3']) (by rfl)
end Go.Proofs
end
section
set_option maxRecDepth 100000
set_option maxHeartbeats 2000000
namespace Go.Proofs
open Go.Lv
def recP (B : List Int) (k : Int) (r : V) (hout : Hp) : Prop := ∃ (e : ay) (c : Cur), e.Command.size ≤ 100 ∧ e.Reply.size ≤ 100 ∧ c.le k ∧ r = e.v ∧ hout = [some (c.cs B)]
theorem ah2 {B : List Int} {k : Int} {h : Hp} {x y : ByteArray} {c : Cur} (h0 : h[0]? = some (some (c.cs B))) (hx : x.size ≤ 100) (hy : y.size ≤ 100) (hc : c.le k) : x9 1 (.agg [.str x, .str y]) h (recP B k) := by
 refine ⟨_, _, ⟨⟨x, y⟩, c, hx, hy, hc, rfl, rfl⟩, ak.pick [0] (by decide) (fun j hj => by cases j <;> simp_all) (.inl rfl) ?_⟩
 simp only [az, List.map_cons, List.map_nil, bg, h0, Cur.ren]
theorem ahb {B : List Int} (hB : CB B) {k : Int} (hk : k ≤ 1000000) {c : Cur} (hc : c.le k) : ml Tryz.prog 52 [.ptr 0 0] [some (c.cs B)] (recP B (k + 20)) := by
 have hcb : ∀ {c' : Cur} {k' : Int}, c'.le k' → k' ≤ 4000000 → c'.le 4611686018427387903 := fun h h' => ⟨h.1, by have := h.2; omega⟩
 refine ml.intro Tryz.mixed Tryz.func52 rfl Tryz.a5f ?_
 refine ev2 @Tryz.ntmps52 @Tryz.results52 ?_
 refine rs0 ?_
 have pc1 := af3 hB (hcb hc (by omega)) [⟨#[99, 111, 117, 110, 116]⟩, ⟨#[115, 111, 114, 116, 32, 109, 101, 114, 103, 101]⟩, ⟨#[120]⟩, ⟨#[115, 101, 108, 101, 99, 116, 32, 50]⟩, ⟨#[48, 32, 49]⟩] (by simp) (by simp); have hc1 := dk (B := B) (n := (([⟨#[99, 111, 117, 110, 116]⟩, ⟨#[115, 111, 114, 116, 32, 109, 101, 114, 103, 101]⟩, ⟨#[120]⟩, ⟨#[115, 101, 108, 101, 99, 116, 32, 50]⟩, ⟨#[48, 32, 49]⟩] : List ByteArray).length : Int)) hc; have pvc1 := xa hB (K := [⟨#[99, 111, 117, 110, 116]⟩, ⟨#[115, 111, 114, 116, 32, 109, 101, 114, 103, 101]⟩, ⟨#[120]⟩, ⟨#[115, 101, 108, 101, 99, 116, 32, 50]⟩, ⟨#[48, 32, 49]⟩]) (by simp) hc.1; generalize ofV B [⟨#[99, 111, 117, 110, 116]⟩, ⟨#[115, 111, 114, 116, 32, 109, 101, 114, 103, 101]⟩, ⟨#[120]⟩, ⟨#[115, 101, 108, 101, 99, 116, 32, 50]⟩, ⟨#[48, 32, 49]⟩] c = vc1 at pc1 pvc1; generalize ff B (([⟨#[99, 111, 117, 110, 116]⟩, ⟨#[115, 111, 114, 116, 32, 109, 101, 114, 103, 101]⟩, ⟨#[120]⟩, ⟨#[115, 101, 108, 101, 99, 116, 32, 50]⟩, ⟨#[48, 32, 49]⟩] : List ByteArray).length : Int) c = c1 at pc1 hc1; (first | refine ai.df [0, 1] false pc1 (by decide) ⟨leO, leO, trivial⟩ (bq rfl rfl) (bp B _ _) (.inl rfl) ?_ | refine ai.df [0, 2] false pc1 (by decide) ⟨leO, leO, trivial⟩ (bq rfl rfl) (bp B _ _) (.inl rfl) ?_ | refine ai.df [0, 3] false pc1 (by decide) ⟨leO, leO, trivial⟩ (bq rfl rfl) (bp B _ _) (.inl rfl) ?_ | refine ai.df [0, 4] false pc1 (by decide) ⟨leO, leO, trivial⟩ (bq rfl rfl) (bp B _ _) (.inl rfl) ?_ | refine ai.df [0, 5] false pc1 (by decide) ⟨leO, leO, trivial⟩ (bq rfl rfl) (bp B _ _) (.inl rfl) ?_ | refine ai.df [0, 6] false pc1 (by decide) ⟨leO, leO, trivial⟩ (bq rfl rfl) (bp B _ _) (.inl rfl) ?_ | refine ai.df [0, 7] false pc1 (by decide) ⟨leO, leO, trivial⟩ (bq rfl rfl) (bp B _ _) (.inl rfl) ?_ | refine ai.df [0, 8] false pc1 (by decide) ⟨leO, leO, trivial⟩ (bq rfl rfl) (bp B _ _) (.inl rfl) ?_)
 refine rs2 @Cur.ren @ae ?_
 have pc2 := af3 hB (hcb hc1 (by omega)) [⟨#[]⟩, ⟨#[51]⟩, ⟨#[63]⟩, ⟨#[97, 64, 98]⟩, ⟨#[51, 32, 49, 32, 50]⟩] (by simp) (by simp); have hc2 := dk (B := B) (n := (([⟨#[]⟩, ⟨#[51]⟩, ⟨#[63]⟩, ⟨#[97, 64, 98]⟩, ⟨#[51, 32, 49, 32, 50]⟩] : List ByteArray).length : Int)) hc1; have pvc2 := xa hB (K := [⟨#[]⟩, ⟨#[51]⟩, ⟨#[63]⟩, ⟨#[97, 64, 98]⟩, ⟨#[51, 32, 49, 32, 50]⟩]) (by simp) hc1.1; generalize ofV B [⟨#[]⟩, ⟨#[51]⟩, ⟨#[63]⟩, ⟨#[97, 64, 98]⟩, ⟨#[51, 32, 49, 32, 50]⟩] c1 = vc2 at pc2 pvc2; generalize ff B (([⟨#[]⟩, ⟨#[51]⟩, ⟨#[63]⟩, ⟨#[97, 64, 98]⟩, ⟨#[51, 32, 49, 32, 50]⟩] : List ByteArray).length : Int) c1 = c2 at pc2 hc2; (first | refine ai.df [0, 1] false pc2 (by decide) ⟨leO, leO, trivial⟩ (bq rfl rfl) (bp B _ _) (.inl rfl) ?_ | refine ai.df [0, 2] false pc2 (by decide) ⟨leO, leO, trivial⟩ (bq rfl rfl) (bp B _ _) (.inl rfl) ?_ | refine ai.df [0, 3] false pc2 (by decide) ⟨leO, leO, trivial⟩ (bq rfl rfl) (bp B _ _) (.inl rfl) ?_ | refine ai.df [0, 4] false pc2 (by decide) ⟨leO, leO, trivial⟩ (bq rfl rfl) (bp B _ _) (.inl rfl) ?_ | refine ai.df [0, 5] false pc2 (by decide) ⟨leO, leO, trivial⟩ (bq rfl rfl) (bp B _ _) (.inl rfl) ?_ | refine ai.df [0, 6] false pc2 (by decide) ⟨leO, leO, trivial⟩ (bq rfl rfl) (bp B _ _) (.inl rfl) ?_ | refine ai.df [0, 7] false pc2 (by decide) ⟨leO, leO, trivial⟩ (bq rfl rfl) (bp B _ _) (.inl rfl) ?_ | refine ai.df [0, 8] false pc2 (by decide) ⟨leO, leO, trivial⟩ (bq rfl rfl) (bp B _ _) (.inl rfl) ?_)
 refine rs2 @Cur.ren @ae ?_
 refine gy hB hc2 (by omega) 24 (by omega) rfl (fun vc3 c3 pvc3 hc3 => ?_)
 refine rs2 @Cur.ren @ae ?_
 have hx := vy pvc1 (by rfl)
 have hy := vy pvc2 (by rfl)
 refine ax.split (fun h1 => ?_) (fun h1 => ?_)
 · refine rs1 @h1 ?_
   have hz : se (List.take 3 (vx 3 [V.int .u8 0])) = some [0, 0, 0] := rfl
   rw [hz]
   refine rs0 ?_
   have pc4 := af3 hB (hcb hc3 (by omega)) [⟨#[]⟩, ⟨#[97, 64, 98]⟩, ⟨#[97, 35]⟩, ⟨#[10]⟩, strOfNums [0, 0, 0]] (by simp) (by simp); have hc4 := dk (B := B) (n := (([⟨#[]⟩, ⟨#[97, 64, 98]⟩, ⟨#[97, 35]⟩, ⟨#[10]⟩, strOfNums [0, 0, 0]] : List ByteArray).length : Int)) hc3; have pvc4 := xa hB (K := [⟨#[]⟩, ⟨#[97, 64, 98]⟩, ⟨#[97, 35]⟩, ⟨#[10]⟩, strOfNums [0, 0, 0]]) (by simp) hc3.1; generalize ofV B [⟨#[]⟩, ⟨#[97, 64, 98]⟩, ⟨#[97, 35]⟩, ⟨#[10]⟩, strOfNums [0, 0, 0]] c3 = vc4 at pc4 pvc4; generalize ff B (([⟨#[]⟩, ⟨#[97, 64, 98]⟩, ⟨#[97, 35]⟩, ⟨#[10]⟩, strOfNums [0, 0, 0]] : List ByteArray).length : Int) c3 = c4 at pc4 hc4; (first | refine ai.df [0, 1] false pc4 (by decide) ⟨leO, leO, trivial⟩ (bq rfl rfl) (bp B _ _) (.inl rfl) ?_ | refine ai.df [0, 2] false pc4 (by decide) ⟨leO, leO, trivial⟩ (bq rfl rfl) (bp B _ _) (.inl rfl) ?_ | refine ai.df [0, 3] false pc4 (by decide) ⟨leO, leO, trivial⟩ (bq rfl rfl) (bp B _ _) (.inl rfl) ?_ | refine ai.df [0, 4] false pc4 (by decide) ⟨leO, leO, trivial⟩ (bq rfl rfl) (bp B _ _) (.inl rfl) ?_ | refine ai.df [0, 5] false pc4 (by decide) ⟨leO, leO, trivial⟩ (bq rfl rfl) (bp B _ _) (.inl rfl) ?_ | refine ai.df [0, 6] false pc4 (by decide) ⟨leO, leO, trivial⟩ (bq rfl rfl) (bp B _ _) (.inl rfl) ?_ | refine ai.df [0, 7] false pc4 (by decide) ⟨leO, leO, trivial⟩ (bq rfl rfl) (bp B _ _) (.inl rfl) ?_ | refine ai.df [0, 8] false pc4 (by decide) ⟨leO, leO, trivial⟩ (bq rfl rfl) (bp B _ _) (.inl rfl) ?_)
   refine rs2 @Cur.ren @ae ?_
   exact ah2 rfl (vy pvc4 (by decide)) hy (fp hc4 (by omega))
 · refine rs1 @h1 ?_
   refine ax.split (fun h2 => ?_) (fun h2 => ?_)
   · refine rs1 @h2 ?_
     have pc4 := af3 hB (hcb hc3 (by omega)) [⟨#[35]⟩, ⟨#[10]⟩, ⟨#[127]⟩] (by simp) (by simp); have hc4 := dk (B := B) (n := (([⟨#[35]⟩, ⟨#[10]⟩, ⟨#[127]⟩] : List ByteArray).length : Int)) hc3; have pvc4 := xa hB (K := [⟨#[35]⟩, ⟨#[10]⟩, ⟨#[127]⟩]) (by simp) hc3.1; generalize ofV B [⟨#[35]⟩, ⟨#[10]⟩, ⟨#[127]⟩] c3 = vc4 at pc4 pvc4; generalize ff B (([⟨#[35]⟩, ⟨#[10]⟩, ⟨#[127]⟩] : List ByteArray).length : Int) c3 = c4 at pc4 hc4; (first | refine ai.df [0, 1] false pc4 (by decide) ⟨leO, leO, trivial⟩ (bq rfl rfl) (bp B _ _) (.inl rfl) ?_ | refine ai.df [0, 2] false pc4 (by decide) ⟨leO, leO, trivial⟩ (bq rfl rfl) (bp B _ _) (.inl rfl) ?_ | refine ai.df [0, 3] false pc4 (by decide) ⟨leO, leO, trivial⟩ (bq rfl rfl) (bp B _ _) (.inl rfl) ?_ | refine ai.df [0, 4] false pc4 (by decide) ⟨leO, leO, trivial⟩ (bq rfl rfl) (bp B _ _) (.inl rfl) ?_ | refine ai.df [0, 5] false pc4 (by decide) ⟨leO, leO, trivial⟩ (bq rfl rfl) (bp B _ _) (.inl rfl) ?_ | refine ai.df [0, 6] false pc4 (by decide) ⟨leO, leO, trivial⟩ (bq rfl rfl) (bp B _ _) (.inl rfl) ?_ | refine ai.df [0, 7] false pc4 (by decide) ⟨leO, leO, trivial⟩ (bq rfl rfl) (bp B _ _) (.inl rfl) ?_ | refine ai.df [0, 8] false pc4 (by decide) ⟨leO, leO, trivial⟩ (bq rfl rfl) (bp B _ _) (.inl rfl) ?_)
     refine rs2 @Cur.ren @ae ?_
     exact ah2 rfl hx (vy pvc4 (by rfl)) (fp hc4 (by omega))
   · refine rs1 @h2 ?_
     exact ah2 rfl hx hy (fp hc3 (by omega))
def axo (B : List Int) (b : Nat) (k : Int) (r : V) (hout : Hp) : Prop := ∃ (l : Log) (c : Cur), l.Durable.size ≤ b ∧ l.Pending.size ≤ b ∧ bt l.Count ∧ c.le k ∧ r = l.v ∧ hout = [some (c.cs B)]
theorem y7 {B : List Int} {b : Nat} {k : Int} {h : Hp} {x y : ByteArray} {n : Int} {c : Cur} (h0 : h[0]? = some (some (c.cs B))) (hx : x.size ≤ b) (hy : y.size ≤ b) (hn : bt n) (hc : c.le k) : x9 1 (.agg [.str x, .str y, .int .i64 n]) h (axo B b k) := by
 refine ⟨_, _, ⟨⟨x, y, n⟩, c, hx, hy, hn, hc, rfl, rfl⟩, ak.pick [0] (by decide) (fun j hj => by cases j <;> simp_all) (.inl rfl) ?_⟩
 simp only [az, List.map_cons, List.map_nil, bg, h0, Cur.ren]
theorem ajn {l : Log} (h : n4 l = true) : l.Durable.size + l.Pending.size ≤ 30000 := by
 simp only [n4, Bool.and_eq_true, decide_eq_true_eq] at h
 exact h.1
theorem ak6 (l : Log) (e : ay) (hd : l.Durable.size ≤ 40000) (hp : l.Pending.size ≤ 40000) (hn : bt l.Count) : ∃ (l' : Log) (n : Int), za l e = [l'.v, .int .i64 n] ∧ l'.Durable.size ≤ 40000 ∧ l'.Pending.size ≤ 40000 ∧ bt l'.Count := by
 unfold za
 split
 · rename_i h
   split
   · exact ⟨l, 2, rfl, hd, hp, hn⟩
   · rename_i h2
     have h3 := ajn h.1
     have h4 := rf h.1
     have hk : 0 ≤ l.Count ∧ l.Count ≤ 59 := by omega
     have z1 := gn hk h.2
     have z2 := ix (dn l.Count e)
     have z3 : (fj l.Count e).size = (nq (dn l.Count e)).size + 1 := by rw [fj, ByteArray.size_append]; rfl
     refine ⟨⟨l.Durable, l.Pending ++ fj l.Count e, l.Count + 1⟩, 0, rfl, hd, ?_, ⟨by simp only []; omega, by simp only []; omega⟩⟩
     simp only [ByteArray.size_append]
     omega
 · exact ⟨l, 1, rfl, hd, hp, hn⟩
theorem ajd (l : Log) (hd : l.Durable.size ≤ 40000) (hp : l.Pending.size ≤ 40000) (hn : bt l.Count) : ∃ (l' : Log) (b : Bool), ajl l = [l'.v, .bool b] ∧ l'.Durable.size ≤ 40000 ∧ l'.Pending.size ≤ 40000 ∧ bt l'.Count := by
 unfold ajl
 split
 · rename_i h
   have h3 := ajn h
   exact ⟨⟨l.Durable ++ l.Pending, ByteArray.empty, l.Count⟩, true, rfl, by simp only [ByteArray.size_append]; omega, by simp, hn⟩
 · exact ⟨⟨ByteArray.empty, ByteArray.empty, 0⟩, false, rfl, by simp, by simp, by simp [bt]⟩
theorem awh {B : List Int} (hB : CB B) {k : Int} (hk : k ≤ 100000) {c : Cur} (hc : c.le k) : ml Tryz.prog 102 [.ptr 0 0] [some (c.cs B)] (axo B 40000 (k + 1000)) := by
 have hcb : ∀ {c' : Cur} {k' : Int}, c'.le k' → k' ≤ 4000000 → c'.le 4611686018427387903 := fun h h' => ⟨h.1, by have := h.2; omega⟩
 refine ml.intro Tryz.mixed Tryz.func102 rfl Tryz.axa ?_
 refine ev2 @Tryz.ntmps102 @Tryz.results102 ?_
 refine rs0 ?_
 refine gy hB hc (by omega) 7 (by omega) rfl (fun vc1 c1 pvc1 hc1 => ?_)
 refine rs1 @Cur.ren ?_
 obtain ⟨n0, hn0⟩ : ∃ n : Nat, vc1 = n := ⟨vc1.toNat, by omega⟩
 subst hn0
 refine dh.intro (fun x : Nat × Log × Cur => x.1 ≤ 7 ∧ x.2.1.Durable.size ≤ 40000 ∧ x.2.1.Pending.size ≤ 40000 ∧ bt x.2.1.Count ∧ x.2.2.le (k + 2 + 30 * (7 - (x.1 : Int)))) (fun x => ⟨(.ptr 0 0 :: .undef :: .ptr 1 0 :: .ptr 2 0 :: .int .i64 x.1 :: (un 22 [])), [some (x.2.2.cs B), some Log.zs, some x.2.1.cs], 1⟩) (fun x => x.1) (n0, ⟨ByteArray.empty, ByteArray.empty, 0⟩, c1) ⟨by simp only []; omega, by simp, by simp, by simp [bt], fp hc1 (by simp only []; omega)⟩ ?_ (fun x hx => ?_)
 · refine aq.cut (3) (by simp) (by simp) ?_ ?_
   · simp [LeC, LeV, ren, bj]
   · simp [bz, ck, Cur.ren, ren, Log.zs, Log.cs]
 obtain ⟨n, l, c2⟩ := x
 obtain ⟨x1, x2, x3, x4, hc2⟩ := hx
 dsimp only at x1 x2 x3 x4 hc2
 refine ev0 ?_
 refine ax.split (fun h1 => ?_) (fun h1 => ?_)
 · have hn : 0 < n := by have := of_decide_eq_true h1; omega
   refine rs1 @h1 ?_
   refine clT.tree (fun s2 => ∃ (l' : Log) (c4 : Cur), l'.Durable.size ≤ 40000 ∧ l'.Pending.size ≤ 40000 ∧ bt l'.Count ∧ c4.le (k + 2 + 30 * (7 - (n : Int)) + 20) ∧ s2 = ⟨(.ptr 0 0 :: .undef :: .ptr 1 0 :: .ptr 2 0 :: .int .i64 n :: (un 22 [])), [some (c4.cs B), some Log.zs, some l'.cs], 1⟩) (.take 1 (.alt 0 (.alt 2 (.alt 3 (.take 4 (.take 5 (.take 6 (.alt 7 .done .stop)))) .stop) .stop) (.alt 2 (.alt 0 (.alt 3 (.take 4 (.take 5 (.take 6 (.alt 7 .done .stop)))) .stop) .stop) .stop))) (by kernel_rfl) (fun s2 hs2 => ?_) ?_
   · obtain ⟨l', c4, y1, y2, y3, hc4, rfl⟩ := hs2
     refine rs0 ?_
     refine dy hB hc4 (by omega) 4 (by omega) rfl (fun vc5 c5 hc5 => ?_)
     refine rs3 @Cur.ren @Log.zs.eq_1 @Log.cs.eq_1 ?_
     have hn1 : ((n - 1 : Nat) : Int) = (n : Int) - 1 := by omega
     refine ax.split (fun h2 => ?_) (fun h2 => ?_)
     · refine rs2 @h2 @Log.cs.eq_1 ?_
       obtain ⟨l2, b2, e2, z1, z2, z3⟩ := ajd l' y1 y2 y3
       have hs := aih l' (by omega) (by omega)
       rw [e2] at hs
       (first | refine al.at (hs) ⟨leA, trivial⟩ ?_ | refine ai.at (hs) ⟨leA, trivial⟩ ?_)
       refine rs1 @Log.v.eq_1 ?_
       refine ⟨(n - 1, l2, c5), ⟨by simp only []; omega, z1, z2, z3, fp hc5 (by simp only []; omega)⟩, ?_, by simp only []; omega⟩
       refine aq.cut (3) (by simp) (by simp) ?_ ?_
       · simp [LeC, LeV, ren, bj, hn1]
       · simp [bz, ck, Cur.ren, ren, Log.zs, Log.cs]
     · refine rs1 @h2 ?_
       refine ⟨(n - 1, l', c5), ⟨by simp only []; omega, y1, y2, y3, fp hc5 (by simp only []; omega)⟩, ?_, by simp only []; omega⟩
       refine aq.cut (3) (by simp) (by simp) ?_ ?_
       · simp [LeC, LeV, ren, bj, hn1]
       · simp [bz, ck, Cur.ren, ren, Log.zs, Log.cs]
   · refine rs1 @Log.cs.eq_1 ?_
     repeat' (first | (refine ai.rel [0] (ahb hB (by omega) hc2) (by decide) ⟨leO, trivial⟩ (dp rfl) rfl (fun r hout hΦ => ?_); obtain ⟨e, c4, he1, he2, hc4, rfl, rfl⟩ := hΦ; refine ⟨⟨⟨rfl, rfl⟩, trivial⟩, ?_⟩; obtain ⟨l2, n2, e2, z1, z2, z3⟩ := ak6 l e x2 x3 x4; have ha := tc l e (by omega) (by omega) (by omega) (by omega); rw [e2] at ha; refine rs4 @Cur.ren @Log.cs.eq_1 @ay.v.eq_1 @Log.zs.eq_1 ?_) | ((first | refine al.at (ha) ⟨leA, leA, trivial⟩ ?_ | refine ai.at (ha) ⟨leA, leA, trivial⟩ ?_); refine rs1 @Log.v.eq_1 ?_) | (refine And.intro ?_ ?_) | exact trivial)
     all_goals
      refine ⟨_, ⟨l2, c4, z1, z2, z3, fp hc4 (by omega), rfl⟩, ?_⟩
      refine aq.cut (3) (by simp) (by simp) ?_ ?_
      · simp [LeC, LeV, ren, bj]
      · simp [bz, ck, Cur.ren, ren, Log.zs, Log.cs]
 · refine rs2 @h1 @Log.cs.eq_1 ?_
   exact y7 rfl x2 x3 x4 (fp hc2 (by omega))
end Go.Proofs
end
section
set_option maxRecDepth 100000
set_option maxHeartbeats 2000000
namespace Go.Proofs
open Go.Lv
theorem agd {B : List Int} (hB : CB B) {k : Int} (hk : k ≤ 100000) {c : Cur} (hc : c.le k) : ml Tryz.prog 60 [.ptr 0 0] [some (c.cs B)] (axo B 100000 (k + 1100)) := by
 have hcb : ∀ {c' : Cur} {k' : Int}, c'.le k' → k' ≤ 4000000 → c'.le 4611686018427387903 := fun h h' => ⟨h.1, by have := h.2; omega⟩
 refine ml.intro Tryz.mixed Tryz.func60 rfl Tryz.a2l ?_
 refine ev2 @Tryz.ntmps60 @Tryz.results60 ?_
 refine rs0 ?_
 refine ai.rel [0] (awh hB hk hc) (by decide) ⟨leO, trivial⟩ (dp rfl) rfl (fun r hout hΦ => ?_)
 obtain ⟨l, c1, x1, x2, x3, hc1, rfl, rfl⟩ := hΦ
 refine ⟨⟨⟨rfl, rfl⟩, trivial⟩, ?_⟩
 refine rs2 @Cur.ren @Log.v.eq_1 ?_
 refine gy hB hc1 (by omega) 24 (by omega) rfl (fun vc2 c2 pvc2 hc2 => ?_)
 refine rs1 @Cur.ren ?_
 refine ax.split (fun h1 => ?_) (fun h1 => ?_)
 · refine rs1 @h1 ?_
   exact y7 rfl (by omega) (by omega) (by unfold bt IntKind.wrap; simp [IntKind.bits, IntKind.signed]; omega) (fp hc2 (by omega))
 · refine rs1 @h1 ?_
   refine ax.split (fun h2 => ?_) (fun h2 => ?_)
   · refine rs1 @h2 ?_
     refine ai.rel [0] (aot hB (by omega) hc2 l.Pending ⟨#[35, 64, 10, 48, 49]⟩ (by omega) (by decide)) (by decide) ⟨leO, leO, leO, trivial⟩ (dp rfl) rfl (fun r hout hΦ => ?_)
     obtain ⟨x, c3, y1, hc3, rfl, rfl⟩ := hΦ
     refine ⟨⟨⟨rfl, rfl⟩, trivial⟩, ?_⟩
     refine rs1 @Cur.ren ?_
     exact y7 rfl (by omega) (by omega) x3 (fp hc3 (by omega))
   · refine rs1 @h2 ?_
     refine ax.split (fun h3 => ?_) (fun h3 => ?_)
     · refine rs1 @h3 ?_
       exact y7 rfl (by simp only [ByteArray.size_append]; omega) (by omega) x3 (fp hc2 (by omega))
     · refine rs1 @h3 ?_
       exact y7 rfl (by omega) (by omega) x3 (fp hc2 (by omega))
end Go.Proofs
end
