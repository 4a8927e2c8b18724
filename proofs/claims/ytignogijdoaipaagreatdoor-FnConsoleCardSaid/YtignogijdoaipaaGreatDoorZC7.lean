/-
  A part of the proof: texts put together by a program of the prover. Conditions: none.
-/
import Derived.Test.YtignogijdoaipaaGreatDoorZC4
import Derived.Test.YtignogijdoaipaaGreatDoorZC5
import Derived.Test.YtignogijdoaipaaGreatDoorZC6
import Derived.Lib.AppendIntMem
set_option linter.unusedSimpArgs false
set_option linter.unusedVariables false
section
set_option maxRecDepth 100000
namespace Go.Proofs
open Go.Lv
theorem aml {w : World} {av : Nat → Prop} (h : GL w av) : Lib.TabIs Tryz.prog w "internal/strconv.uint64pow10" .u64 Lib.pow10Tab := by
 obtain ⟨_, T, fr, h2⟩ := h.1 _ (List.mem_singleton.2 rfl)
 have hg : Tryz.prog.globalNamed "internal/strconv.uint64pow10" = some 5 := by kernel_rfl
 unfold Lib.TabIs World.var?
 rw [hg, Option.bind_some, h2]
 rfl
theorem ake {W : World} (h : Lib.TabIs Tryz.prog W "internal/strconv.uint64pow10" .u64 Lib.pow10Tab) (hv : ∀ p ∈ aez, ¬ False ∧ ∃ C T fr v, W.heap[p.1]? = some (.cells C T fr) ∧ C[0]? = some v ∧ aw8 p.2 v) : GL W (fun _ => False) := by
 refine ⟨fun p hp => ?_, hv⟩
 have hp' := List.mem_singleton.1 hp
 subst hp'
 have hg : Tryz.prog.globalNamed "internal/strconv.uint64pow10" = some 5 := by kernel_rfl
 unfold Lib.TabIs World.var? at h
 rw [hg, Option.bind_some] at h
 dsimp only at h ⊢
 split at h
 · rename_i cs T fr hc
   refine ⟨fun h => h, T, fr, ?_⟩
   rw [hc]
   simp only [Option.some.injEq] at h
   subst h
   rfl
 · cases h
theorem n6 (n : Int) (hn : bt n) : Ctr Tryz.prog 97 [.int .i64 n] [] (.str (num n)) [] := by
 refine ⟨Tryz.a4x, fun w vs m av hH hav hgl hsz ha => ?_⟩
 obtain ⟨v, rfl⟩ : ∃ v, vs = #[v] := by
  match vs, hsz with
  | ⟨[v]⟩, _ => exact ⟨v, rfl⟩
 have h0 := ha 0 (by simp)
 simp only [List.getElem_cons_zero] at h0
 have hv : v = .int .i64 n := by
  have := r8 h0
  simpa using this
 subst hv
 refine (Tryz.strconv_Itoa n hn.1 hn.2 w (aml hgl)).mono ?_
 rintro e w' ⟨rfl, k, os, rfl⟩
 refine ⟨_, m, rfl, ?_, ⟨fun i j ci cj h => by simp at h, fun id cs h => by simp at h, fun id cs h => by simp at h⟩, .str _, fun id cs h => by simp at h⟩
 have hb : ∀ g, g < w.heap.size → (Sort.grow (w.drewN k) os).heap[g]? = w.heap[g]? := fun g hg => Lib.heap_grow_old w k os g hg
 exact ⟨rfl, rfl, rfl, Lib.size_grow w k os, fun g hg _ => hb g hg, fun g hg => Nat.le_of_eq (ik (hb g hg)).symm⟩
theorem rk (n : Int) (hn : bt n) : Ctr Tryz.prog 47 [.int .i64 n] [] (.str (num n)) [] := by
 refine Ctr.intro Tryz.mixed Tryz.func47 rfl Tryz.a4v ?_
 refine ev2 @Tryz.ntmps47 @Tryz.results47 ?_
 (first | refine al.at (n6 n hn) ⟨leA, trivial⟩ ?_ | refine ah.at (n6 n hn) ⟨leA, trivial⟩ ?_)
 refine ev0 ?_
 exact ak.aq rfl (by rfl)
theorem afy : ∀ (k u : Nat), u < k → u ≤ 9223372036854775807 → Ctr Tryz.prog 49 [.int .i64 u] [] (.str (num u)) [] := by
 intro k
 induction k with
 | zero => intro u h; omega
 | succ k ih =>
  intro u hu hb
  refine Ctr.intro Tryz.mixed Tryz.func49 rfl Tryz.au0 ?_
  refine ev2 @Tryz.ntmps49 @Tryz.results49 ?_
  refine ay.split (fun h => absurd h (by simp)) (fun h => ?_)
  refine ev1 @h ?_
  refine ay.split (fun h2 => ?_) (fun h2 => ?_)
  · have hlt : u < 10 := by simp at h2; omega
    refine rn1 @h2 ?_
    have e : ((u : Int) + 1).toNat = u + 1 := by omega
    have e2 : ((#[48, 49, 50, 51, 52, 53, 54, 55, 56, 57] : Array UInt8).size : Int) = 10 := rfl
    rw [e, e2]
    refine ⟨⟨by omega, by omega, by omega⟩, ak.aq ?_ (by rfl)⟩
    rw [ahc hlt, digits]
  · have hge : ¬ u < 10 := by simp at h2; omega
    have t1 : Int.tdiv (u : Int) 10 = ((u / 10 : Nat) : Int) := rfl
    have t2 : Int.tmod (u : Int) 10 = ((u % 10 : Nat) : Int) := rfl
    refine rn3 @h2 @t1 @t2 ?_
    (have ct := ih (u / 10) (by omega) (by omega); (first | refine al.at ct ⟨leA, trivial⟩ ?_ | refine ah.at ct ⟨leA, trivial⟩ ?_); clear ct)
    have e : (((u % 10 : Nat) : Int) + 1).toNat = u % 10 + 1 := by omega
    have e2 : ((#[48, 49, 50, 51, 52, 53, 54, 55, 56, 57] : Array UInt8).size : Int) = 10 := rfl
    have hs := jh (n := ((u / 10 : Nat) : Int)) (by omega) (by omega)
    have hd : ({ data := #[48, 49, 50, 51, 52, 53, 54, 55, 56, 57] } : ByteArray).extract (u % 10) (u % 10 + 1) = ⟨#[UInt8.ofNat (48 + u % 10)]⟩ := sy (u % 10) (by omega)
    (repeat ((repeat1' (first | simp -implicitDefEqProofs -dsimp only [go_sem, e, e2, hd, ch] | simp -dsimp (disch := omega) only [wrap_i64])); repeat (with_reducible refine df ?_)))
    refine ⟨by simp only [List.size_toArray, List.length_cons, List.length_nil]; omega, ak.aq ?_ (by rfl)⟩
    rw [ad9 hge, sy (u % 10) (by omega)]
theorem fj (n : Int) (h0 : -9223372036854775807 ≤ n) (h1 : n ≤ 9223372036854775807) : Ctr Tryz.prog 49 [.int .i64 n] [] (.str (num n)) [] := by
 rcases Int.lt_or_le n 0 with hn | hn
 · obtain ⟨u, rfl⟩ : ∃ u : Nat, n = -(u : Int) := ⟨n.natAbs, by omega⟩
   refine Ctr.intro Tryz.mixed Tryz.func49 rfl Tryz.au0 ?_
   refine ev2 @Tryz.ntmps49 @Tryz.results49 ?_
   refine ay.split (fun h => ?_) (fun h => absurd h (by simp; omega))
   have e : IntKind.i64.wrap (0 - -(u : Int)) = (u : Int) := by rw [wrap_i64 (by omega) (by omega)]; omega
   refine ev2 @h @e ?_
   (have ct := afy (u + 1) u (by omega) (by omega); (first | refine al.at ct ⟨leA, trivial⟩ ?_ | refine ah.at ct ⟨leA, trivial⟩ ?_); clear ct)
   have hs := jh (n := (u : Int)) (by omega) (by omega)
   simp -implicitDefEqProofs -dsimp only [go_sem, ch]
   refine ⟨by simp; omega, ak.aq ?_ (by rfl)⟩
   rw [asi (by omega)]
 · obtain ⟨u, rfl⟩ : ∃ u : Nat, n = u := ⟨n.toNat, by omega⟩
   exact afy (u + 1) u (by omega) (by omega)
end Go.Proofs
end
section
set_option maxRecDepth 100000
set_option maxHeartbeats 1000000
namespace Go.Proofs
open Go.Lv
theorem sc {a b : ByteArray} (h : a.data.toList = b.data.toList) : a = b := by
 apply ByteArray.ext
 exact Array.toList_inj.1 h
theorem gw (a b : ByteArray) : (a.toList == b.toList) = decide (a = b) := by
 rw [ab5, ab5, Bool.eq_iff_iff]
 simp only [beq_iff_eq, decide_eq_true_eq]
 exact ⟨fun h => sc h, fun h => by rw [h]⟩
theorem lv (a b : ByteArray) : (a ++ b).data.toList = a.data.toList ++ b.data.toList := by simp [ByteArray.data_append]
theorem ep (s : ByteArray) (a b : Nat) : (s.extract a b).data.toList = (s.data.toList.take b).drop a := by
 rw [ByteArray.data_extract, Array.toList_extract, List.extract_eq_take_drop, List.drop_take]
def idx (c : UInt8) (s : ByteArray) : Int := Lib.indexByte s.data.toList c
def fnd (c : UInt8) (s : ByteArray) : Bool := decide (0 ≤ idx c s)
def bef (c : UInt8) (s : ByteArray) : ByteArray := if 0 ≤ idx c s then s.extract 0 (idx c s).toNat else s
def aft (c : UInt8) (s : ByteArray) : ByteArray := if 0 ≤ idx c s then s.extract ((idx c s).toNat + 1) s.size else ⟨#[]⟩
theorem akg {c : UInt8} : ∀ {x : List UInt8} (y : List UInt8), (x.all fun b => !(b == c)) = true → Lib.indexByte (x ++ c :: y) c = x.length
 | [], y, _ => by simp [Lib.indexByte]
 | a :: x, y, h => by
  simp only [List.all_cons, Bool.and_eq_true] at h
  have hf : (a == c) = false := by simpa using h.1
  rw [List.cons_append, Lib.indexByte, hf, akg y h.2]
  have : ((x.length : Int) == -1) = false := by simp
  simp [this]
theorem alr {c : UInt8} : ∀ {x : List UInt8}, (x.all fun b => !(b == c)) = true → Lib.indexByte x c = -1
 | [], _ => rfl
 | a :: x, h => by
  simp only [List.all_cons, Bool.and_eq_true] at h
  have hf : (a == c) = false := by simpa using h.1
  rw [Lib.indexByte, hf, alr h.2]
  rfl
theorem alw {c : UInt8} : ∀ {l : List UInt8}, 0 ≤ Lib.indexByte l c → ∃ x y, l = x ++ c :: y ∧ (x.all fun b => !(b == c)) = true
 | [], h => by simp [Lib.indexByte] at h
 | a :: l, h => by
  by_cases e : a = c
  · exact ⟨[], l, by simp [e], rfl⟩
  · have hf : (a == c) = false := by simpa using e
    rw [Lib.indexByte, hf] at h
    by_cases e2 : Lib.indexByte l c = -1
    · simp [e2] at h
    · have hg := Lib.indexByte_ge l c
      obtain ⟨x, y, h1, h2⟩ := alw (l := l) (c := c) (by omega)
      refine ⟨a :: x, y, by rw [h1]; rfl, ?_⟩
      rw [List.all_cons, hf, h2]; rfl
def noB (c : UInt8) (s : ByteArray) : Bool := dx (fun b => !(b == c)) s
theorem q7 {c : UInt8} {x y : ByteArray} (h : noB c x = true) : idx c (x ++ (⟨#[c]⟩ ++ y)) = x.size ∧ bef c (x ++ (⟨#[c]⟩ ++ y)) = x ∧ aft c (x ++ (⟨#[c]⟩ ++ y)) = y ∧ fnd c (x ++ (⟨#[c]⟩ ++ y)) = true := by
 have e : (x ++ (⟨#[c]⟩ ++ y)).data.toList = x.data.toList ++ c :: y.data.toList := by rw [lv, lv]; rfl
 have hi : idx c (x ++ (⟨#[c]⟩ ++ y)) = x.size := by
  rw [idx, e, akg _ h, ga]
 have hp : (0 : Int) ≤ x.size := by omega
 refine ⟨hi, ?_, ?_, ?_⟩
 · rw [bef, hi, if_pos hp]
   apply sc
   rw [ep, e, Int.toNat_natCast, List.drop_zero]
   exact List.take_left' (ga x)
 · rw [aft, hi, if_pos hp]
   apply sc
   have hl : (x ++ (⟨#[c]⟩ ++ y)).size = (x ++ (⟨#[c]⟩ ++ y)).data.toList.length := rfl
   rw [ep, Int.toNat_natCast, hl, List.take_length, e]
   have e2 : x.data.toList ++ c :: y.data.toList = (x.data.toList ++ [c]) ++ y.data.toList := by simp
   rw [e2]
   exact List.drop_left' (by rw [List.length_append, ga]; rfl)
 · rw [fnd, hi]; exact decide_eq_true hp
theorem ao8 {c : UInt8} {x : ByteArray} (h : noB c x = true) : idx c x = -1 ∧ bef c x = x ∧ aft c x = ⟨#[]⟩ ∧ fnd c x = false := by
 have hi : idx c x = -1 := alr h
 refine ⟨hi, ?_, ?_, ?_⟩
 · rw [bef, hi]; rfl
 · rw [aft, hi]; rfl
 · rw [fnd, hi]; rfl
theorem yd {c : UInt8} {s : ByteArray} (h : fnd c s = true) : ∃ x y, s = x ++ (⟨#[c]⟩ ++ y) ∧ noB c x = true := by
 obtain ⟨x, y, h1, h2⟩ := alw (of_decide_eq_true h)
 refine ⟨⟨x.toArray⟩, ⟨y.toArray⟩, ?_, ?_⟩
 · apply sc
   rw [lv, lv, h1]
   simp
 · unfold noB dx; simpa using h2
theorem ap8 (c : UInt8) (s : ByteArray) : -1 ≤ idx c s ∧ idx c s < s.size := by
 refine ⟨Lib.indexByte_ge _ _, ?_⟩
 by_cases h : 0 ≤ idx c s
 · obtain ⟨x, y, e, hx⟩ := yd (c := c) (s := s) (decide_eq_true h)
   rw [e, (q7 hx).1]
   simp only [ByteArray.size_append]
   have : (⟨#[c]⟩ : ByteArray).size = 1 := rfl
   omega
 · omega
theorem s9 (c : UInt8) (s : ByteArray) : (bef c s).size ≤ s.size := by
 have := ap8 c s
 unfold bef; split
 · rw [ByteArray.size_extract]; omega
 · exact Nat.le_refl _
theorem ajd (c : UInt8) (s : ByteArray) : (aft c s).size ≤ s.size := by
 unfold aft; split
 · rw [ByteArray.size_extract]; omega
 · exact Nat.zero_le _
theorem abi (s : ByteArray) (c : UInt8) : Ctr Tryz.prog 141 [.str s, .str ⟨#[c]⟩] [] (.int .i64 (idx c s)) [] := by
 refine ⟨Tryz.ayy, fun w vs m av hH hav hgl hsz ha => ?_⟩
 obtain ⟨v, u, rfl⟩ : ∃ v u, vs = #[v, u] := by
  match vs, hsz with
  | ⟨[v, u]⟩, _ => exact ⟨v, u, rfl⟩
 have h0 := ha 0 (by simp)
 have h1 := ha 1 (by simp)
 simp only [List.getElem_cons_zero, List.getElem_cons_succ] at h0 h1
 obtain rfl : v = .string s := by
  simp at h0; cases h0; rfl
 obtain rfl : u = .string ⟨#[c]⟩ := by
  simp at h1; cases h1; rfl
 refine (Tryz.stringslite_Index_one s c w).mono ?_
 rintro e w' ⟨rfl, rfl⟩
 exact ⟨_, m, rfl, Ext.refl _ _, ⟨fun i j ci cj h => by simp at h, fun id cs h => by simp at h, fun id cs h => by simp at h⟩, .int _ _, fun id cs h => by simp at h⟩
theorem aj2 (s : ByteArray) (c : UInt8) (hs : s.size ≤ 281474976710656) : Ctr Tryz.prog 161 [.str s, .str ⟨#[c]⟩] [] (.tup [.str (bef c s), .str (aft c s), .bool (fnd c s)]) [] := by
 have hi := ap8 c s
 refine Ctr.intro Tryz.mixed Tryz.func161 rfl Tryz.axi ?_
 refine ev2 @Tryz.ntmps161 @Tryz.results161 ?_
 (first | refine al.at (abi s c) ⟨leA, leA, trivial⟩ ?_ | refine ah.at (abi s c) ⟨leA, leA, trivial⟩ ?_)
 refine ev0 ?_
 refine ay.split (fun h1 => ?_) (fun h1 => ?_) <;> refine ev1 @h1 ?_
 · have h1' := of_decide_eq_true h1
   repeat (with_reducible refine df ?_)
   have e1 : ((#[c] : Array UInt8).size : Int) = 1 := rfl
   have e2 : (idx c s + 1).toNat = (idx c s).toNat + 1 := by omega
   rw [e1, wrap_i64 (by omega) (by omega), e2]
   refine ⟨⟨by omega, by omega⟩, ak.aq ?_ (by rfl)⟩
   rw [bef, aft, fnd, if_pos h1', if_pos h1', h1]
 · have h1' := of_decide_eq_false h1
   exact ak.aq (by rw [bef, aft, fnd, if_neg h1', if_neg h1', h1]) (by rfl)
theorem af9 (s : ByteArray) (c : UInt8) (hs : s.size ≤ 281474976710656) : Ctr Tryz.prog 132 [.str s, .str ⟨#[c]⟩] [] (.tup [.str (bef c s), .str (aft c s), .bool (fnd c s)]) [] := by
 refine Ctr.intro Tryz.mixed Tryz.func132 rfl Tryz.axg ?_
 refine ev2 @Tryz.ntmps132 @Tryz.results132 ?_
 (have ct := aj2 s c hs; (first | refine al.at ct ⟨leA, leA, trivial⟩ ?_ | refine ah.at ct ⟨leA, leA, trivial⟩ ?_); clear ct)
 refine ev0 ?_
 exact ak.aq rfl (by rfl)
def gn (c : UInt8) (s : ByteArray) : Nat → List ByteArray × Nat
 | 0 => ([], 0)
 | i + 1 => if h : i < s.size then (if (s[i]'h == c) = true then ((gn c s i).1 ++ [s.extract (gn c s i).2 i], i + 1) else gn c s i) else gn c s i
theorem py {c : UInt8} {s : ByteArray} {i : Nat} (h : i < s.size) (hc : (s[i]'h == c) = true) : gn c s (i + 1) = ((gn c s i).1 ++ [s.extract (gn c s i).2 i], i + 1) := by
 rw [gn, dif_pos h, if_pos hc]
theorem tb {c : UInt8} {s : ByteArray} {i : Nat} (h : i < s.size) (hc : (s[i]'h == c) = false) : gn c s (i + 1) = gn c s i := by
 rw [gn, dif_pos h, if_neg (by simp [hc])]
theorem acp (c : UInt8) (s : ByteArray) : ∀ i, i ≤ s.size → (gn c s i).2 ≤ i ∧ (gn c s i).1.length ≤ i
 | 0, _ => by simp [gn]
 | i + 1, h => by
  have ih := acp c s i (by omega)
  have hi : i < s.size := by omega
  cases hc : (s[i]'hi == c) with
  | true => rw [py hi hc]; simp; omega
  | false => rw [tb hi hc]; omega
def jt (c : UInt8) (s : ByteArray) : List ByteArray := (gn c s s.size).1 ++ [s.extract (gn c s s.size).2 s.size]
theorem amn {c : UInt8} {s : ByteArray} {i : Nat} (h : i < s.size) (h0 : o9 (fun b => !(b == c)) s i = true) (hc : (s[i]'h == c) = true) : idx c s = i := by
 have hl : i < s.data.toList.length := h
 have e : s.data.toList = s.data.toList.take i ++ c :: s.data.toList.drop (i + 1) := by
  have : s.data.toList[i] = c := by rw [my s h]; simpa using hc
  rw [← this, ← List.drop_eq_getElem_cons hl, List.take_append_drop]
 rw [idx, e, akg _ h0]
 simp
 omega
theorem afm (c : UInt8) (s : ByteArray) : ∀ i, i ≤ s.size → (o9 (fun b => !(b == c)) s i = true → gn c s i = ([], 0)) ∧ (o9 (fun b => !(b == c)) s i = false → fnd c s = true ∧ ∃ l, (gn c s i).1 = bef c s :: l)
 | 0, _ => ⟨fun _ => rfl, fun h => by simp [o9] at h⟩
 | i + 1, h => by
  have hi : i < s.size := by omega
  obtain ⟨h1, h2⟩ := afm c s i (by omega)
  cases hc : (s[i]'hi == c) with
  | true =>
   rw [py hi hc, qh hi]
   refine ⟨fun g => by simp [hc] at g, fun _ => ?_⟩
   cases ha : o9 (fun b => !(b == c)) s i with
   | true =>
    have hx := amn hi ha hc
    refine ⟨by rw [fnd, hx]; exact decide_eq_true (by omega), [], ?_⟩
    rw [h1 ha, bef, hx, if_pos (by omega)]
    simp
   | false =>
    obtain ⟨g1, l, g2⟩ := h2 ha
    refine ⟨g1, l ++ [s.extract (gn c s i).2 i], ?_⟩
    rw [g2]; rfl
  | false =>
   rw [tb hi hc, qh hi]
   have e : (o9 (fun b => !(b == c)) s i && !(s[i]'hi == c)) = o9 (fun b => !(b == c)) s i := by rw [hc]; simp
   rw [e]
   exact ⟨h1, h2⟩
theorem s6 (c : UInt8) (s : ByteArray) : ∃ l, jt c s = bef c s :: l ∧ (l = [] ↔ fnd c s = false) := by
 obtain ⟨h1, h2⟩ := afm c s s.size (Nat.le_refl _)
 rw [wu] at h1 h2
 cases ha : dx (fun b => !(b == c)) s with
 | true =>
  obtain ⟨_, g2, _, g4⟩ := ao8 (c := c) (x := s) ha
  refine ⟨[], ?_, by simp [g4]⟩
  rw [jt, h1 ha, g2]
  simp
 | false =>
  obtain ⟨g1, l, g2⟩ := h2 ha
  refine ⟨l ++ [s.extract (gn c s s.size).2 s.size], by rw [jt, g2]; rfl, ?_⟩
  rw [g1]
  simp
theorem ue (s : ByteArray) (c : UInt8) (hs : s.size ≤ 16777216) : Ctr Tryz.prog 46 [.str s, .int .u8 c.toNat] [] (.osl 0 0 (jt c s).length 1) [some (rows StringS.cs (jt c s))] := by
 refine Ctr.intro Tryz.mixed Tryz.func46 rfl Tryz.a6a ?_
 refine ev2 @Tryz.ntmps46 @Tryz.results46 ?_
 refine dr.intro (fun i : Nat => i ≤ s.size) (fun i => ⟨(.str s :: .int .u8 c.toNat :: (un 3 (.osl 0 0 (gn c s i).1.length 1 :: .int .i64 (gn c s i).2 :: .int .i64 i :: (un 27 [])))), [some (rows StringS.cs (gn c s i).1)], 0⟩) (fun i => s.size - i) 0 (Nat.zero_le _) ?_ (fun i hi => ?_)
 · refine au.cut (1) (by simp) (by simp) ?_ ?_
   · simp [LeC, LeV, ren, bq, gn]
   · simp [bz, cw, gn, rows]
 have hbd := acp c s i hi
 refine ev0 ?_
 refine ay.split (fun h1 => ?_) (fun h1 => ?_)
 · refine ev1 @h1 ?_
   have hi' : i < s.size := by simpa using h1
   refine ⟨⟨by omega, hi'⟩, ?_⟩
   have hbb : ((s[i]'hi') == c) = (((s[i]'hi').toNat : Int) == (c.toNat : Int)) := by
    rw [Bool.eq_iff_iff]; simp only [beq_iff_eq]
    constructor
    · intro g; rw [g]
    · intro g; exact UInt8.toNat_inj.1 (by omega)
   refine ay.split (fun h2 => ?_) (fun h2 => ?_) <;> refine ev1 @h2 ?_
   · refine rn3 @bb @bh @Nat.mul_one ?_
     refine ⟨i + 1, hi', ?_, by omega⟩
     refine au.cut (1) (by simp) (by simp) ?_ ?_
     · rw [py hi' (by rw [hbb]; exact h2)]
       simp [LeC, LeV, ren, bq]
     · rw [py hi' (by rw [hbb]; exact h2), ← dw]
       simp [bz, cw, ren, bq, ae, dk, StringS.cs]
   · try refine ew0 ?_
     refine ⟨i + 1, hi', ?_, by omega⟩
     refine au.cut (1) (by simp) (by simp) ?_ ?_
     · rw [tb hi' (by rw [hbb]; exact h2)]
       simp [LeC, LeV, ren, bq]
     · rw [tb hi' (by rw [hbb]; exact h2)]
       simp [bz, cw, ae]
 · refine ev1 @h1 ?_
   have hi' : i = s.size := by simp at h1; omega
   subst hi'
   refine rn3 @bb @bh @Nat.mul_one ?_
   have hl : (jt c s).length = (gn c s s.size).1.length + 1 := by simp [jt]
   rw [hl]
   refine ak.pick [0] (by decide) (fun j hj => by omega) (.inl ?_) ?_
   · rfl
   · simp only [az, List.map_cons, List.map_nil, bg, List.getElem?_cons_zero, jt, ← dw]
     simp [ren, bc, posOf, ae, StringS.cs, dk]
end Go.Proofs
end
section
set_option maxRecDepth 100000
namespace Go.Proofs
open Go.Lv
structure aw where
 Command : ByteArray
 Reply : ByteArray
def aw.cs (r : aw) : List V := [.str r.Command, .str r.Reply]
def aw.v (r : aw) : V := .agg [.str r.Command, .str r.Reply]
theorem aw.csl (a : aw) : a.cs.length = 2 := rfl
instance : qp aw.cs 2 := ⟨fun _ => rfl, fun _ d => by cases d <;> rfl, fun _ => rfl, fun _ => rfl⟩
def aw.ok (r : aw) : Prop := ao5 r.Command ∧ ao5 r.Reply
abbrev aw.rows (L : List aw) : List V := Go.Lv.rows aw.cs L
abbrev aw.sl (L : List aw) : V := .sl L.length 2 (Go.Lv.rows aw.cs L)
abbrev aw.zs : List V := [.str ByteArray.empty, .str ByteArray.empty]
end Go.Proofs
end
section
set_option maxRecDepth 100000
set_option maxHeartbeats 1000000
namespace Go.Proofs
open Go.Lv
theorem ve (s : ByteArray) (hs : s.size ≤ 281474976710656) : Ctr Tryz.prog 67 [.str s] [] (.bool (dx j3 s)) [] := by
 refine Ctr.intro Tryz.mixed Tryz.func67 rfl Tryz.a5c ?_
 refine ev2 @Tryz.ntmps67 @Tryz.results67 ?_
 refine dr.intro (fun i : Nat => i ≤ s.size ∧ o9 j3 s i = true) (fun i => ⟨(.str s :: (un 4 (.int .i64 s.size :: .int .i64 i :: (un 13 [])))), [], 0⟩) (fun i => s.size - i) 0 ⟨Nat.zero_le _, rfl⟩ ?_ (fun i hi => ?_)
 · refine au.cut (0) (by simp) (by simp) ?_ ?_
   · simp [LeC, LeV, ren, bq]
   · rfl
 refine ev0 ?_
 refine ay.split (fun h1 => ?_) (fun h1 => ?_)
 · refine ev1 @h1 ?_
   have hi' : i < s.size := by simpa using h1
   refine ⟨⟨by omega, hi'⟩, ?_⟩
   have hb : j3 (s[i]'hi') = (decide (32 ≤ ((s[i]'hi').toNat : Int)) && decide (((s[i]'hi').toNat : Int) ≤ 126)) := by rw [j3, Bool.eq_iff_iff]; simp; omega
   refine ax.cq (fun h2 => ?_) (fun h2 => ?_) <;> refine ev1 @h2 ?_
   · refine ⟨⟨by omega, hi'⟩, ?_⟩
     refine ay.split (fun h3 => ?_) (fun h3 => ?_) <;> refine ev1 @h3 ?_
     · have hf : j3 (s[i]'hi') = false := by rw [hb]; simp at h3 ⊢; omega
       exact ak.aq (by rw [zd hi' hf]) (by rfl)
     · have hf : j3 (s[i]'hi') = true := by rw [hb]; simp at h2 h3 ⊢; omega
       refine ⟨i + 1, ⟨hi', by rw [qh hi', hi.2, hf]; rfl⟩, ?_, by omega⟩
       refine au.cut (0) (by simp) (by simp) ?_ ?_
       · rw [wrap_i64 (by omega) (by omega)]; simp [LeC, LeV, ren, bq]
       · rfl
   · have hf : j3 (s[i]'hi') = false := by rw [hb]; simp at h2 ⊢; omega
     exact ak.aq (by rw [zd hi' hf]) (by rfl)
 · refine ev1 @h1 ?_
   have hi' : i = s.size := by simp at h1; omega
   subst hi'
   exact ak.aq (by rw [← wu, hi.2]) (by rfl)
def bo (b : UInt8) : Bool := j3 b && !(b == 35)
theorem aba (s : ByteArray) (most : Int) (hs : s.size ≤ 281474976710656) : Ctr Tryz.prog 78 [.str s, .int .i64 most] [] (.bool (dx bo s && decide ((s.size : Int) ≤ most))) [] := by
 refine Ctr.intro Tryz.mixed Tryz.func78 rfl Tryz.a25 ?_
 refine ev2 @Tryz.ntmps78 @Tryz.results78 ?_
 refine dr.intro (fun i : Nat => i ≤ s.size ∧ o9 bo s i = true) (fun i => ⟨(.str s :: .int .i64 most :: (un 3 (.int .i64 i :: (un 22 [])))), [], 0⟩) (fun i => s.size - i) 0 ⟨Nat.zero_le _, rfl⟩ ?_ (fun i hi => ?_)
 · refine au.cut (0) (by simp) (by simp) ?_ ?_
   · simp [LeC, LeV, ren, bq]
   · rfl
 refine ev0 ?_
 refine ay.split (fun h1 => ?_) (fun h1 => ?_)
 · refine ev1 @h1 ?_
   have hi' : i < s.size := by simpa using h1
   have hu := UInt8.toNat_lt (s[i]'hi')
   refine ⟨⟨by omega, hi'⟩, ?_⟩
   have hwr : IntKind.i64.wrap ((s[i]'hi').toNat : Int) = ((s[i]'hi').toNat : Int) := wrap_i64 (by omega) (by omega)
   try refine ew1 @hwr ?_
   (first | refine al.at (dy _ _ _) ⟨leA, leA, leA, trivial⟩ ?_ | refine ah.at (dy _ _ _) ⟨leA, leA, leA, trivial⟩ ?_)
   refine ev0 ?_
   have hb : j3 (s[i]'hi') = ez ((s[i]'hi').toNat : Int) 32 126 := by rw [j3, Bool.eq_iff_iff]; simp [ez]; omega
   have h35 : ((s[i]'hi') == 35) = (((s[i]'hi').toNat : Int) == 35) := by
    rw [Bool.eq_iff_iff]; simp only [beq_iff_eq]
    constructor
    · intro g; rw [g]; rfl
    · intro g; exact UInt8.toNat_inj.1 (by show _ = 35; omega)
   refine ax.cq (fun h2 => ?_) (fun h2 => ?_) <;> refine ev1 @h2 ?_
   · refine ⟨⟨by omega, hi'⟩, ?_⟩
     refine ay.split (fun h3 => ?_) (fun h3 => ?_) <;> refine ev1 @h3 ?_
     · have hf : bo (s[i]'hi') = false := by rw [bo, h35, h3]; simp
       exact ak.aq (by rw [zd hi' hf]; rfl) (by rfl)
     · have hf : bo (s[i]'hi') = true := by rw [bo, h35, h3, hb]; simp at h2; simp [h2]
       refine ⟨i + 1, ⟨hi', by rw [qh hi', hi.2, hf]; rfl⟩, ?_, by omega⟩
       refine au.cut (0) (by simp) (by simp) ?_ ?_
       · rw [wrap_i64 (by omega) (by omega)]; simp [LeC, LeV, ren, bq]
       · rfl
   · have hf : bo (s[i]'hi') = false := by rw [bo, hb]; simp at h2; simp [h2]
     exact ak.aq (by rw [zd hi' hf]; rfl) (by rfl)
 · refine ev1 @h1 ?_
   have hi' : i = s.size := by simp at h1; omega
   subst hi'
   exact ak.aq (by rw [← wu, hi.2]; rfl) (by rfl)
theorem ajc (s : ByteArray) (b : UInt8) (hs : s.size ≤ 281474976710656) : Ctr Tryz.prog 79 [.str s, .int .u8 b.toNat] [] (.bool (!(dx (fun x => !(x == b)) s))) [] := by
 refine Ctr.intro Tryz.mixed Tryz.func79 rfl Tryz.a44 ?_
 refine ev2 @Tryz.ntmps79 @Tryz.results79 ?_
 refine dr.intro (fun i : Nat => i ≤ s.size ∧ o9 (fun x => !(x == b)) s i = true) (fun i => ⟨(.str s :: .int .u8 b.toNat :: (un 3 (.int .i64 i :: (un 11 [])))), [], 0⟩) (fun i => s.size - i) 0 ⟨Nat.zero_le _, rfl⟩ ?_ (fun i hi => ?_)
 · refine au.cut (0) (by simp) (by simp) ?_ ?_
   · simp [LeC, LeV, ren, bq]
   · rfl
 refine ev0 ?_
 refine ay.split (fun h1 => ?_) (fun h1 => ?_)
 · refine ev1 @h1 ?_
   have hi' : i < s.size := by simpa using h1
   refine ⟨⟨by omega, hi'⟩, ?_⟩
   have hbb : ((s[i]'hi') == b) = (((s[i]'hi').toNat : Int) == (b.toNat : Int)) := by
    rw [Bool.eq_iff_iff]; simp only [beq_iff_eq]
    constructor
    · intro g; rw [g]
    · intro g; exact UInt8.toNat_inj.1 (by omega)
   refine ay.split (fun h2 => ?_) (fun h2 => ?_) <;> refine ev1 @h2 ?_
   · exact ak.aq (by rw [zd hi' (by simp only [hbb, h2]; rfl)]; rfl) (by rfl)
   · refine ⟨i + 1, ⟨hi', by rw [qh hi', hi.2]; simp only [hbb, h2]; rfl⟩, ?_, by omega⟩
     refine au.cut (0) (by simp) (by simp) ?_ ?_
     · rw [wrap_i64 (by omega) (by omega)]; simp [LeC, LeV, ren, bq]
     · rfl
 · refine ev1 @h1 ?_
   have hi' : i = s.size := by simp at h1; omega
   subst hi'
   exact ak.aq (by rw [← wu, hi.2]; rfl) (by rfl)
theorem va (s : ByteArray) (c : UInt8) : Ctr Tryz.prog 69 [.str s, .str ⟨#[c]⟩] [] (.bool (decide (0 ≤ Lib.indexByte s.data.toList c))) [] := by
 refine ⟨Tryz.a3l, fun w vs m av hH hav hgl hsz ha => ?_⟩
 obtain ⟨v, u, rfl⟩ : ∃ v u, vs = #[v, u] := by
  match vs, hsz with
  | ⟨[v, u]⟩, _ => exact ⟨v, u, rfl⟩
 have h0 := ha 0 (by simp)
 have h1 := ha 1 (by simp)
 simp only [List.getElem_cons_zero, List.getElem_cons_succ] at h0 h1
 obtain rfl : v = .string s := by
  simp at h0; cases h0; rfl
 obtain rfl : u = .string ⟨#[c]⟩ := by
  simp at h1; cases h1; rfl
 refine (Tryz.strings_Contains_one s c w).mono ?_
 rintro e w' ⟨rfl, rfl⟩
 exact ⟨_, m, rfl, Ext.refl _ _, ⟨fun i j ci cj h => by simp at h, fun id cs h => by simp at h, fun id cs h => by simp at h⟩, .bool _, fun id cs h => by simp at h⟩
theorem acs (s chars : ByteArray) (hs : s.size < 4294967281) (hcs : chars.size < 4294967281) (has : ∀ (j : Nat) b, s.data.toList[j]? = some b → b.toNat < 128) (hac : ∀ (j : Nat) b, chars.data.toList[j]? = some b → b.toNat < 128) :
 Ctr Tryz.prog 68 [.str s, .str chars] [] (.bool (Lib.containsAny s.data.toList chars.data.toList)) [] := by
 refine ⟨Tryz.a3b, fun w vs m av hH hav hgl hsz ha => ?_⟩
 obtain ⟨v, u, rfl⟩ : ∃ v u, vs = #[v, u] := by
  match vs, hsz with
  | ⟨[v, u]⟩, _ => exact ⟨v, u, rfl⟩
 have h0 := ha 0 (by simp)
 have h1 := ha 1 (by simp)
 simp only [List.getElem_cons_zero, List.getElem_cons_succ] at h0 h1
 obtain rfl : v = .string s := by
  simp at h0; cases h0; rfl
 obtain rfl : u = .string chars := by
  simp at h1; cases h1; rfl
 refine (Tryz.strings_ContainsAny_laid s chars w hs hcs has hac).mono ?_
 rintro e w' ⟨rfl, hb⟩
 exact ⟨_, m, rfl, ⟨hb.os, hb.tape, hb.output, hb.size, fun g hg _ => hb.block g hg, fun g hg => Nat.le_of_eq (ik (hb.block g hg)).symm⟩, ⟨fun i j ci cj h => by simp at h, fun id cs h => by simp at h, fun id cs h => by simp at h⟩, .bool _, fun id cs h => by simp at h⟩
def ic (e : aw) : Bool := (decide (1 ≤ e.Command.size) && decide (e.Command.size ≤ 160)) && dx (fun b => bo b && !(b == 64)) e.Command && (decide (e.Reply.size ≤ 200) && dx bo e.Reply)
theorem wj (p q : UInt8 → Bool) (s : ByteArray) : dx (fun b => p b && q b) s = (dx p s && dx q s) := by
 unfold dx
 induction s.data.toList with
 | nil => rfl
 | cons a l ih => simp only [List.all_cons, ih]; cases p a <;> cases q a <;> simp
theorem sa (c : UInt8) : ∀ l : List UInt8, decide (0 ≤ Lib.indexByte l c) = !(l.all fun x => !(x == c))
 | [] => rfl
 | a :: l => by
  have ih := sa c l
  have hg := Lib.indexByte_ge l c
  unfold Lib.indexByte
  rw [List.all_cons]
  by_cases h : a = c
  · simp [h]
  · have hf : (a == c) = false := by simpa using h
    rw [hf]
    simp only [Bool.false_eq_true, if_false, Bool.not_false, Bool.true_and]
    rw [← ih]
    by_cases h1 : Lib.indexByte l c = -1
    · simp [h1]
    · have : (Lib.indexByte l c == -1) = false := by simpa using h1
      rw [this]
      rw [Bool.eq_iff_iff]; simp; omega
theorem uu (chars : List UInt8) : ∀ l : List UInt8, Lib.containsAny l chars = !(l.all fun x => !(chars.contains x))
 | [] => rfl
 | a :: l => by
  have ih := uu chars l
  have hg := Lib.indexAny_ge chars l
  unfold Lib.containsAny at ih ⊢
  unfold Lib.indexAny
  rw [List.all_cons]
  by_cases h : chars.contains a = true
  · simp only [h, if_true, Bool.not_true, Bool.false_and, Bool.not_false]; rfl
  · have hf : chars.contains a = false := by simpa using h
    rw [hf]
    simp only [Bool.false_eq_true, if_false, Bool.not_false, Bool.true_and]
    rw [← ih]
    by_cases h1 : Lib.indexAny l chars = -1
    · simp [h1]
    · have : (Lib.indexAny l chars == -1) = false := by simpa using h1
      rw [this]
      rw [Bool.eq_iff_iff]; simp; omega
end Go.Proofs
end
section
set_option maxRecDepth 100000
set_option maxHeartbeats 1000000
namespace Go.Proofs
open Go.Lv
theorem atz {s : ByteArray} (h : dx j3 s = true) : Lib.containsAny s.data.toList (⟨#[35, 64]⟩ : ByteArray).data.toList = !(dx (fun b => !(b == 35) && !(b == 64)) s) := by
 rw [uu]
 congr 2
 funext x
 show (!(List.contains [35, 64] x)) = _
 simp only [List.contains_cons, List.contains_nil, Bool.or_false, Bool.not_or]
theorem agk (s : ByteArray) : dx (fun b => bo b && !(b == 64)) s = (dx j3 s && dx (fun b => !(b == 35) && !(b == 64)) s) := by
 rw [← wj]
 congr 1
 funext b
 exact Bool.and_assoc _ _ _
theorem af6 (s : ByteArray) : dx bo s = (dx j3 s && dx (fun b => !(b == 35)) s) := wj j3 _ s
theorem aqn {s : ByteArray} (h : dx j3 s = true) : ∀ (j : Nat) b, s.data.toList[j]? = some b → b.toNat < 128 := by
 intro j b hb
 have := List.all_eq_true.1 h b (List.mem_of_getElem? hb)
 simp [j3] at this; omega
theorem amm : ∀ (j : Nat) b, (⟨#[35, 64]⟩ : ByteArray).data.toList[j]? = some b → b.toNat < 128 := by
 intro j b hb
 have := List.mem_of_getElem? hb
 simp at this
 rcases this with rfl | rfl <;> decide
theorem alh (s : ByteArray) : (!(s.toList == (⟨#[]⟩ : ByteArray).toList)) = decide (1 ≤ s.size) := by
 rw [ab5, ab5, ← ga]
 cases s.data.toList with
 | nil => rfl
 | cons a l => simp
theorem mu (e : aw) (hc : e.Command.size ≤ 281474976710656) (hr : e.Reply.size ≤ 281474976710656) : Ctr Tryz.prog 34 [e.v] [] (.bool (ic e)) [] := by
 refine Ctr.intro Tryz.mixed Tryz.func34 rfl Tryz.a1i ?_
 refine ev2 @Tryz.ntmps34 @Tryz.results34 ?_
 refine ev1 @aw.v.eq_1 ?_
 (first | refine al.at (j1 _ _ _) ⟨leA, leA, leA, trivial⟩ ?_ | refine ah.at (j1 _ _ _) ⟨leA, leA, leA, trivial⟩ ?_)
 refine ev0 ?_
 refine ax.bu (fun g1 => ?_) (fun g1 => ?_) <;> refine ev1 @g1 ?_
 rotate_left
 · refine ak.aq ?_ (by rfl)
   simp [ez] at g1
   simp [ic]; omega
 have hs := gp.1 g1
 have b1 : decide (1 ≤ e.Command.size) = true := decide_eq_true (by omega)
 have b2 : decide (e.Command.size ≤ 160) = true := decide_eq_true (by omega)
 (have ct := ve e.Command hc; (first | refine al.at ct ⟨leA, trivial⟩ ?_ | refine ah.at ct ⟨leA, trivial⟩ ?_); clear ct)
 refine ev0 ?_
 refine ax.bu (fun g2 => ?_) (fun g2 => ?_) <;> refine ev1 @g2 ?_
 rotate_left
 · refine ak.aq ?_ (by rfl)
   simp [ic, agk, g2]
 (have ct := acs e.Command ⟨#[35, 64]⟩ (by omega) (by decide) (aqn g2) amm; (first | refine al.at ct ⟨leA, leA, trivial⟩ ?_ | refine ah.at ct ⟨leA, leA, trivial⟩ ?_); clear ct)
 simp -implicitDefEqProofs -dsimp only [go_sem, atz g2, Bool.not_not]
 refine ax.bu (fun g3 => ?_) (fun g3 => ?_) <;> refine ev1 @g3 ?_
 rotate_left
 · refine ak.aq ?_ (by rfl)
   simp [ic, agk, g2, g3]
 refine ax.bu (fun g4 => ?_) (fun g4 => ?_) <;> refine ev1 @g4 ?_
 rotate_left
 · refine ak.aq ?_ (by rfl)
   have : decide (e.Reply.size ≤ 200) = false := by simp at g4 ⊢; omega
   simp only [ic, this, Bool.false_and, Bool.and_false]
 have b3 : decide (e.Reply.size ≤ 200) = true := by simp at g4 ⊢; omega
 (have ct := ve e.Reply hr; (first | refine al.at ct ⟨leA, trivial⟩ ?_ | refine ah.at ct ⟨leA, trivial⟩ ?_); clear ct)
 refine ev0 ?_
 refine ax.bu (fun g5 => ?_) (fun g5 => ?_) <;> refine ev1 @g5 ?_
 rotate_left
 · refine ak.aq ?_ (by rfl)
   simp [ic, af6, g5]
 (have ct := va e.Reply 35; (first | refine al.at ct ⟨leA, leA, trivial⟩ ?_ | refine ah.at ct ⟨leA, leA, trivial⟩ ?_); clear ct)
 refine ev1 @sa ?_
 refine ak.aq ?_ (by rfl)
 simp only [ic, agk, af6, g2, g3, g5, b1, b2, b3, Bool.and_true, Bool.true_and, Bool.not_not]
 rfl
theorem uo (e : aw) (hc : e.Command.size ≤ 281474976710656) (hr : e.Reply.size ≤ 281474976710656) : Ctr Tryz.prog 39 [e.v] [] (.bool (ic e)) [] := by
 refine Ctr.intro Tryz.mixed Tryz.func39 rfl Tryz.a5o ?_
 refine ev2 @Tryz.ntmps39 @Tryz.results39 ?_
 refine ev2 @aw.v.eq_1 @alh ?_
 refine ax.bu (fun g1 => ?_) (fun g1 => ?_) <;> refine ev2 @g1 @alh ?_
 rotate_left
 · refine ak.aq ?_ (by rfl)
   simp only [ic, g1, Bool.false_and]
 (have ct := aba e.Command 160 hc; (first | refine al.at ct ⟨leA, leA, trivial⟩ ?_ | refine ah.at ct ⟨leA, leA, trivial⟩ ?_); clear ct)
 refine ev0 ?_
 refine ax.bu (fun g2 => ?_) (fun g2 => ?_) <;> refine ev2 @g2 @alh ?_
 rotate_left
 · refine ak.aq ?_ (by rfl)
   have : dx (fun b => bo b && !(b == 64)) e.Command = (dx bo e.Command && dx (fun b => !(b == 64)) e.Command) := wj _ _ _
   simp only [ic, this]
   by_cases k : e.Command.size ≤ 160
   · have : dx bo e.Command = false := by
      cases q : dx bo e.Command with
      | false => rfl
      | true => rw [q] at g2; simp at g2; omega
     simp [this]
   · simp [k]
 have g2' : dx bo e.Command = true ∧ e.Command.size ≤ 160 := by simp at g2; exact ⟨g2.1, by omega⟩
 (have ct := ajc e.Command 64 hc; (first | refine al.at ct ⟨leA, leA, trivial⟩ ?_ | refine ah.at ct ⟨leA, leA, trivial⟩ ?_); clear ct)
 refine ev1 @Bool.not_not ?_
 refine ax.bu (fun g3 => ?_) (fun g3 => ?_) <;> refine ev2 @g3 @alh ?_
 rotate_left
 · refine ak.aq ?_ (by rfl)
   have : dx (fun b => bo b && !(b == 64)) e.Command = (dx bo e.Command && dx (fun b => !(b == 64)) e.Command) := wj _ _ _
   simp only [ic, this, g3, Bool.and_false, Bool.false_and]
 (have ct := aba e.Reply 200 hr; (first | refine al.at ct ⟨leA, leA, trivial⟩ ?_ | refine ah.at ct ⟨leA, leA, trivial⟩ ?_); clear ct)
 refine ev0 ?_
 refine ak.aq ?_ (by rfl)
 have h4 : dx (fun b => bo b && !(b == 64)) e.Command = (dx bo e.Command && dx (fun b => !(b == 64)) e.Command) := wj _ _ _
 simp only [ic, h4, g3, g2'.1, g1, decide_eq_true g2'.2, Bool.and_true, Bool.true_and]
 congr 1
 have h6 : decide ((e.Reply.size : Int) ≤ 200) = decide (e.Reply.size ≤ 200) := by rw [Bool.eq_iff_iff]; simp; omega
 rw [h6, Bool.and_comm]
end Go.Proofs
end
section
set_option maxRecDepth 100000
set_option maxHeartbeats 1000000
namespace Go.Proofs
open Go.Lv
theorem y4 (p : UInt8 → Bool) (a b : ByteArray) : dx p (a ++ b) = (dx p a && dx p b) := by
 simp [dx, ByteArray.data_append]
theorem afu : ∀ (n u : Nat), u < n → dx (fun b => !(b == 35)) (num u) = true
 | 0, u, h => by omega
 | n + 1, u, h => by
  have one : ∀ d, d < 10 → dx (fun b => !(b == 35)) (digits.extract d (d + 1)) = true := by
   intro d hd
   rw [sy d hd]
   match d, hd with
   | 0, _ => decide
   | 1, _ => decide
   | 2, _ => decide
   | 3, _ => decide
   | 4, _ => decide
   | 5, _ => decide
   | 6, _ => decide
   | 7, _ => decide
   | 8, _ => decide
   | 9, _ => decide
  by_cases c : u < 10
  · rw [ahc c]; exact one u c
  · rw [ad9 c, y4, afu n (u / 10) (by omega), one (u % 10) (by omega)]; rfl
def adw (h : Int) (b : UInt8) : Int := (41 * h + b.toNat + 1) % 999979
def qj (s : ByteArray) (i : Nat) : Int := (s.data.toList.take i).foldl adw 7
def ckS (s : ByteArray) : Int := qj s s.size
theorem aae {s : ByteArray} {i : Nat} (h : i < s.size) : qj s (i + 1) = adw (qj s i) (s[i]'h) := by
 have hl : i < s.data.toList.length := h
 rw [qj, List.take_succ_eq_append_getElem hl, List.foldl_append, ← my s h]; rfl
theorem ag6 (s : ByteArray) : ∀ i, i ≤ s.size → 0 ≤ qj s i ∧ qj s i < 999979
 | 0, _ => by simp [qj]
 | i + 1, h => by
  rw [aae (by omega : i < s.size), adw]
  omega
theorem ag3 (s : ByteArray) : 0 ≤ ckS s ∧ ckS s < 999979 := ag6 s s.size (Nat.le_refl _)
theorem al8 {h : Int} {b : UInt8} (h0 : 0 ≤ h) : (41 * h + b.toNat + 1).tmod 999979 = adw h b := by
 rw [adw, Int.tmod_eq_emod_of_nonneg (by omega)]
theorem aik (s : ByteArray) (hs : s.size ≤ 4000) : Ctr Tryz.prog 154 [.str s] [] (.tup [.int .i64 (ckS s), .bool true]) [] := by
 refine Ctr.intro Tryz.mixed Tryz.func154 rfl Tryz.ayc ?_
 refine ev2 @Tryz.ntmps154 @Tryz.results154 ?_
 have c0 : decide ((4000 : Int) < s.size) = false := decide_eq_false (by omega)
 refine ev1 @c0 ?_
 refine dr.intro (fun i : Nat => i ≤ s.size) (fun i => ⟨(.str s :: (un 3 (.int .i64 (qj s i) :: (un 5 (.int .i64 s.size :: .int .i64 i :: (un 13 [])))))), [], 0⟩) (fun i => s.size - i) 0 (Nat.zero_le _) ?_ (fun i hi => ?_)
 · refine au.cut (0) (by simp) (by simp) ?_ ?_
   · simp [LeC, LeV, ren, bq, qj]
   · rfl
 refine ev0 ?_
 refine ay.split (fun h1 => ?_) (fun h1 => ?_)
 · refine ev1 @h1 ?_
   have hi' : i < s.size := by simpa using h1
   have hu := UInt8.toNat_lt (s[i]'hi')
   have hbd := ag6 s i hi
   have hw1 : IntKind.i64.wrap ((s[i]'hi').toNat : Int) = ((s[i]'hi').toNat : Int) := wrap_i64 (by omega) (by omega)
   have hw2 : IntKind.i64.wrap (41 * qj s i) = 41 * qj s i := wrap_i64 (by omega) (by omega)
   have hw3 : IntKind.i64.wrap (41 * qj s i + ((s[i]'hi').toNat : Int)) = 41 * qj s i + ((s[i]'hi').toNat : Int) := wrap_i64 (by omega) (by omega)
   have hw4 : IntKind.i64.wrap (41 * qj s i + ((s[i]'hi').toNat : Int) + 1) = 41 * qj s i + ((s[i]'hi').toNat : Int) + 1 := wrap_i64 (by omega) (by omega)
   have hq := al8 (b := s[i]'hi') hbd.1
   refine ⟨⟨by omega, hi'⟩, ?_⟩
   try refine ew5 @hw1 @hw2 @hw3 @hw4 @hq ?_
   repeat (with_reducible refine And.intro ?_ ?_; focus (first | omega | with_reducible rfl | (show cd _ = true; kernel_rfl) | (simp only [bb, bh, List.length_append, List.length_cons, List.length_nil, List.all_append, List.all_cons, List.all_nil, ck, Nat.mul_one, Nat.one_mul, Bool.and_self]; first | done | omega) | (simp only [ByteArray.size_append, ch, List.size_toArray, List.length_cons, List.length_nil]; omega)))
   refine ⟨i + 1, hi', ?_, by omega⟩
   refine au.cut (0) (by simp) (by simp) ?_ ?_
   · rw [aae hi']
     try rw [wrap_i64 (by omega) (by omega)]
     simp [LeC, LeV, ren, bq]
   · rfl
 · refine ev1 @h1 ?_
   have hi' : i = s.size := by simp at h1; omega
   subst hi'
   exact ak.aq rfl (by rfl)
theorem ah4 (s : ByteArray) (hs : s.size ≤ 4000) : Ctr Tryz.prog 136 [.str s] [] (.int .i64 (ckS s)) [] := by
 refine Ctr.intro Tryz.mixed Tryz.func136 rfl Tryz.ax2 ?_
 refine ev2 @Tryz.ntmps136 @Tryz.results136 ?_
 refine dr.intro (fun i : Nat => i ≤ s.size) (fun i => ⟨(.str s :: .undef :: .undef :: .int .i64 (qj s i) :: .int .i64 i :: (un 16 [])), [], 0⟩) (fun i => s.size - i) 0 (Nat.zero_le _) ?_ (fun i hi => ?_)
 · refine au.cut (0) (by simp) (by simp) ?_ ?_
   · simp [LeC, LeV, ren, bq, qj]
   · rfl
 refine ev0 ?_
 refine ay.split (fun h1 => ?_) (fun h1 => ?_)
 · refine ev1 @h1 ?_
   have hi' : i < s.size := by simpa using h1
   have hu := UInt8.toNat_lt (s[i]'hi')
   have hbd := ag6 s i hi
   have hw1 : IntKind.i64.wrap ((s[i]'hi').toNat : Int) = ((s[i]'hi').toNat : Int) := wrap_i64 (by omega) (by omega)
   have hw2 : IntKind.i64.wrap (41 * qj s i) = 41 * qj s i := wrap_i64 (by omega) (by omega)
   have hw3 : IntKind.i64.wrap (41 * qj s i + ((s[i]'hi').toNat : Int)) = 41 * qj s i + ((s[i]'hi').toNat : Int) := wrap_i64 (by omega) (by omega)
   have hw4 : IntKind.i64.wrap (41 * qj s i + ((s[i]'hi').toNat : Int) + 1) = 41 * qj s i + ((s[i]'hi').toNat : Int) + 1 := wrap_i64 (by omega) (by omega)
   have hq := al8 (b := s[i]'hi') hbd.1
   refine ⟨⟨by omega, hi'⟩, ?_⟩
   try refine ew5 @hw1 @hw2 @hw3 @hw4 @hq ?_
   repeat (with_reducible refine And.intro ?_ ?_; focus (first | omega | with_reducible rfl | (show cd _ = true; kernel_rfl) | (simp only [bb, bh, List.length_append, List.length_cons, List.length_nil, List.all_append, List.all_cons, List.all_nil, ck, Nat.mul_one, Nat.one_mul, Bool.and_self]; first | done | omega) | (simp only [ByteArray.size_append, ch, List.size_toArray, List.length_cons, List.length_nil]; omega)))
   refine ⟨i + 1, hi', ?_, by omega⟩
   refine au.cut (0) (by simp) (by simp) ?_ ?_
   · rw [aae hi']
     try rw [wrap_i64 (by omega) (by omega)]
     simp [LeC, LeV, ren, bq]
   · rfl
 · refine ev1 @h1 ?_
   have hi' : i = s.size := by simp at h1; omega
   subst hi'
   exact ak.aq rfl (by rfl)
def kp (s : ByteArray) : ByteArray := (s ++ ⟨#[35]⟩) ++ num (ckS s)
theorem aci (s : ByteArray) : (num (ckS s)).size ≤ 21 := by
 have := ag3 s
 exact jh (by omega) (by omega)
theorem iv (s : ByteArray) : (kp s).size ≤ s.size + 22 := by
 have := aci s
 unfold kp
 simp only [ByteArray.size_append, ch, List.size_toArray, List.length_cons, List.length_nil]; omega
theorem anz (s : ByteArray) (hs : s.size ≤ 4000) : Ctr Tryz.prog 103 [.str s] [] (.str (kp s)) [] := by
 have hc := ag3 s
 have hz := aci s
 refine Ctr.intro Tryz.mixed Tryz.func103 rfl Tryz.ayk ?_
 refine ev2 @Tryz.ntmps103 @Tryz.results103 ?_
 repeat (first | ((first | refine al.at (ah4 s hs) ⟨leA, trivial⟩ ?_ | refine ah.at (ah4 s hs) ⟨leA, trivial⟩ ?_); refine ev0 ?_) | ((have ct := fj (ckS s) (by omega) (by omega); (first | refine al.at ct ⟨leA, trivial⟩ ?_ | refine ah.at ct ⟨leA, trivial⟩ ?_); clear ct); refine ev0 ?_) | (with_reducible refine And.intro (by first | omega | (show cd _ = true; kernel_rfl) | (simp only [ByteArray.size_append, ch, List.size_toArray, List.length_cons, List.length_nil]; omega)) ?_; try refine ew0 ?_))
 exact ak.aq rfl (by rfl)
theorem ze (s : ByteArray) (hs : s.size ≤ 1000) (hp : dx (fun b => !(b == 35)) s = true) : Ctr Tryz.prog 118 [.str s] [] (.tup [.str (kp s), .bool true]) [] := by
 have hc := ag3 s
 have hz := aci s
 have hss := iv s
 have hno : decide (0 ≤ Lib.indexByte s.data.toList 35) = false := by
  rw [sa]
  show (!(dx (fun b => !(b == 35)) s)) = false
  rw [hp]; rfl
 have hlong : decide ((4000 : Int) < ((kp s).size : Int)) = false := decide_eq_false (by omega)
 refine Ctr.intro Tryz.mixed Tryz.func118 rfl Tryz.ayb ?_
 refine ev2 @Tryz.ntmps118 @Tryz.results118 ?_
 repeat (first | ((have ct := aik s (by omega); (first | refine al.at ct ⟨leA, trivial⟩ ?_ | refine ah.at ct ⟨leA, trivial⟩ ?_); clear ct); refine ev0 ?_) | ((have ct := n6 (ckS s) ⟨by omega, by omega⟩; (first | refine al.at ct ⟨leA, trivial⟩ ?_ | refine ah.at ct ⟨leA, trivial⟩ ?_); clear ct); refine ev0 ?_) | (with_reducible refine And.intro (by first | omega | (show cd _ = true; kernel_rfl) | (simp only [ByteArray.size_append, ch, List.size_toArray, List.length_cons, List.length_nil]; omega)) ?_; try refine ew0 ?_))
 (have ct := va s 35; (first | refine al.at ct ⟨leA, leA, trivial⟩ ?_ | refine ah.at ct ⟨leA, leA, trivial⟩ ?_); clear ct)
 have e : (s ++ (⟨#[35]⟩ : ByteArray)) ++ num (ckS s) = kp s := rfl
 rw [e]
 refine ev2 @hno @hlong ?_
 exact ak.aq rfl (by rfl)
def dd (k : Int) (e : aw) : ByteArray := (((num k ++ ⟨#[32]⟩) ++ e.Command) ++ ⟨#[64]⟩) ++ e.Reply
def cc (k : Int) (e : aw) : ByteArray := kp (dd k e) ++ ⟨#[10]⟩
theorem wy {e : aw} (h : ic e = true) : e.Command.size ≤ 160 ∧ e.Reply.size ≤ 200 ∧ dx (fun b => bo b && !(b == 64)) e.Command = true ∧ dx bo e.Reply = true ∧ 1 ≤ e.Command.size := by
 simp [ic] at h
 exact ⟨h.1.1.2, h.2.1, h.1.2, h.2.2, h.1.1.1⟩
theorem gi {k : Int} {e : aw} (hk : 0 ≤ k ∧ k ≤ 59) (h : ic e = true) : (dd k e).size ≤ 400 := by
 have := wy h
 have := jh (n := k) (by omega) (by omega)
 unfold dd
 simp only [ByteArray.size_append, ch, List.size_toArray, List.length_cons, List.length_nil]; omega
theorem ss {p q : UInt8 → Bool} {s : ByteArray} (h : dx p s = true) (hpq : ∀ b, p b = true → q b = true) : dx q s = true :=
 List.all_eq_true.2 fun x hx => hpq x (List.all_eq_true.1 h x hx)
theorem xb {k : Int} {e : aw} (hk : 0 ≤ k ∧ k ≤ 59) (h : ic e = true) : dx (fun b => !(b == 35)) (dd k e) = true := by
 obtain ⟨_, _, h3, h4, _⟩ := wy h
 obtain ⟨u, rfl⟩ := Int.eq_ofNat_of_zero_le hk.1
 have n1 : dx (fun b => !(b == 35)) (num (u : Int)) = true := afu (u + 1) u (by omega)
 have c1 : dx (fun b => !(b == 35)) e.Command = true := ss h3 (fun b hb => by simp [bo] at hb ⊢; exact hb.1.2)
 have c2 : dx (fun b => !(b == 35)) e.Reply = true := ss h4 (fun b hb => by simp [bo] at hb ⊢; exact hb.2)
 unfold dd
 simp only [y4, n1, c1, c2, Bool.true_and, Bool.and_true]
 rfl
def ak8 (k : Int) (e : aw) : List V := if ez k 0 59 = true ∧ ic e = true then [.str (cc k e), .bool true] else [.str ⟨#[]⟩, .bool false]
theorem s5 (k : Int) (e : aw) (hc : e.Command.size ≤ 281474976710656) (hr : e.Reply.size ≤ 281474976710656) : Ctr Tryz.prog 75 [.int .i64 k, e.v] [] (.tup (ak8 k e)) [] := by
 refine Ctr.intro Tryz.mixed Tryz.func75 rfl Tryz.a4y ?_
 refine ev2 @Tryz.ntmps75 @Tryz.results75 ?_
 refine ev1 @aw.v.eq_1 ?_
 (first | refine al.at (j1 k 0 59) ⟨leA, leA, leA, trivial⟩ ?_ | refine ah.at (j1 k 0 59) ⟨leA, leA, leA, trivial⟩ ?_)
 refine ev0 ?_
 refine ax.cq (fun g1 => ?_) (fun g1 => ?_) <;> refine ev1 @g1 ?_
 rotate_left
 · exact ak.aq (by rw [ak8, if_neg (by simp at g1; simp [g1])]) (by rfl)
 (have ct := mu e hc hr; (first | refine al.at ct ⟨leA, trivial⟩ ?_ | refine ah.at ct ⟨leA, trivial⟩ ?_); clear ct)
 refine ev0 ?_
 refine ay.split (fun g2 => ?_) (fun g2 => ?_) <;> refine ev1 @g2 ?_
 · exact ak.aq (by rw [ak8, if_neg (by simp at g2; simp [g2])]) (by rfl)
 have hk : ez k 0 59 = true := by simpa using g1
 have he : ic e = true := by simpa using g2
 have hk' := gp.1 hk
 have z1 := jh (n := k) (by omega) (by omega)
 have z2 := wy he
 have z3 := gi hk' he
 have z4 := iv (dd k e)
 have e1 : (((num k ++ (⟨#[32]⟩ : ByteArray)) ++ e.Command) ++ (⟨#[64]⟩ : ByteArray)) ++ e.Reply = dd k e := rfl
 repeat (first | ((have ct := n6 k ⟨by omega, by omega⟩; (first | refine al.at ct ⟨leA, trivial⟩ ?_ | refine ah.at ct ⟨leA, trivial⟩ ?_); clear ct); refine ev0 ?_) | (with_reducible refine And.intro (by first | omega | (show cd _ = true; kernel_rfl) | (simp only [ByteArray.size_append, ch, List.size_toArray, List.length_cons, List.length_nil]; omega)) ?_; try refine ew0 ?_))
 rw [e1]
 repeat (first | ((have ct := ze (dd k e) (by omega) (xb hk' he); (first | refine al.at ct ⟨leA, trivial⟩ ?_ | refine ah.at ct ⟨leA, trivial⟩ ?_); clear ct); refine ev0 ?_) | (with_reducible refine And.intro (by first | omega | (show cd _ = true; kernel_rfl) | (simp only [ByteArray.size_append, ch, List.size_toArray, List.length_cons, List.length_nil]; omega)) ?_; try refine ew0 ?_))
 exact ak.aq (by rw [ak8, if_pos ⟨hk, he⟩]; rfl) (by rfl)
theorem acz (k : Int) (e : aw) (hk : 0 ≤ k ∧ k ≤ 59) (he : ic e = true) : Ctr Tryz.prog 62 [.int .i64 k, e.v] [] (.str (cc k e)) [] := by
 have z1 := jh (n := k) (by omega) (by omega)
 have z2 := wy he
 have z3 := gi hk he
 have z4 := iv (dd k e)
 have e1 : (((num k ++ (⟨#[32]⟩ : ByteArray)) ++ e.Command) ++ (⟨#[64]⟩ : ByteArray)) ++ e.Reply = dd k e := rfl
 refine Ctr.intro Tryz.mixed Tryz.func62 rfl Tryz.a2c ?_
 refine ev2 @Tryz.ntmps62 @Tryz.results62 ?_
 refine ev1 @aw.v.eq_1 ?_
 repeat (first | ((have ct := fj k (by omega) (by omega); (first | refine al.at ct ⟨leA, trivial⟩ ?_ | refine ah.at ct ⟨leA, trivial⟩ ?_); clear ct); refine ev0 ?_) | (with_reducible refine And.intro (by first | omega | (show cd _ = true; kernel_rfl) | (simp only [ByteArray.size_append, ch, List.size_toArray, List.length_cons, List.length_nil]; omega)) ?_; try refine ew0 ?_))
 rw [e1]
 repeat (first | ((have ct := anz (dd k e) (by omega); (first | refine al.at ct ⟨leA, trivial⟩ ?_ | refine ah.at ct ⟨leA, trivial⟩ ?_); clear ct); refine ev0 ?_) | (with_reducible refine And.intro (by first | omega | (show cd _ = true; kernel_rfl) | (simp only [ByteArray.size_append, ch, List.size_toArray, List.length_cons, List.length_nil]; omega)) ?_; try refine ew0 ?_))
 exact ak.aq rfl (by rfl)
end Go.Proofs
end
section
set_option maxRecDepth 100000
set_option maxHeartbeats 1000000
namespace Go.Proofs
open Go.Lv
theorem ab6 (c : UInt8) (hc : c.toNat < 48) : ∀ (n u : Nat), u < n → noB c (num u) = true
 | 0, u, h => by omega
 | n + 1, u, h => by
  have one : ∀ d, d < 10 → noB c (digits.extract d (d + 1)) = true := by
   intro d hd
   rw [sy d hd]
   have hne : (UInt8.ofNat (48 + d) == c) = false := by
    rw [beq_eq_false_iff_ne]
    intro e
    have h1 : (UInt8.ofNat (48 + d)).toNat = c.toNat := by rw [e]
    rw [UInt8.toNat_ofNat'] at h1
    omega
   show (!(UInt8.ofNat (48 + d) == c) && true) = true
   rw [hne]; rfl
  by_cases h1 : u < 10
  · rw [ahc h1]; exact one u h1
  · rw [ad9 h1, noB, y4]
    have g1 := ab6 c hc n (u / 10) (by omega)
    have g2 := one (u % 10) (by omega)
    unfold noB at g1 g2
    rw [g1, g2]; rfl
def kx (line : ByteArray) : aw := ⟨bef 64 (aft 32 (bef 35 line)), aft 64 (aft 32 (bef 35 line))⟩
theorem atj (s : ByteArray) : kp s = s ++ (⟨#[35]⟩ ++ num (ckS s)) := by rw [kp, ByteArray.append_assoc]
theorem amh (k : Int) (e : aw) : dd k e = num k ++ (⟨#[32]⟩ ++ (e.Command ++ (⟨#[64]⟩ ++ e.Reply))) := by
 simp only [dd, ByteArray.append_assoc]
theorem ald {e : aw} (h : ic e = true) : noB 64 e.Command = true :=
 ss (wy h).2.2.1 (fun b hb => by simp at hb ⊢; exact hb.2)
theorem ai6 {k : Int} {e : aw} (hk : 0 ≤ k ∧ k ≤ 59) (h : ic e = true) : bef 35 (kp (dd k e)) = dd k e := by
 rw [atj]
 exact (q7 (xb hk h)).2.1
theorem aab {k : Int} {e : aw} (hk : 0 ≤ k ∧ k ≤ 59) (h : ic e = true) : kx (kp (dd k e)) = e := by
 obtain ⟨u, rfl⟩ := Int.eq_ofNat_of_zero_le hk.1
 have n1 : noB 32 (num (u : Int)) = true := ab6 32 (by decide) (u + 1) u (by omega)
 have a1 : aft 32 (dd u e) = e.Command ++ (⟨#[64]⟩ ++ e.Reply) := by
  rw [amh]; exact (q7 n1).2.2.1
 have c := q7 (y := e.Reply) (ald h)
 rw [kx, ai6 hk h, a1, c.2.1, c.2.2.1]
def aac (k : Int) (line : ByteArray) : Option aw := if ez k 0 59 = true ∧ ic (kx line) = true ∧ kp (dd k (kx line)) = line then some (kx line) else none
theorem nz {k : Int} {line : ByteArray} {e : aw} : aac k line = some e ↔ (0 ≤ k ∧ k ≤ 59) ∧ ic e = true ∧ kp (dd k e) = line := by
 unfold aac
 constructor
 · intro g
   split at g
   · rename_i c
     simp only [Option.some.injEq] at g
     subst g
     exact ⟨gp.1 c.1, c.2.1, c.2.2⟩
   · cases g
 · rintro ⟨hk, he, rfl⟩
   rw [aab hk he, if_pos ⟨gp.2 hk, he, rfl⟩]
theorem aau {k : Int} {line : ByteArray} (h : ∀ e, ¬ ((0 ≤ k ∧ k ≤ 59) ∧ ic e = true ∧ kp (dd k e) = line)) : aac k line = none := by
 cases g : aac k line with
 | none => rfl
 | some e => exact absurd (nz.1 g) (h e)
theorem append_right_inj {a b c : ByteArray} (h : a ++ c = b ++ c) : a = b := by
 apply sc
 have := congrArg (fun x : ByteArray => x.data.toList) h
 simp only [lv] at this
 exact List.append_cancel_right this
def ix (k : Int) (s : ByteArray) : Option (aw × Nat) := if fnd 10 s = true then (aac k (bef 10 s)).map fun e => (e, (bef 10 s).size + 1) else none
def xl (k : Int) (line R : ByteArray) : aw × Bool :=
 if (bef 64 R).size = R.size then (⟨⟨#[]⟩, ⟨#[]⟩⟩, false)
 else (⟨bef 64 R, R.extract ((bef 64 R).size + 1) R.size⟩, ic ⟨bef 64 R, R.extract ((bef 64 R).size + 1) R.size⟩ && decide (cc k ⟨bef 64 R, R.extract ((bef 64 R).size + 1) R.size⟩ = line ++ ⟨#[10]⟩))
def lz (k : Int) (line : ByteArray) : aw × Bool :=
 if (bef 35 line).size < (num k ++ (⟨#[32]⟩ : ByteArray)).size ∨ ¬ (bef 35 line).extract 0 (num k ++ (⟨#[32]⟩ : ByteArray)).size = num k ++ (⟨#[32]⟩ : ByteArray) then (⟨⟨#[]⟩, ⟨#[]⟩⟩, false)
 else xl k line ((bef 35 line).extract (num k ++ (⟨#[32]⟩ : ByteArray)).size (bef 35 line).size)
theorem aio {k : Int} {line : ByteArray} (hk : 0 ≤ k ∧ k ≤ 59) (h : (lz k line).2 = true) : aac k line = some (lz k line).1 := by
 unfold lz at h ⊢
 split
 · rename_i c; rw [if_pos c] at h; cases h
 · rename_i c
   rw [if_neg c] at h
   unfold xl at h ⊢
   split
   · rename_i c2; rw [if_pos c2] at h; cases h
   · rename_i c2
     rw [if_neg c2] at h
     simp only [Bool.and_eq_true, decide_eq_true_eq] at h
     exact nz.2 ⟨hk, h.1, append_right_inj h.2⟩
theorem ara (a b : ByteArray) : (a ++ b).extract 0 a.size = a := by
 apply sc
 rw [ep, lv, List.drop_zero]
 exact List.take_left' (ga a)
theorem aad (a b : ByteArray) : (a ++ b).extract a.size (a ++ b).size = b := by
 apply sc
 have hl : (a ++ b).size = (a ++ b).data.toList.length := rfl
 rw [ep, hl, List.take_length, lv]
 exact List.drop_left' (ga a)
theorem an4 {k : Int} {line : ByteArray} {e : aw} (h : aac k line = some e) : lz k line = (e, true) := by
 obtain ⟨hk, he, hl⟩ := nz.1 h
 have ht : bef 35 line = (num k ++ (⟨#[32]⟩ : ByteArray)) ++ (e.Command ++ (⟨#[64]⟩ ++ e.Reply)) := by
  rw [← hl, ai6 hk he, amh]
  simp only [ByteArray.append_assoc]
 have hs : ((num k ++ (⟨#[32]⟩ : ByteArray)) ++ (e.Command ++ (⟨#[64]⟩ ++ e.Reply))).size = (num k ++ (⟨#[32]⟩ : ByteArray)).size + (e.Command ++ (⟨#[64]⟩ ++ e.Reply)).size := ByteArray.size_append
 have c := q7 (y := e.Reply) (ald he)
 have hz : (e.Command ++ ((⟨#[64]⟩ : ByteArray) ++ e.Reply)).size = e.Command.size + (1 + e.Reply.size) := by
  rw [ByteArray.size_append, ByteArray.size_append]; rfl
 have hx : (e.Command ++ ((⟨#[64]⟩ : ByteArray) ++ e.Reply)).extract (e.Command.size + 1) (e.Command ++ ((⟨#[64]⟩ : ByteArray) ++ e.Reply)).size = e.Reply := by
  have h2 := aad (e.Command ++ (⟨#[64]⟩ : ByteArray)) e.Reply
  have h3 : (e.Command ++ (⟨#[64]⟩ : ByteArray)).size = e.Command.size + 1 := by rw [ByteArray.size_append]; rfl
  rw [h3, ByteArray.append_assoc] at h2
  exact h2
 have ee : (⟨e.Command, e.Reply⟩ : aw) = e := rfl
 unfold lz
 rw [ht, ara, aad, if_neg (by rw [hs]; simp), xl, c.2.1, if_neg (by rw [hz]; omega), hx, ee, he]
 have hr : cc k e = line ++ ⟨#[10]⟩ := by rw [cc, hl]
 rw [hr]
 simp
def rdN (s : ByteArray) : Nat → List aw × Nat
 | 0 => ([], 0)
 | n + 1 => match ix (rdN s n).1.length (s.extract (rdN s n).2 s.size) with
  | some r => ((rdN s n).1 ++ [r.1], (rdN s n).2 + r.2)
  | none => rdN s n
theorem j2 {s : ByteArray} {n : Nat} {r : aw × Nat} (h : ix (rdN s n).1.length (s.extract (rdN s n).2 s.size) = some r) : rdN s (n + 1) = ((rdN s n).1 ++ [r.1], (rdN s n).2 + r.2) := by rw [rdN, h]
theorem tc {s : ByteArray} {n : Nat} (h : ix (rdN s n).1.length (s.extract (rdN s n).2 s.size) = none) : rdN s (n + 1) = rdN s n := by rw [rdN, h]
theorem aaf {s : ByteArray} {n : Nat} (h : ix (rdN s n).1.length (s.extract (rdN s n).2 s.size) = none) : ∀ m, rdN s (n + m) = rdN s n
 | 0 => rfl
 | m + 1 => by
  have ih := aaf h m
  rw [← Nat.add_assoc, tc (by rw [ih]; exact h), ih]
theorem aee {c : UInt8} {s : ByteArray} (h : fnd c s = true) : (bef c s).size + 1 ≤ s.size := by
 obtain ⟨x, y, e, hx⟩ := yd h
 have h1 := (q7 (y := y) hx).2.1
 have h2 : (x ++ ((⟨#[c]⟩ : ByteArray) ++ y)).size = x.size + (1 + y.size) := by rw [ByteArray.size_append, ByteArray.size_append]; rfl
 rw [e, h1, h2]; omega
theorem wv {k : Int} {s : ByteArray} {r : aw × Nat} (h : ix k s = some r) : fnd 10 s = true ∧ aac k (bef 10 s) = some r.1 ∧ r.2 = (bef 10 s).size + 1 := by
 unfold ix at h
 split at h
 · rename_i c
   cases g : aac k (bef 10 s) with
   | none => rw [g] at h; cases h
   | some e =>
    rw [g] at h
    simp only [Option.map_some, Option.some.injEq] at h
    subst h
    exact ⟨c, rfl, rfl⟩
 · cases h
theorem aap {k : Int} {s : ByteArray} {r : aw × Nat} (h : ix k s = some r) : 1 ≤ r.2 ∧ r.2 ≤ s.size ∧ r.2 ≤ 423 := by
 obtain ⟨h1, h2, h3⟩ := wv h
 have := aee h1
 obtain ⟨hk, he, hl⟩ := nz.1 h2
 have g1 := gi hk he
 have g2 := iv (dd k r.1)
 rw [hl] at g2
 omega
theorem xw (s : ByteArray) : ∀ n, (rdN s n).2 ≤ s.size ∧ (rdN s n).2 ≤ 423 * (rdN s n).1.length ∧ (rdN s n).1.length ≤ n
 | 0 => by simp [rdN]
 | n + 1 => by
  have ih := xw s n
  cases h : ix (rdN s n).1.length (s.extract (rdN s n).2 s.size) with
  | none => rw [tc h]; omega
  | some r =>
   have hz := aap h
   rw [ByteArray.size_extract] at hz
   rw [j2 h]
   simp only [List.length_append, List.length_singleton]
   omega
theorem akh {k : Int} {s : ByteArray} {r : aw × Nat} (h : ix k s = some r) : 0 ≤ k ∧ k ≤ 59 := (nz.1 (wv h).2.1).1
theorem xp (s : ByteArray) : ∀ n, (rdN s n).1.length ≤ 60
 | 0 => by simp [rdN]
 | n + 1 => by
  have ih := xp s n
  cases h : ix (rdN s n).1.length (s.extract (rdN s n).2 s.size) with
  | none => rw [tc h]; exact ih
  | some r =>
   have hz := akh h
   rw [j2 h]
   simp only [List.length_append, List.length_singleton]
   omega
def cr (s : ByteArray) : List aw := (rdN s 60).1
def nj (s : ByteArray) : Nat := (rdN s 60).2
theorem vo {s : ByteArray} {i : Nat} (hl : (rdN s i).1.length = i) (h : ix i (s.extract (rdN s i).2 s.size) = none) : rdN s 60 = rdN s i := by
 have h60 := xp s i
 have := aaf (s := s) (n := i) (by rw [hl]; exact h) (60 - i)
 rw [← this]
 congr 1; omega
theorem ab3 {s : ByteArray} : ∀ {i j : Nat}, (rdN s i).1.length = i → j ≤ i → (rdN s j).1.length = j
 | 0, j, _, hj => by have : j = 0 := by omega
                     subst this; rfl
 | i + 1, j, h, hj => by
  by_cases e : j = i + 1
  · subst e; exact h
  · refine ab3 (i := i) ?_ (by omega)
    have hb := (xw s i).2.2
    cases g : ix (rdN s i).1.length (s.extract (rdN s i).2 s.size) with
    | none => rw [tc g] at h; omega
    | some r => rw [j2 g] at h; simp at h; exact h
def o1 (s : ByteArray) (i : Nat) : List Int := (List.range i).map fun j => ((rdN s (j + 1)).2 : Int)
theorem ai3 (s : ByteArray) (i : Nat) : o1 s (i + 1) = o1 s i ++ [((rdN s (i + 1)).2 : Int)] := by simp [o1, List.range_succ]
theorem x6 (s : ByteArray) (i : Nat) : (o1 s i).length = i := by simp [o1]
end Go.Proofs
end
section
set_option maxRecDepth 100000
set_option maxHeartbeats 2000000
namespace Go.Proofs
open Go.Lv
def aor : Option (aw × Nat) → V
 | some r => .tup [r.1.v, .int .i64 r.2, .bool true]
 | none => .tup [.agg [.str ⟨#[]⟩, .str ⟨#[]⟩], .int .i64 0, .bool false]
theorem aoc (k : Int) (s : ByteArray) (hs : s.size ≤ 16777216) : Ctr Tryz.prog 100 [.int .i64 k, .str s] [] (aor (ix k s)) [] := by
 have z1 := s9 10 s
 have z2 := s9 35 (bef 10 s)
 have z3 := ajd 32 (bef 35 (bef 10 s))
 have z4 := s9 64 (aft 32 (bef 35 (bef 10 s)))
 have z5 := ajd 64 (aft 32 (bef 35 (bef 10 s)))
 refine Ctr.intro Tryz.mixed Tryz.func100 rfl Tryz.ax0 ?_
 refine ev2 @Tryz.ntmps100 @Tryz.results100 ?_
 repeat (with_reducible refine And.intro ?_ ?_; focus (first | omega | with_reducible rfl | (show cd _ = true; kernel_rfl) | (simp only [bb, bh, List.length_append, List.length_cons, List.length_nil, List.all_append, List.all_cons, List.all_nil, ck, Nat.mul_one, Nat.one_mul, Bool.and_self]; first | done | omega) | (simp only [ByteArray.size_append, ch, List.size_toArray, List.length_cons, List.length_nil]; omega)))
 (have ct := af9 s 10 (by omega); (first | refine al.at ct ⟨leA, leA, trivial⟩ ?_ | refine ah.at ct ⟨leA, leA, trivial⟩ ?_); clear ct)
 refine ev0 ?_
 have no : ix k s = none → ∀ h, ak 0 (.tup [.agg [.str ByteArray.empty, .str ByteArray.empty], .int .i64 0, .bool false]) h (aor (ix k s)) [] := fun e h => ak.aq (by rw [e]; rfl) (by rfl)
 cases hf : fnd 10 s with
 | false =>
  have hn : ix k s = none := by rw [ix, hf]; rfl
  refine ev2 @hf @Bool.not_false ?_
  repeat (with_reducible refine And.intro ?_ ?_; focus (first | omega | with_reducible rfl | (show cd _ = true; kernel_rfl) | (simp only [bb, bh, List.length_append, List.length_cons, List.length_nil, List.all_append, List.all_cons, List.all_nil, ck, Nat.mul_one, Nat.one_mul, Bool.and_self]; first | done | omega) | (simp only [ByteArray.size_append, ch, List.size_toArray, List.length_cons, List.length_nil]; omega)))
  exact no hn _
 | true =>
  have hd : ix k s = (aac k (bef 10 s)).map fun e => (e, (bef 10 s).size + 1) := by rw [ix, if_pos hf]
  have hsz := aee hf
  refine ev2 @hf @Bool.not_true ?_
  refine ay.split (fun g1 => ?_) (fun g1 => ?_) <;> refine rs1 @g1 ?_
  · refine no ?_ _
    rw [hd, aau]
    · rfl
    · rintro e ⟨hk, he, hl⟩
      have := gi hk he
      have := iv (dd k e)
      rw [hl] at this
      simp at g1
      omega
  (have ct := af9 (bef 10 s) 35 (by omega); (first | refine al.at ct ⟨leA, leA, trivial⟩ ?_ | refine ah.at ct ⟨leA, leA, trivial⟩ ?_); clear ct)
  refine ev0 ?_
  (have ct := af9 (bef 35 (bef 10 s)) 32 (by omega); (first | refine al.at ct ⟨leA, leA, trivial⟩ ?_ | refine ah.at ct ⟨leA, leA, trivial⟩ ?_); clear ct)
  refine ev0 ?_
  (have ct := af9 (aft 32 (bef 35 (bef 10 s))) 64 (by omega); (first | refine al.at ct ⟨leA, leA, trivial⟩ ?_ | refine ah.at ct ⟨leA, leA, trivial⟩ ?_); clear ct)
  refine rs0 ?_
  have hE := s5 k (kx (bef 10 s)) (by show (bef 64 _).size ≤ _; omega) (by show (aft 64 _).size ≤ _; omega)
  have pc : (kx (bef 10 s)).Command = bef 64 (aft 32 (bef 35 (bef 10 s))) := rfl
  have pr : (kx (bef 10 s)).Reply = aft 64 (aft 32 (bef 35 (bef 10 s))) := rfl
  by_cases hc : ez k 0 59 = true ∧ ic (kx (bef 10 s)) = true
  · rw [ak8, if_pos hc] at hE
    have t1 := gi (gp.1 hc.1) hc.2
    have t2 := iv (dd k (kx (bef 10 s)))
    have t3 : (cc k (kx (bef 10 s))).size = (kp (dd k (kx (bef 10 s)))).size + 1 := by rw [cc, ByteArray.size_append]; rfl
    (first | refine al.at (hE) ⟨leA, leA, trivial⟩ ?_ | refine ah.at (hE) ⟨leA, leA, trivial⟩ ?_)
    refine rs1 @gw ?_
    by_cases hq : cc k (kx (bef 10 s)) = bef 10 s ++ ⟨#[10]⟩
    · have hdq : decide (cc k (kx (bef 10 s)) = bef 10 s ++ (⟨#[10]⟩ : ByteArray)) = true := decide_eq_true hq
      have hs' : aac k (bef 10 s) = some (kx (bef 10 s)) := nz.2 ⟨gp.1 hc.1, hc.2, append_right_inj hq⟩
      refine rs2 @hdq @Bool.not_true ?_
      refine ak.aq ?_ (by rfl)
      rw [hd, hs']
      simp only [Option.map_some, aor, aw.v, pc, pr]
      rfl
    · have hdq : decide (cc k (kx (bef 10 s)) = bef 10 s ++ (⟨#[10]⟩ : ByteArray)) = false := decide_eq_false hq
      have hn : ix k s = none := by
       rw [hd, aau]
       · rfl
       · rintro e ⟨hk, he, hl⟩
         have := aab hk he
         rw [hl] at this
         rw [this] at hq
         exact hq (by rw [cc, hl])
      refine rs2 @hdq @Bool.not_false ?_
      exact no hn _
  · rw [ak8, if_neg hc] at hE
    have hn : ix k s = none := by
     rw [hd, aau]
     · rfl
     · rintro e ⟨hk, he, hl⟩
       have := aab hk he
       rw [hl] at this
       rw [this] at hc
       exact hc ⟨gp.2 hk, he⟩
    (first | refine al.at (hE) ⟨leA, leA, trivial⟩ ?_ | refine ah.at (hE) ⟨leA, leA, trivial⟩ ?_)
    refine rs1 @Bool.not_false ?_
    exact no hn _
def aq5 (s : ByteArray) : V := .tup [.osl 0 0 (cr s).length 2, .osl 1 0 (cr s).length 1]
def ap4 (s : ByteArray) : Hp := [some (rows aw.cs (cr s)), some (rows IntS.cs (o1 s (cr s).length))]
theorem ath (s : ByteArray) (hs : s.size ≤ 16777216) : Ctr Tryz.prog 58 [.str s] [] (aq5 s) (ap4 s) := by
 refine Ctr.intro Tryz.mixed Tryz.func58 rfl Tryz.a32 ?_
 refine ev2 @Tryz.ntmps58 @Tryz.results58 ?_
 refine dr.intro (fun i : Nat => (rdN s i).1.length = i) (fun i => ⟨(.str s :: (un 3 (.osl 0 0 i 2 :: .osl 1 0 i 1 :: .int .i64 (rdN s i).2 :: (un 30 [])))), [some (rows aw.cs (rdN s i).1), some (rows IntS.cs (o1 s i))], 0⟩) (fun i => 61 - i) 0 rfl ?_ (fun i hi => ?_)
 · refine au.cut (2) (by simp) (by simp) ?_ ?_
   · simp [LeC, LeV, ren, bq, rdN]
   · simp [bz, cw, rdN, rows, o1]
 have hb := xw s i
 have h60 := xp s i
 have hez : (s.extract (rdN s i).2 s.size).size ≤ 16777216 := by rw [ByteArray.size_extract]; omega
 have hen := x6 s i
 rw [hi] at h60
 refine ev0 ?_
 repeat (with_reducible refine And.intro ?_ ?_; focus (first | omega | with_reducible rfl | (show cd _ = true; kernel_rfl) | (simp only [bb, bh, List.length_append, List.length_cons, List.length_nil, List.all_append, List.all_cons, List.all_nil, ck, Nat.mul_one, Nat.one_mul, Bool.and_self]; first | done | omega) | (simp only [ByteArray.size_append, ch, List.size_toArray, List.length_cons, List.length_nil]; omega)))
 (have ct := aoc (i : Int) (s.extract (rdN s i).2 s.size) hez; (first | refine al.at ct ⟨leA, leA, trivial⟩ ?_ | refine ah.at ct ⟨leA, leA, trivial⟩ ?_); clear ct)
 cases hd : ix (i : Int) (s.extract (rdN s i).2 s.size) with
 | none =>
  have e := vo hi hd
  (repeat ((repeat1' (first | simp -implicitDefEqProofs -dsimp only [go_sem, aor, Bool.not_false] | simp -dsimp (disch := omega) only [wrap_i64])); repeat (with_reducible refine And.intro ?_ ?_; focus (first | omega | with_reducible rfl | (show cd _ = true; kernel_rfl) | (simp only [bb, bh, List.length_append, List.length_cons, List.length_nil, List.all_append, List.all_cons, List.all_nil, ck, Nat.mul_one, Nat.one_mul, Bool.and_self]; first | done | omega) | (simp only [ByteArray.size_append, ch, List.size_toArray, List.length_cons, List.length_nil]; omega)))))
  have e1 : cr s = (rdN s i).1 := by rw [cr, e]
  rw [aq5, ap4, e1, hi]
  refine ak.pick [0, 1] (by decide) (fun j hj => by omega) (.inl ?_) ?_
  · first | rfl | (simp [ren, bc, posOf]; done)
  · simp only [az, List.map_cons, List.map_nil, bg, List.getElem?_cons_zero, List.getElem?_cons_succ, ae]
 | some r =>
  have hz := aap hd
  rw [ByteArray.size_extract] at hz
  have hk := akh hd
  have hS : rdN s (i + 1) = ((rdN s i).1 ++ [r.1], (rdN s i).2 + r.2) := j2 (by rw [hi]; exact hd)
  (repeat ((repeat1' (first | simp -implicitDefEqProofs -dsimp only [go_sem, aor, Bool.not_true, aw.v] | simp -dsimp (disch := omega) only [wrap_i64])); repeat (with_reducible refine And.intro ?_ ?_; focus (first | omega | with_reducible rfl | (show cd _ = true; kernel_rfl) | (simp only [bb, bh, List.length_append, List.length_cons, List.length_nil, List.all_append, List.all_cons, List.all_nil, ck, Nat.mul_one, Nat.one_mul, Bool.and_self]; first | done | omega) | (simp only [ByteArray.size_append, ch, List.size_toArray, List.length_cons, List.length_nil]; omega)))))
  refine ⟨i + 1, by rw [hS]; simp [hi], ?_, by omega⟩
  have e2 := ai3 s i
  rw [hS] at e2
  refine au.cut (2) (by simp) (by simp) ?_ ?_
  · rw [hS]; simp [LeC, LeV, ren, bq]
  · rw [e2, hS, ← dw, ← dw]
    simp [bz, cw, ren, bq, ae, dk, nq, aw.cs, IntS.cs]
theorem aj9 (k : Int) (s : ByteArray) (hk : 0 ≤ k ∧ k ≤ 59) (hs : s.size ≤ 16777216) : Ctr Tryz.prog 131 [.str s, .int .i64 k] [] (.tup [(lz k s).1.v, .bool (lz k s).2]) [] := by
 have n1 := jh (n := k) (by omega) (by omega)
 have z2 := s9 35 s
 obtain ⟨l, hl, _⟩ := s6 35 s
 have hsp := ue s 35 hs
 rw [hl] at hsp
 have c35 : (((35 : UInt8).toNat : Nat) : Int) = 35 := rfl
 have c64 : (((64 : UInt8).toNat : Nat) : Int) = 64 := rfl
 rw [c35] at hsp
 refine Ctr.intro Tryz.mixed Tryz.func131 rfl Tryz.axn ?_
 refine ev2 @Tryz.ntmps131 @Tryz.results131 ?_
 repeat (with_reducible refine And.intro ?_ ?_; focus (first | omega | with_reducible rfl | (show cd _ = true; kernel_rfl) | (simp only [bb, bh, List.length_append, List.length_cons, List.length_nil, List.all_append, List.all_cons, List.all_nil, ck, Nat.mul_one, Nat.one_mul, Bool.and_self]; first | done | omega) | (simp only [ByteArray.size_append, ch, List.size_toArray, List.length_cons, List.length_nil]; omega)))
 repeat (first | ((have ct := fj k (by omega) (by omega); (first | refine al.at ct ⟨leA, trivial⟩ ?_ | refine ah.at ct ⟨leA, trivial⟩ ?_); clear ct); refine ev0 ?_) | (with_reducible refine And.intro (by first | omega | (show cd _ = true; kernel_rfl) | (simp only [ByteArray.size_append, ch, List.size_toArray, List.length_cons, List.length_nil]; omega)) ?_; try refine ew0 ?_))
 (first | refine al.at (hsp) ⟨leA, leA, trivial⟩ ?_ | refine ah.at (hsp) ⟨leA, leA, trivial⟩ ?_)
 refine rs3 @List.length_cons.{0} @fq @StringS.cs.eq_1 ?_
 have h32 : ((#[32] : Array UInt8).size) = 1 := rfl
 have hN : (num k ++ (⟨#[32]⟩ : ByteArray)).size = (num k).size + 1 := ByteArray.size_append
 rw [h32]
 refine ax.cq (fun g1 => ?_) (fun g1 => ?_) <;> refine ev2 @g1 @h32 ?_
 rotate_left
 · repeat (with_reducible refine And.intro ?_ ?_; focus (first | omega | with_reducible rfl | (show cd _ = true; kernel_rfl) | (simp only [bb, bh, List.length_append, List.length_cons, List.length_nil, List.all_append, List.all_cons, List.all_nil, ck, Nat.mul_one, Nat.one_mul, Bool.and_self]; first | done | omega) | (simp only [ByteArray.size_append, ch, List.size_toArray, List.length_cons, List.length_nil]; omega)))
   refine ak.aq ?_ (by rfl)
   rw [lz, if_pos (.inl (by rw [hN]; simp at g1; omega))]
   rfl
 repeat (with_reducible refine And.intro ?_ ?_; focus (first | omega | with_reducible rfl | (show cd _ = true; kernel_rfl) | (simp only [bb, bh, List.length_append, List.length_cons, List.length_nil, List.all_append, List.all_cons, List.all_nil, ck, Nat.mul_one, Nat.one_mul, Bool.and_self]; first | done | omega) | (simp only [ByteArray.size_append, ch, List.size_toArray, List.length_cons, List.length_nil]; omega)))
 refine ev1 @gw ?_
 have g1' : (num k).size + 1 ≤ (bef 35 s).size := by simp at g1; omega
 refine ⟨by omega, ?_⟩
 refine ay.split (fun g2 => ?_) (fun g2 => ?_) <;> refine ev2 @g2 @h32 ?_
 · repeat (with_reducible refine And.intro ?_ ?_; focus (first | omega | with_reducible rfl | (show cd _ = true; kernel_rfl) | (simp only [bb, bh, List.length_append, List.length_cons, List.length_nil, List.all_append, List.all_cons, List.all_nil, ck, Nat.mul_one, Nat.one_mul, Bool.and_self]; first | done | omega) | (simp only [ByteArray.size_append, ch, List.size_toArray, List.length_cons, List.length_nil]; omega)))
   refine ak.aq ?_ (by rfl)
   rw [lz, if_pos (.inr (by rw [hN]; simpa using g2))]
   rfl
 have hno : ¬ ((bef 35 s).size < (num k ++ (⟨#[32]⟩ : ByteArray)).size ∨ ¬ (bef 35 s).extract 0 (num k ++ (⟨#[32]⟩ : ByteArray)).size = num k ++ (⟨#[32]⟩ : ByteArray)) := by
  rw [hN]
  rintro (q | q)
  · omega
  · simp at g2; exact q g2
 have hP : lz k s = xl k s ((bef 35 s).extract ((num k).size + 1) (bef 35 s).size) := by rw [lz, if_neg hno, hN]
 have hRs : ((bef 35 s).extract ((num k).size + 1) (bef 35 s).size).size ≤ s.size := by rw [ByteArray.size_extract]; omega
 repeat (with_reducible refine And.intro ?_ ?_; focus (first | omega | with_reducible rfl | (show cd _ = true; kernel_rfl) | (simp only [bb, bh, List.length_append, List.length_cons, List.length_nil, List.all_append, List.all_cons, List.all_nil, ck, Nat.mul_one, Nat.one_mul, Bool.and_self]; first | done | omega) | (simp only [ByteArray.size_append, ch, List.size_toArray, List.length_cons, List.length_nil]; omega)))
 generalize hR : (bef 35 s).extract ((num k).size + 1) (bef 35 s).size = R at hP hRs ⊢
 have hz4 := s9 64 R
 obtain ⟨l2, hl2, _⟩ := s6 64 R
 have hsp2 := ue R 64 (by omega)
 rw [hl2, c64] at hsp2
 (first | refine al.at (hsp2) ⟨leA, leA, trivial⟩ ?_ | refine ah.at (hsp2) ⟨leA, leA, trivial⟩ ?_)
 refine rs3 @List.length_cons.{0} @fq @StringS.cs.eq_1 ?_
 refine ay.split (fun g3 => ?_) (fun g3 => ?_) <;> refine ev1 @g3 ?_
 · repeat (with_reducible refine And.intro ?_ ?_; focus (first | omega | with_reducible rfl | (show cd _ = true; kernel_rfl) | (simp only [bb, bh, List.length_append, List.length_cons, List.length_nil, List.all_append, List.all_cons, List.all_nil, ck, Nat.mul_one, Nat.one_mul, Bool.and_self]; first | done | omega) | (simp only [ByteArray.size_append, ch, List.size_toArray, List.length_cons, List.length_nil]; omega)))
   refine ak.aq ?_ (by rfl)
   rw [hP, xl, if_pos (by simp at g3; omega)]
   rfl
 have g3' : (bef 64 R).size + 1 ≤ R.size := by simp at g3; omega
 have hP2 : xl k s R = (⟨bef 64 R, R.extract ((bef 64 R).size + 1) R.size⟩, ic ⟨bef 64 R, R.extract ((bef 64 R).size + 1) R.size⟩ && decide (cc k ⟨bef 64 R, R.extract ((bef 64 R).size + 1) R.size⟩ = s ++ ⟨#[10]⟩)) := by
  rw [xl, if_neg (by omega)]
 have hq : IntKind.i64.wrap (((bef 64 R).size : Int) + 1) = (((bef 64 R).size + 1 : Nat) : Int) := by rw [wrap_i64 (by omega) (by omega)]; omega
 have hEz : (R.extract ((bef 64 R).size + 1) R.size).size ≤ R.size := by rw [ByteArray.size_extract]; omega
 refine rs1 @hq ?_
 have hE1 : R.extract (IntKind.i64.wrap (((bef 64 R).size : Int) + 1)).toNat R.size = R.extract ((bef 64 R).size + 1) R.size := by rw [hq]; rfl
 rw [hE1]
 generalize hE : R.extract ((bef 64 R).size + 1) R.size = E at hP2 hEz ⊢
 (first | refine al.at (uo ⟨bef 64 R, E⟩ (by show (bef 64 R).size ≤ _; omega) (by show E.size ≤ _; omega)) ⟨leA, trivial⟩ ?_ | refine ah.at (uo ⟨bef 64 R, E⟩ (by show (bef 64 R).size ≤ _; omega) (by show E.size ≤ _; omega)) ⟨leA, trivial⟩ ?_)
 cases hb : ic ⟨bef 64 R, E⟩ with
 | false =>
  refine ev0 ?_
  repeat (with_reducible refine And.intro ?_ ?_; focus (first | omega | with_reducible rfl | (show cd _ = true; kernel_rfl) | (simp only [bb, bh, List.length_append, List.length_cons, List.length_nil, List.all_append, List.all_cons, List.all_nil, ck, Nat.mul_one, Nat.one_mul, Bool.and_self]; first | done | omega) | (simp only [ByteArray.size_append, ch, List.size_toArray, List.length_cons, List.length_nil]; omega)))
  refine ak.aq ?_ (by rfl)
  rw [hP, hP2, hb]
  rfl
 | true =>
  have t1 := gi hk hb
  have t2 := iv (dd k ⟨bef 64 R, E⟩)
  refine ev0 ?_
  have hLn := acz k ⟨bef 64 R, E⟩ hk hb
  simp only [aw.v] at hLn
  (first | refine al.at (hLn) ⟨leA, leA, trivial⟩ ?_ | refine ah.at (hLn) ⟨leA, leA, trivial⟩ ?_)
  refine rs1 @gw ?_
  refine ak.aq ?_ (by rfl)
  rw [hP, hP2, hb, Bool.true_and]
  rfl
end Go.Proofs
end
section
set_option maxRecDepth 100000
set_option maxHeartbeats 2000000
namespace Go.Proofs
open Go.Lv
def acu (s : ByteArray) : V := .tup [.osl 0 0 (cr s).length 2, .int .i64 (nj s)]
def acn (s : ByteArray) : Hp := [some (rows aw.cs (cr s))]
theorem x7 {k : Int} {s : ByteArray} (h : s.size = 0) : ix k s = none := by
 cases g : ix k s with
 | none => rfl
 | some r => have := aap g; omega
theorem aca (s : ByteArray) (hs : s.size ≤ 16777216) : Ctr Tryz.prog 99 [.str s] [] (acu s) (acn s) := by
 refine Ctr.intro Tryz.mixed Tryz.func99 rfl Tryz.a36 ?_
 refine ev2 @Tryz.ntmps99 @Tryz.results99 ?_
 refine dr.intro (fun i : Nat => (rdN s i).1.length = i) (fun i => ⟨(.str s :: (un 3 (.osl 0 0 i 2 :: .int .i64 (rdN s i).2 :: (un 46 [])))), [some (rows aw.cs (rdN s i).1)], 0⟩) (fun i => 61 - i) 0 rfl ?_ (fun i hi => ?_)
 · refine au.cut (1) (by simp) (by simp) ?_ ?_
   · simp [LeC, LeV, ren, bq, rdN]
   · simp [bz, cw, rdN, rows]
 have hb := xw s i
 have h60 := xp s i
 have hez : (s.extract (rdN s i).2 s.size).size ≤ 16777216 := by rw [ByteArray.size_extract]; omega
 rw [hi] at h60
 have stop : ix (i : Int) (s.extract (rdN s i).2 s.size) = none → (cr s = (rdN s i).1 ∧ nj s = (rdN s i).2) := fun hd => by
  have e := vo hi hd
  exact ⟨by rw [cr, e], by rw [nj, e]⟩
 refine ev0 ?_
 refine ax.bu (fun g1 => ?_) (fun g1 => ?_) <;> refine ev1 @g1 ?_
 rotate_left
 · obtain ⟨e1, e2⟩ := stop (x7 (by rw [ByteArray.size_extract]; simp at g1; omega))
   rw [acu, acn, e1, e2, hi]
   refine ak.pick [0] (by decide) (fun j hj => by omega) (.inl ?_) ?_
   · first | rfl | (simp [ren, bc, posOf]; done)
   · simp only [az, List.map_cons, List.map_nil, bg, List.getElem?_cons_zero, List.getElem?_cons_succ, ae]
 refine ay.split (fun g2 => ?_) (fun g2 => ?_) <;> refine ev1 @g2 ?_
 rotate_left
 · have hn : ix (i : Int) (s.extract (rdN s i).2 s.size) = none := by
    cases g : ix (i : Int) (s.extract (rdN s i).2 s.size) with
    | none => rfl
    | some r => have := akh g; simp at g2; omega
   obtain ⟨e1, e2⟩ := stop hn
   rw [acu, acn, e1, e2, hi]
   refine ak.pick [0] (by decide) (fun j hj => by omega) (.inl ?_) ?_
   · first | rfl | (simp [ren, bc, posOf]; done)
   · simp only [az, List.map_cons, List.map_nil, bg, List.getElem?_cons_zero, List.getElem?_cons_succ, ae]
 have hk : (0 : Int) ≤ (i : Int) ∧ (i : Int) ≤ 59 := by simp at g2; omega
 repeat (with_reducible refine And.intro ?_ ?_; focus (first | omega | with_reducible rfl | (show cd _ = true; kernel_rfl) | (simp only [bb, bh, List.length_append, List.length_cons, List.length_nil, List.all_append, List.all_cons, List.all_nil, ck, Nat.mul_one, Nat.one_mul, Bool.and_self]; first | done | omega) | (simp only [ByteArray.size_append, ch, List.size_toArray, List.length_cons, List.length_nil]; omega)))
 generalize hR : s.extract (rdN s i).2 s.size = R at hez stop ⊢
 obtain ⟨l, hl, hl0⟩ := s6 10 R
 have hsp := ue R 10 hez
 have c10 : (((10 : UInt8).toNat : Nat) : Int) = 10 := rfl
 rw [hl, c10] at hsp
 (first | refine al.at (hsp) ⟨leA, leA, trivial⟩ ?_ | refine ah.at (hsp) ⟨leA, leA, trivial⟩ ?_)
 have hz := s9 10 R
 refine rs3 @List.length_cons.{0} @fq @StringS.cs.eq_1 ?_
 (have ct := aj9 (i : Int) (bef 10 R) hk (by omega); (first | refine al.at ct ⟨leA, leA, trivial⟩ ?_ | refine ah.at ct ⟨leA, leA, trivial⟩ ?_); clear ct)
 refine rs1 @aw.v.eq_1 ?_
 refine ax.cq (fun g3 => ?_) (fun g3 => ?_) <;> refine ev1 @g3 ?_
 rotate_left
 · have hf : fnd 10 R = false := hl0.1 (by
    cases l with
    | nil => rfl
    | cons a l => simp at g3; omega)
   obtain ⟨e1, e2⟩ := stop (by rw [ix, hf]; rfl)
   rw [acu, acn, e1, e2, hi]
   refine ak.pick [0] (by decide) (fun j hj => by omega) (.inl ?_) ?_
   · first | rfl | (simp [ren, bc, posOf]; done)
   · simp only [az, List.map_cons, List.map_nil, bg, List.getElem?_cons_zero, List.getElem?_cons_succ, ae]
 have hf : fnd 10 R = true := by
  cases q : fnd 10 R with
  | true => rfl
  | false => rw [hl0.2 q] at g3; simp at g3
 have hd : ix (i : Int) R = (aac (i : Int) (bef 10 R)).map fun e => (e, (bef 10 R).size + 1) := by rw [ix, if_pos hf]
 have hfs := aee hf
 have hRs : R.size + (rdN s i).2 ≤ s.size := by
  rw [← hR, ByteArray.size_extract]; omega
 refine ay.split (fun g4 => ?_) (fun g4 => ?_)
 · refine ev1 @g4 ?_
   have hp : (lz (i : Int) (bef 10 R)).2 = false := by simpa using g4
   obtain ⟨e1, e2⟩ := stop (by
    rw [hd]
    cases q : aac (i : Int) (bef 10 R) with
    | none => rfl
    | some e => rw [an4 q] at hp; cases hp)
   rw [acu, acn, e1, e2, hi]
   refine ak.pick [0] (by decide) (fun j hj => by omega) (.inl ?_) ?_
   · first | rfl | (simp [ren, bc, posOf]; done)
   · simp only [az, List.map_cons, List.map_nil, bg, List.getElem?_cons_zero, List.getElem?_cons_succ, ae]
 · have hp : (lz (i : Int) (bef 10 R)).2 = true := by simpa using g4
   have hs' := aio hk hp
   rw [hs'] at hd
   have hS : rdN s (i + 1) = ((rdN s i).1 ++ [(lz (i : Int) (bef 10 R)).1], (rdN s i).2 + ((bef 10 R).size + 1)) := j2 (r := ((lz (i : Int) (bef 10 R)).1, (bef 10 R).size + 1)) (by rw [hi, hR, hd]; rfl)
   refine rs8 @g4 @bb @bh @hi @Nat.mul_one @List.length_cons.{0} @fq @StringS.cs.eq_1 ?_
   refine ⟨i + 1, by rw [hS]; simp [hi], ?_, by omega⟩
   refine au.cut (1) (by simp) (by simp) ?_ ?_
   · rw [hS]; (simp [LeC, LeV, ren, bq]; try omega)
   · rw [hS, ← dw]
     simp [bz, cw, ren, bq, ae, dk, nq, aw.cs]
end Go.Proofs
end
section
set_option maxRecDepth 100000
namespace Go.Proofs
open Go.Lv
structure Log where
 Durable : ByteArray
 Pending : ByteArray
 Count : Int
def Log.cs (r : Log) : List V := [.str r.Durable, .str r.Pending, .int .i64 r.Count]
def Log.v (r : Log) : V := .agg [.str r.Durable, .str r.Pending, .int .i64 r.Count]
theorem Log.csl (a : Log) : a.cs.length = 3 := rfl
instance : qp Log.cs 3 := ⟨fun _ => rfl, fun _ d => by cases d <;> rfl, fun _ => rfl, fun _ => rfl⟩
def Log.ok (r : Log) : Prop := ao5 r.Durable ∧ ao5 r.Pending ∧ bt r.Count
abbrev Log.rows (L : List Log) : List V := Go.Lv.rows Log.cs L
abbrev Log.sl (L : List Log) : V := .sl L.length 3 (Go.Lv.rows Log.cs L)
abbrev Log.zs : List V := [.str ByteArray.empty, .str ByteArray.empty, .int .i64 0]
end Go.Proofs
end
section
set_option maxRecDepth 100000
set_option maxHeartbeats 2000000
namespace Go.Proofs
open Go.Lv
theorem al6 (s : ByteArray) : ∃ i, i ≤ 60 ∧ (rdN s i).1.length = i ∧ rdN s 60 = rdN s i ∧ ix i (s.extract (rdN s i).2 s.size) = none := by
 have key : ∀ m, (rdN s m).1.length = m ∨ ∃ i, (rdN s i).1.length = i ∧ ix i (s.extract (rdN s i).2 s.size) = none := by
  intro m
  induction m with
  | zero => exact .inl rfl
  | succ m ih =>
   rcases ih with h | h
   · cases g : ix (m : Int) (s.extract (rdN s m).2 s.size) with
     | none => exact .inr ⟨m, h, g⟩
     | some r =>
      refine .inl ?_
      rw [j2 (r := r) (by rw [h]; exact g)]
      simp [h]
   · exact .inr h
 rcases key 61 with h | ⟨i, h1, h2⟩
 · have := xp s 61; omega
 · have := xp s i
   exact ⟨i, by omega, h1, vo h1 h2, h2⟩
theorem vj (s : ByteArray) : (rdN s (cr s).length).1.length = (cr s).length ∧ rdN s 60 = rdN s (cr s).length ∧ ix (cr s).length (s.extract (nj s) s.size) = none ∧ (cr s).length ≤ 60 := by
 obtain ⟨i, h0, h1, h2, h3⟩ := al6 s
 have e : (cr s).length = i := by rw [cr, h2, h1]
 have e2 : nj s = (rdN s i).2 := by rw [nj, h2]
 rw [e, e2]
 exact ⟨h1, h2, h3, h0⟩
theorem amf (s : ByteArray) : nj s = (rdN s (cr s).length).2 := by rw [nj, (vj s).2.1]
theorem amg (s : ByteArray) : nj s ≤ s.size ∧ nj s ≤ 25380 := by
 have h1 := xw s 60
 have h2 := xp s 60
 unfold nj; omega
theorem amj {c : UInt8} {x y : ByteArray} (h : fnd c x = true) : fnd c (x ++ y) = true ∧ bef c (x ++ y) = bef c x := by
 obtain ⟨a, b, rfl, ha⟩ := yd h
 have e : (a ++ (⟨#[c]⟩ ++ b)) ++ y = a ++ (⟨#[c]⟩ ++ (b ++ y)) := by simp only [ByteArray.append_assoc]
 rw [e]
 exact ⟨(q7 ha).2.2.2, by rw [(q7 ha).2.1, (q7 ha).2.1]⟩
theorem apm {k : Int} {x y : ByteArray} {r : aw × Nat} (h : ix k x = some r) : ix k (x ++ y) = some r := by
 obtain ⟨h1, h2, h3⟩ := wv h
 obtain ⟨g1, g2⟩ := amj (y := y) h1
 rw [ix, if_pos g1, g2, h2]
 simp only [Option.map_some]
 rw [← h3]
theorem at0 {c : UInt8} {x y : ByteArray} (h : fnd c (x ++ y) = true) (hs : (bef c (x ++ y)).size + 1 ≤ x.size) : fnd c x = true := by
 cases g : fnd c x with
 | true => rfl
 | false =>
  exfalso
  obtain ⟨a, b, e, ha⟩ := yd h
  rw [e, (q7 ha).2.1] at hs
  have hx : x.data.toList ++ y.data.toList = a.data.toList ++ c :: b.data.toList := by
   rw [← lv, e, lv, lv]; rfl
  have hc : x.data.toList[a.size]? = some c := by
   have h1 : (x.data.toList ++ y.data.toList)[a.size]? = some c := by
    rw [hx, List.getElem?_append_right (by rw [ga]; exact Nat.le_refl _), ga]
    simp
   rwa [List.getElem?_append_left (by rw [ga]; omega)] at h1
  have hne : Lib.indexByte x.data.toList c = -1 := by
   have h1 := Lib.indexByte_ge x.data.toList c
   have h2 : ¬ 0 ≤ Lib.indexByte x.data.toList c := by
    intro q
    have : fnd c x = true := decide_eq_true q
    rw [this] at g; cases g
   omega
  exact Lib.indexByte_none hne a.size hc
theorem apx {k : Int} {x y : ByteArray} {r : aw × Nat} (h : ix k (x ++ y) = some r) (hs : r.2 ≤ x.size) : ix k x = some r := by
 obtain ⟨h1, h2, h3⟩ := wv h
 have g1 := at0 h1 (by omega)
 have g2 := (amj (y := y) g1).2
 rw [g2] at h2 h3
 rw [ix, if_pos g1, h2]
 simp only [Option.map_some]
 rw [← h3]
theorem ale {D P : ByteArray} {a : Nat} (h : a ≤ D.size) : (D ++ P).extract a (D ++ P).size = D.extract a D.size ++ P := by
 apply sc
 have hl : (D ++ P).size = (D ++ P).data.toList.length := rfl
 have hl2 : D.size = D.data.toList.length := rfl
 rw [lv, ep, ep, hl, List.take_length, hl2, List.take_length, lv]
 exact List.drop_append_of_le_length (by rw [ga]; exact h)
theorem aj7 {D P : ByteArray} : ∀ {j : Nat}, (rdN D j).1.length = j → rdN (D ++ P) j = rdN D j
 | 0, _ => rfl
 | j + 1, h => by
  have hj := ab3 h (Nat.le_succ j)
  have ih := aj7 (P := P) hj
  cases g : ix (j : Int) (D.extract (rdN D j).2 D.size) with
  | none => rw [tc (by rw [hj]; exact g)] at h; omega
  | some r =>
   rw [j2 (s := D) (r := r) (by rw [hj]; exact g)]
   rw [j2 (s := D ++ P) (r := r) (by rw [ih, hj, ale (xw D j).1]; exact apm g), ih]
theorem aql {D P : ByteArray} : ∀ {j : Nat}, (rdN (D ++ P) j).1.length = j → (rdN (D ++ P) j).2 ≤ D.size → rdN D j = rdN (D ++ P) j
 | 0, _, _ => rfl
 | j + 1, h, hs => by
  have hj := ab3 h (Nat.le_succ j)
  cases g : ix (j : Int) ((D ++ P).extract (rdN (D ++ P) j).2 (D ++ P).size) with
  | none => rw [tc (by rw [hj]; exact g)] at h; omega
  | some r =>
   have hS := j2 (s := D ++ P) (n := j) (r := r) (by rw [hj]; exact g)
   rw [hS] at hs ⊢
   simp only at hs
   have ih := aql hj (by omega)
   rw [← ih] at g hs
   rw [ale (xw D j).1] at g
   have g2 := apx g (by rw [ByteArray.size_extract]; omega)
   rw [j2 (s := D) (r := r) (by
    have e : (rdN D j).1.length = j := by rw [ih]; exact hj
    rw [e]; exact g2), ih]
theorem ajy {D P : ByteArray} : (∃ j, j ≤ (cr (D ++ P)).length ∧ (rdN (D ++ P) j).2 = D.size) ↔ nj D = D.size := by
 obtain ⟨h1, h2, h3, h4⟩ := vj (D ++ P)
 constructor
 · rintro ⟨j, hj, e⟩
   have hl := ab3 h1 hj
   have hp := aql hl (by omega)
   have hd : ix (j : Int) (D.extract (rdN D j).2 D.size) = none := x7 (by rw [hp, e, ByteArray.size_extract]; omega)
   have := vo (s := D) (by rw [hp]; exact hl) hd
   rw [nj, this, hp, e]
 · intro e
   obtain ⟨i, k0, k1, k2, k3⟩ := al6 D
   have ha := aj7 (P := P) k1
   have hi : (rdN (D ++ P) i).1.length = i := by rw [ha]; exact k1
   refine ⟨i, ?_, by rw [ha, ← e, nj, k2]⟩
   by_cases c : i ≤ (cr (D ++ P)).length
   · exact c
   · exfalso
     have h5 : ix ((cr (D ++ P)).length : Int) ((D ++ P).extract (rdN (D ++ P) (cr (D ++ P)).length).2 (D ++ P).size) = none := by
      rw [← amf]; exact h3
     have := aaf (s := D ++ P) (n := (cr (D ++ P)).length) (by rw [h1]; exact h5) (i - (cr (D ++ P)).length)
     have e2 : (cr (D ++ P)).length + (i - (cr (D ++ P)).length) = i := by omega
     rw [e2] at this
     rw [this, h1] at hi
     omega
def j7 (l : Log) : Bool := decide (l.Durable.size + l.Pending.size ≤ 30000) && (decide (nj (l.Durable ++ l.Pending) = l.Durable.size + l.Pending.size) && (decide (nj l.Durable = l.Durable.size) && decide (((cr (l.Durable ++ l.Pending)).length : Int) = l.Count)))
theorem aaq (l : Log) (hd : l.Durable.size ≤ 4194304) (hp : l.Pending.size ≤ 4194304) : Ctr Tryz.prog 53 [l.v] [] (.bool (j7 l)) [] := by
 have hsz : (l.Durable ++ l.Pending).size = l.Durable.size + l.Pending.size := ByteArray.size_append
 have hw : IntKind.i64.wrap ((l.Durable.size : Int) + (l.Pending.size : Int)) = (l.Durable.size : Int) + (l.Pending.size : Int) := wrap_i64 (by omega) (by omega)
 refine Ctr.intro Tryz.mixed Tryz.func53 rfl Tryz.a2b ?_
 refine ev2 @Tryz.ntmps53 @Tryz.results53 ?_
 refine rs2 @Log.v.eq_1 @hw ?_
 refine ay.split (fun g1 => ?_) (fun g1 => ?_) <;> refine rs1 @g1 ?_
 · refine ak.aq ?_ (by rfl)
   have : ¬ l.Durable.size + l.Pending.size ≤ 30000 := by simp at g1; omega
   simp [j7, this]
 (have ct := aca (l.Durable ++ l.Pending) (by rw [hsz]; omega); (first | refine al.at ct ⟨leA, trivial⟩ ?_ | refine ah.at ct ⟨leA, trivial⟩ ?_); clear ct)
 refine rs3 @acu.eq_1 @acn.eq_1 @hw ?_
 (have ct := aca l.Durable (by omega); (first | refine al.at ct ⟨leA, trivial⟩ ?_ | refine ah.at ct ⟨leA, trivial⟩ ?_); clear ct)
 refine rs3 @acu.eq_1 @acn.eq_1 @hw ?_
 have hb : decide (l.Durable.size + l.Pending.size ≤ 30000) = true := by simp at g1 ⊢; omega
 have c1 : (((nj (l.Durable ++ l.Pending) : Nat) : Int) == (l.Durable.size : Int) + (l.Pending.size : Int)) = decide (nj (l.Durable ++ l.Pending) = l.Durable.size + l.Pending.size) := by rw [Bool.eq_iff_iff]; simp; omega
 have c2 : (((nj l.Durable : Nat) : Int) == (l.Durable.size : Int)) = decide (nj l.Durable = l.Durable.size) := by rw [Bool.eq_iff_iff]; simp; omega
 refine ax.bu (fun g2 => ?_) (fun g2 => ?_) <;> refine ev2 @g2 @hw ?_
 rotate_left
 · refine ak.aq ?_ (by rfl)
   rw [c1] at g2
   simp only [j7, g2, Bool.false_and, Bool.and_false]
 refine ax.bu (fun g3 => ?_) (fun g3 => ?_) <;> refine ev2 @g3 @hw ?_
 rotate_left
 · refine ak.aq ?_ (by rfl)
   rw [c2] at g3
   simp only [j7, g3, Bool.false_and, Bool.and_false]
 refine ak.aq ?_ (by rfl)
 rw [c1] at g2
 rw [c2] at g3
 simp only [j7, hb, g2, g3, Bool.true_and]
 congr 1
def ed (s : ByteArray) : List Int := 0 :: o1 s (cr s).length
theorem tj (s : ByteArray) : (ed s).length = (cr s).length + 1 := by simp [ed, x6]
theorem uf {s : ByteArray} {i : Nat} (h : i < (ed s).length) : (ed s)[i] = ((rdN s i).2 : Int) := by
 cases i with
 | zero => rfl
 | succ i => simp [ed, o1]
def awg (l : Log) : Bool := (ed (l.Durable ++ l.Pending)).any fun a => a == (l.Durable.size : Int)
theorem asf (l : Log) : awg l = decide (nj l.Durable = l.Durable.size) := by
 rw [Bool.eq_iff_iff, decide_eq_true_eq, ← ajy (P := l.Pending), awg, List.any_eq_true]
 constructor
 · rintro ⟨a, ha, e⟩
   obtain ⟨i, hi, rfl⟩ := List.getElem_of_mem ha
   rw [uf hi] at e
   rw [tj] at hi
   exact ⟨i, by omega, by simp at e; omega⟩
 · rintro ⟨j, hj, e⟩
   have hi : j < (ed (l.Durable ++ l.Pending)).length := by rw [tj]; omega
   exact ⟨_, List.getElem_mem hi, by rw [uf hi, e]; simp⟩
def aex (l : Log) : V := .tup [.osl 0 0 (cr (l.Durable ++ l.Pending)).length 2, .bool (j7 l)]
def ai2 (l : Log) : Hp := [some (rows aw.cs (cr (l.Durable ++ l.Pending)))]
theorem ac2 (l : Log) (hd : l.Durable.size ≤ 4194304) (hp : l.Pending.size ≤ 4194304) : Ctr Tryz.prog 44 [l.v] [] (aex l) (ai2 l) := by
 have hsz : (l.Durable ++ l.Pending).size = l.Durable.size + l.Pending.size := ByteArray.size_append
 refine Ctr.intro Tryz.mixed Tryz.func44 rfl Tryz.a45 ?_
 refine ev2 @Tryz.ntmps44 @Tryz.results44 ?_
 refine rs1 @Log.v.eq_1 ?_
 (have ct := ath (l.Durable ++ l.Pending) (by rw [hsz]; omega); (first | refine al.at ct ⟨leA, trivial⟩ ?_ | refine ah.at ct ⟨leA, trivial⟩ ?_); clear ct)
 have h60 := (vj (l.Durable ++ l.Pending)).2.2.2
 have hen := x6 (l.Durable ++ l.Pending) (cr (l.Durable ++ l.Pending)).length
 have htk : List.take (cr (l.Durable ++ l.Pending)).length (rows IntS.cs (o1 (l.Durable ++ l.Pending) (cr (l.Durable ++ l.Pending)).length)) = rows IntS.cs (o1 (l.Durable ++ l.Pending) (cr (l.Durable ++ l.Pending)).length) :=
  List.take_of_length_le (by rw [bb, hen]; omega)
 refine rs9 @aq5.eq_1 @ap4.eq_1 @bb @bh @hen @htk @Nat.mul_one @List.length_cons.{0} @List.length_nil.{0} ?_
 have hsl := tj (l.Durable ++ l.Pending)
 have hw : IntKind.i64.wrap ((l.Durable.size : Int) + (l.Pending.size : Int)) = (l.Durable.size : Int) + (l.Pending.size : Int) := wrap_i64 (by omega) (by omega)
 refine dr.intro (fun i : Nat => i ≤ (ed (l.Durable ++ l.Pending)).length) (fun i => ⟨(.undef :: .ptr 0 0 :: .undef :: .undef :: .str (l.Durable ++ l.Pending) :: .osl 1 0 (cr (l.Durable ++ l.Pending)).length 2 :: .undef :: .osl 2 0 (ed (l.Durable ++ l.Pending)).length 1 :: .bool (((ed (l.Durable ++ l.Pending)).take i).any fun a => a == (l.Durable.size : Int)) :: (un 15 (.osl 2 0 (ed (l.Durable ++ l.Pending)).length 1 :: .int .i64 (ed (l.Durable ++ l.Pending)).length :: .int .i64 i :: (un 32 [])))), [some l.cs, some (rows aw.cs (cr (l.Durable ++ l.Pending))), some (rows IntS.cs (ed (l.Durable ++ l.Pending)))], 0⟩) (fun i => (ed (l.Durable ++ l.Pending)).length - i) 0 (Nat.zero_le _) ?_ (fun i hi => ?_)
 · refine au.pick [0, 1, 3] (by decide) (fun j hj => by omega) ?_ ?_
   · simp [LeG, LeV, ren, bc, posOf, hsl]
     omega
   · simp [az, bg, ren, bc, posOf, ae, Log.cs]
     rw [ed, fq]
     simp only [IntS.cs, List.cons_append, List.nil_append]
 refine ev1 @Log.cs.eq_1 ?_
 refine ay.split (fun h1 => ?_) (fun h1 => ?_)
 · refine ev1 @h1 ?_
   have hi' : i < (ed (l.Durable ++ l.Pending)).length := by simpa using h1
   have hr := bw IntS.csl hi'
   repeat (with_reducible refine And.intro ?_ ?_; focus (first | omega | with_reducible rfl | (show cd _ = true; kernel_rfl) | (simp only [bb, bh, List.length_append, List.length_cons, List.length_nil, List.all_append, List.all_cons, List.all_nil, ck, Nat.mul_one, Nat.one_mul, Bool.and_self]; first | done | omega) | (simp only [ByteArray.size_append, ch, List.size_toArray, List.length_cons, List.length_nil]; omega)))
   have e1 : ((ed (l.Durable ++ l.Pending)).take (i + 1)).any (fun a => a == (l.Durable.size : Int)) = (((ed (l.Durable ++ l.Pending)).take i).any (fun a => a == (l.Durable.size : Int)) || ((ed (l.Durable ++ l.Pending))[i] == (l.Durable.size : Int))) := by
    rw [List.take_succ_eq_append_getElem hi', List.any_append]; simp
   rw [hr]
   refine ax.cq (fun h2 => ?_) (fun h2 => ?_) <;> refine rs3 @h2 @IntS.cs.eq_1 @Log.cs.eq_1 ?_
   · refine ⟨i + 1, hi', ?_, by omega⟩
     refine au.cut (3) (by simp) (by simp) ?_ ?_
     · rw [e1, h2]; simp [LeC, LeV, ren, bq]
     · simp [bz, cw, ren, ae, Log.cs]
   · refine ⟨i + 1, hi', ?_, by omega⟩
     refine au.cut (3) (by simp) (by simp) ?_ ?_
     · rw [e1, h2]; simp [LeC, LeV, ren, bq]
     · simp [bz, cw, ren, ae, Log.cs]
 · refine ev1 @h1 ?_
   have hi' : i = (ed (l.Durable ++ l.Pending)).length := by simp at h1; omega
   subst hi'
   rw [List.take_length]
   have hdu : ((ed (l.Durable ++ l.Pending)).any fun a => a == (l.Durable.size : Int)) = awg l := rfl
   rw [hdu]
   repeat (with_reducible refine And.intro ?_ ?_; focus (first | omega | with_reducible rfl | (show cd _ = true; kernel_rfl) | (simp only [bb, bh, List.length_append, List.length_cons, List.length_nil, List.all_append, List.all_cons, List.all_nil, ck, Nat.mul_one, Nat.one_mul, Bool.and_self]; first | done | omega) | (simp only [ByteArray.size_append, ch, List.size_toArray, List.length_cons, List.length_nil]; omega)))
   have hlast : (cr (l.Durable ++ l.Pending)).length < (ed (l.Durable ++ l.Pending)).length := by rw [hsl]; omega
   have hr2 := bw IntS.csl hlast
   rw [uf hlast, ← amf] at hr2
   have hw2 : IntKind.i64.wrap (((ed (l.Durable ++ l.Pending)).length : Int) - 1) = ((cr (l.Durable ++ l.Pending)).length : Int) := by rw [wrap_i64 (by omega) (by omega)]; omega
   have hdb := asf l
   refine ax.bu (fun g1 => ?_) (fun g1 => ?_) <;> refine ev1 @g1 ?_
   · refine rs4 @hr2 @hw2 @hsz @IntS.cs.eq_1 ?_
     rw [hdb] at g1
     have hab := (amg (l.Durable ++ l.Pending)).2
     have c1 : (((nj (l.Durable ++ l.Pending) : Nat) : Int) == ((l.Durable.size + l.Pending.size : Nat) : Int)) = decide (nj (l.Durable ++ l.Pending) = l.Durable.size + l.Pending.size) := by rw [Bool.eq_iff_iff]; simp; omega
     refine ax.bu (fun g2 => ?_) (fun g2 => ?_) <;> refine ev1 @g2 ?_
     · rw [c1] at g2
       have hb : decide (l.Durable.size + l.Pending.size ≤ 30000) = true := by simp at g2 ⊢; omega
       have hL : j7 l = (l.Count == ((cr (l.Durable ++ l.Pending)).length : Int)) := by
        simp only [j7, hb, g1, g2, Bool.true_and]
        rw [Bool.eq_iff_iff]
        simp
        exact ⟨fun h => h.symm, fun h => h.symm⟩
       repeat (with_reducible refine And.intro ?_ ?_; focus (first | omega | with_reducible rfl | (show cd _ = true; kernel_rfl) | (simp only [bb, bh, List.length_append, List.length_cons, List.length_nil, List.all_append, List.all_cons, List.all_nil, ck, Nat.mul_one, Nat.one_mul, Bool.and_self]; first | done | omega) | (simp only [ByteArray.size_append, ch, List.size_toArray, List.length_cons, List.length_nil]; omega)))
       rw [aex, ai2, hL]
       refine ak.pick [1] (by decide) (fun j hj => by omega) (.inl ?_) ?_
       · first | rfl | (simp [ren, bc, posOf]; done)
       · simp only [az, List.map_cons, List.map_nil, bg, List.getElem?_cons_zero, List.getElem?_cons_succ, ae]
     · rw [c1] at g2
       have hL : j7 l = false := by simp only [j7, g2, Bool.false_and, Bool.and_false]
       repeat (with_reducible refine And.intro ?_ ?_; focus (first | omega | with_reducible rfl | (show cd _ = true; kernel_rfl) | (simp only [bb, bh, List.length_append, List.length_cons, List.length_nil, List.all_append, List.all_cons, List.all_nil, ck, Nat.mul_one, Nat.one_mul, Bool.and_self]; first | done | omega) | (simp only [ByteArray.size_append, ch, List.size_toArray, List.length_cons, List.length_nil]; omega)))
       rw [aex, ai2, hL]
       refine ak.pick [1] (by decide) (fun j hj => by omega) (.inl ?_) ?_
       · first | rfl | (simp [ren, bc, posOf]; done)
       · simp only [az, List.map_cons, List.map_nil, bg, List.getElem?_cons_zero, List.getElem?_cons_succ, ae]
   · rw [hdb] at g1
     have hL : j7 l = false := by simp only [j7, g1, Bool.false_and, Bool.and_false]
     rw [aex, ai2, hL]
     refine ak.pick [1] (by decide) (fun j hj => by omega) (.inl ?_) ?_
     · first | rfl | (simp [ren, bc, posOf]; done)
     · simp only [az, List.map_cons, List.map_nil, bg, List.getElem?_cons_zero, List.getElem?_cons_succ, ae]
theorem vp (l : Log) (hd : l.Durable.size ≤ 4194304) (hp : l.Pending.size ≤ 4194304) : Ctr Tryz.prog 43 [l.v] [] (.bool (j7 l)) [] := by
 refine Ctr.intro Tryz.mixed Tryz.func43 rfl Tryz.a2y ?_
 refine ev2 @Tryz.ntmps43 @Tryz.results43 ?_
 refine ev1 @Log.v.eq_1 ?_
 (have ct := ac2 l hd hp; (first | refine al.at ct ⟨leA, trivial⟩ ?_ | refine ah.at ct ⟨leA, trivial⟩ ?_); clear ct)
 refine ev1 @aex.eq_1 ?_
 exact ak.aq rfl (by rfl)
end Go.Proofs
end
section
set_option maxRecDepth 100000
set_option maxHeartbeats 2000000
namespace Go.Proofs
open Go.Lv
def logN : V := .agg [.str ByteArray.empty, .str ByteArray.empty, .int .i64 0]
def ai9 (l : Log) : List V := if j7 l = true then [.agg [.str (l.Durable ++ l.Pending), .str ByteArray.empty, .int .i64 l.Count], .bool true] else [logN, .bool false]
theorem ah7 (l : Log) (hd : l.Durable.size ≤ 4194304) (hp : l.Pending.size ≤ 4194304) : Ctr Tryz.prog 135 [l.v] [] (.tup (ai9 l)) [] := by
 refine Ctr.intro Tryz.mixed Tryz.func135 rfl Tryz.awj ?_
 refine ev2 @Tryz.ntmps135 @Tryz.results135 ?_
 refine ev1 @Log.v.eq_1 ?_
 repeat (with_reducible refine And.intro ?_ ?_; focus (first | omega | with_reducible rfl | (show cd _ = true; kernel_rfl) | (simp only [bb, bh, List.length_append, List.length_cons, List.length_nil, List.all_append, List.all_cons, List.all_nil, ck, Nat.mul_one, Nat.one_mul, Bool.and_self]; first | done | omega) | (simp only [ByteArray.size_append, ch, List.size_toArray, List.length_cons, List.length_nil]; omega)))
 (have ct := aaq l hd hp; (first | refine al.at ct ⟨leA, trivial⟩ ?_ | refine ah.at ct ⟨leA, trivial⟩ ?_); clear ct)
 cases h : j7 l with
 | false =>
  refine rs1 @Bool.not_false ?_
  exact ak.aq (by simp [ai9, h, logN]) (by rfl)
 | true =>
  refine rs1 @Bool.not_true ?_
  exact ak.aq (by simp [ai9, h]) (by rfl)
def ow (l : Log) : Option (List aw) := if j7 l = true then some (cr (l.Durable ++ l.Pending)) else none
theorem aea (l : Log) (hd : l.Durable.size ≤ 4194304) (hp : l.Pending.size ≤ 4194304) : Ctr Tryz.prog 13 [l.v] [] (sq 2 (ow l)) (me aw.cs (ow l)) := by
 refine Ctr.intro Tryz.mixed Tryz.func13 rfl Tryz.a5d ?_
 refine ev2 @Tryz.ntmps13 @Tryz.results13 ?_
 refine ev1 @Log.v.eq_1 ?_
 (have ct := ac2 l hd hp; (first | refine al.at ct ⟨leA, trivial⟩ ?_ | refine ah.at ct ⟨leA, trivial⟩ ?_); clear ct)
 refine ev2 @aex.eq_1 @ai2.eq_1 ?_
 cases h : j7 l with
 | false =>
  refine ev0 ?_
  have e : ow l = none := by simp [ow, h]
  rw [e]
  exact ak.aq rfl (by rfl)
 | true =>
  refine ev0 ?_
  have e : ow l = some (cr (l.Durable ++ l.Pending)) := by simp [ow, h]
  rw [e]
  simp only [sq, me]
  refine ak.pick [1] (by decide) (fun j hj => by omega) (.inl ?_) ?_
  · first | rfl | (simp [ren, bc, posOf]; done)
  · simp only [az, List.map_cons, List.map_nil, bg, List.getElem?_cons_zero, List.getElem?_cons_succ, ae]
end Go.Proofs
end
section
set_option maxRecDepth 100000
set_option maxHeartbeats 2000000
namespace Go.Proofs
open Go.Lv
def zp (l : Log) (e : aw) : List V := if j7 l = true ∧ ic e = true then (if l.Count = 60 then [l.v, .int .i64 2] else [.agg [.str l.Durable, .str (l.Pending ++ cc l.Count e), .int .i64 (l.Count + 1)], .int .i64 0]) else [l.v, .int .i64 1]
theorem lu {l : Log} (h : j7 l = true) : 0 ≤ l.Count ∧ l.Count ≤ 60 := by
 simp [j7] at h
 have := (vj (l.Durable ++ l.Pending)).2.2.2
 omega
theorem aam (l : Log) (e : aw) (hd : l.Durable.size ≤ 4194304) (hp : l.Pending.size ≤ 4194304) (hc : e.Command.size ≤ 4194304) (hr : e.Reply.size ≤ 4194304) : Ctr Tryz.prog 36 [l.v, e.v] [] (.tup (zp l e)) [] := by
 refine Ctr.intro Tryz.mixed Tryz.func36 rfl Tryz.a5b ?_
 refine ev2 @Tryz.ntmps36 @Tryz.results36 ?_
 refine ev2 @Log.v.eq_1 @aw.v.eq_1 ?_
 repeat (with_reducible refine And.intro ?_ ?_; focus (first | omega | with_reducible rfl | (show cd _ = true; kernel_rfl) | (simp only [bb, bh, List.length_append, List.length_cons, List.length_nil, List.all_append, List.all_cons, List.all_nil, ck, Nat.mul_one, Nat.one_mul, Bool.and_self]; first | done | omega) | (simp only [ByteArray.size_append, ch, List.size_toArray, List.length_cons, List.length_nil]; omega)))
 (have ct := vp l hd hp; (first | refine al.at ct ⟨leA, trivial⟩ ?_ | refine ah.at ct ⟨leA, trivial⟩ ?_); clear ct)
 refine ev0 ?_
 refine ax.cq (fun g1 => ?_) (fun g1 => ?_) <;> refine rs1 @g1 ?_
 rotate_left
 · exact ak.aq (by rw [zp, if_neg (by simp at g1; simp [g1])]; rfl) (by rfl)
 (have ct := mu e (by omega) (by omega); (first | refine al.at ct ⟨leA, trivial⟩ ?_ | refine ah.at ct ⟨leA, trivial⟩ ?_); clear ct)
 refine ev0 ?_
 refine ay.split (fun g2 => ?_) (fun g2 => ?_) <;> refine rs1 @g2 ?_
 · exact ak.aq (by rw [zp, if_neg (by simp at g2; simp [g2])]; rfl) (by rfl)
 have hL : j7 l = true := by simpa using g1
 have hE : ic e = true := by simpa using g2
 have hb := lu hL
 refine ay.split (fun g3 => ?_) (fun g3 => ?_) <;> refine rs1 @g3 ?_
 · exact ak.aq (by rw [zp, if_pos ⟨hL, hE⟩, if_pos (by simpa using g3)]; rfl) (by rfl)
 have g3' : ¬ l.Count = 60 := by simpa using g3
 have hk : 0 ≤ l.Count ∧ l.Count ≤ 59 := by omega
 have z1 := gi hk hE
 have z2 := iv (dd l.Count e)
 have z3 : (cc l.Count e).size = (kp (dd l.Count e)).size + 1 := by rw [cc, ByteArray.size_append]; rfl
 have hi := s5 l.Count e (by omega) (by omega)
 rw [ak8, if_pos ⟨gp.2 hk, hE⟩] at hi
 (first | refine al.at (hi) ⟨leA, leA, trivial⟩ ?_ | refine ah.at (hi) ⟨leA, leA, trivial⟩ ?_)
 refine rs0 ?_
 exact ak.aq (by rw [zp, if_pos ⟨hL, hE⟩, if_neg g3']) (by rfl)
theorem n5 (l : Log) (e : aw) (hd : l.Durable.size ≤ 4194304) (hp : l.Pending.size ≤ 4194304) (hc : e.Command.size ≤ 4194304) (hr : e.Reply.size ≤ 4194304) : Ctr Tryz.prog 30 [l.v, e.v] [] (.tup (zp l e)) [] := by
 refine Ctr.intro Tryz.mixed Tryz.func30 rfl Tryz.a1v ?_
 refine ev2 @Tryz.ntmps30 @Tryz.results30 ?_
 refine ev2 @Log.v.eq_1 @aw.v.eq_1 ?_
 repeat (with_reducible refine And.intro ?_ ?_; focus (first | omega | with_reducible rfl | (show cd _ = true; kernel_rfl) | (simp only [bb, bh, List.length_append, List.length_cons, List.length_nil, List.all_append, List.all_cons, List.all_nil, ck, Nat.mul_one, Nat.one_mul, Bool.and_self]; first | done | omega) | (simp only [ByteArray.size_append, ch, List.size_toArray, List.length_cons, List.length_nil]; omega)))
 (have ct := aaq l hd hp; (first | refine al.at ct ⟨leA, trivial⟩ ?_ | refine ah.at ct ⟨leA, trivial⟩ ?_); clear ct)
 refine ev0 ?_
 refine ax.cq (fun g1 => ?_) (fun g1 => ?_) <;> refine rs1 @g1 ?_
 rotate_left
 · exact ak.aq (by rw [zp, if_neg (by simp at g1; simp [g1])]; rfl) (by rfl)
 (have ct := uo e (by omega) (by omega); (first | refine al.at ct ⟨leA, trivial⟩ ?_ | refine ah.at ct ⟨leA, trivial⟩ ?_); clear ct)
 refine ev0 ?_
 refine ay.split (fun g2 => ?_) (fun g2 => ?_) <;> refine rs1 @g2 ?_
 · exact ak.aq (by rw [zp, if_neg (by simp at g2; simp [g2])]; rfl) (by rfl)
 have hL : j7 l = true := by simpa using g1
 have hE : ic e = true := by simpa using g2
 have hb := lu hL
 refine ay.split (fun g3 => ?_) (fun g3 => ?_) <;> refine rs1 @g3 ?_
 · exact ak.aq (by rw [zp, if_pos ⟨hL, hE⟩, if_pos (by simpa using g3)]; rfl) (by rfl)
 have g3' : ¬ l.Count = 60 := by simpa using g3
 have hk : 0 ≤ l.Count ∧ l.Count ≤ 59 := by omega
 have z1 := gi hk hE
 have z2 := iv (dd l.Count e)
 have z3 : (cc l.Count e).size = (kp (dd l.Count e)).size + 1 := by rw [cc, ByteArray.size_append]; rfl
 (have ct := acz l.Count e hk hE; (first | refine al.at ct ⟨leA, leA, trivial⟩ ?_ | refine ah.at ct ⟨leA, leA, trivial⟩ ?_); clear ct)
 refine rs0 ?_
 exact ak.aq (by rw [zp, if_pos ⟨hL, hE⟩, if_neg g3']) (by rfl)
end Go.Proofs
end
section
set_option maxRecDepth 100000
set_option maxHeartbeats 2000000
namespace Go.Proofs
open Go.Lv
def recP (B : List Int) (k : Int) (r : V) (hout : Hp) : Prop := ∃ (e : aw) (c : Cur), e.Command.size ≤ 100 ∧ e.Reply.size ≤ 100 ∧ c.le k ∧ r = e.v ∧ hout = [some (c.cs B)]
theorem ahl {B : List Int} {k : Int} {h : Hp} {x y : ByteArray} {c : Cur} (h0 : h[0]? = some (some (c.cs B))) (hx : x.size ≤ 100) (hy : y.size ≤ 100) (hc : c.le k) : xr 1 (.agg [.str x, .str y]) h (recP B k) := by
 refine ⟨_, _, ⟨⟨x, y⟩, c, hx, hy, hc, rfl, rfl⟩, ak.pick [0] (by decide) (fun j hj => by cases j <;> simp_all) (.inl rfl) ?_⟩
 simp only [az, List.map_cons, List.map_nil, bg, h0, Cur.ren]
theorem agn {B : List Int} (hB : CB B) {k : Int} (hk : k ≤ 1000000) {c : Cur} (hc : c.le k) : mg Tryz.prog 52 [.ptr 0 0] [some (c.cs B)] (recP B (k + 20)) := by
 have hcb : ∀ {c' : Cur} {k' : Int}, c'.le k' → k' ≤ 4000000 → c'.le 4611686018427387903 := fun h h' => ⟨h.1, by have := h.2; omega⟩
 refine mg.intro Tryz.mixed Tryz.func52 rfl Tryz.a2e ?_
 refine ev2 @Tryz.ntmps52 @Tryz.results52 ?_
 refine rs0 ?_
 have pc1 := afg hB (hcb hc (by omega)) [⟨#[99, 111, 117, 110, 116]⟩, ⟨#[115, 111, 114, 116, 32, 109, 101, 114, 103, 101]⟩, ⟨#[120]⟩, ⟨#[115, 101, 108, 101, 99, 116, 32, 50]⟩, ⟨#[48, 32, 49]⟩] (by simp) (by simp); have hc1 := dm (B := B) (n := (([⟨#[99, 111, 117, 110, 116]⟩, ⟨#[115, 111, 114, 116, 32, 109, 101, 114, 103, 101]⟩, ⟨#[120]⟩, ⟨#[115, 101, 108, 101, 99, 116, 32, 50]⟩, ⟨#[48, 32, 49]⟩] : List ByteArray).length : Int)) hc; have pvc1 := w5 hB (K := [⟨#[99, 111, 117, 110, 116]⟩, ⟨#[115, 111, 114, 116, 32, 109, 101, 114, 103, 101]⟩, ⟨#[120]⟩, ⟨#[115, 101, 108, 101, 99, 116, 32, 50]⟩, ⟨#[48, 32, 49]⟩]) (by simp) hc.1; generalize ofV B [⟨#[99, 111, 117, 110, 116]⟩, ⟨#[115, 111, 114, 116, 32, 109, 101, 114, 103, 101]⟩, ⟨#[120]⟩, ⟨#[115, 101, 108, 101, 99, 116, 32, 50]⟩, ⟨#[48, 32, 49]⟩] c = vc1 at pc1 pvc1; generalize ff B (([⟨#[99, 111, 117, 110, 116]⟩, ⟨#[115, 111, 114, 116, 32, 109, 101, 114, 103, 101]⟩, ⟨#[120]⟩, ⟨#[115, 101, 108, 101, 99, 116, 32, 50]⟩, ⟨#[48, 32, 49]⟩] : List ByteArray).length : Int) c = c1 at pc1 hc1; (first | refine ah.di [0, 1] false pc1 (by decide) ⟨leO, leO, trivial⟩ (br rfl rfl) (bp B _ _) (.inl rfl) ?_ | refine ah.di [0, 2] false pc1 (by decide) ⟨leO, leO, trivial⟩ (br rfl rfl) (bp B _ _) (.inl rfl) ?_ | refine ah.di [0, 3] false pc1 (by decide) ⟨leO, leO, trivial⟩ (br rfl rfl) (bp B _ _) (.inl rfl) ?_ | refine ah.di [0, 4] false pc1 (by decide) ⟨leO, leO, trivial⟩ (br rfl rfl) (bp B _ _) (.inl rfl) ?_ | refine ah.di [0, 5] false pc1 (by decide) ⟨leO, leO, trivial⟩ (br rfl rfl) (bp B _ _) (.inl rfl) ?_ | refine ah.di [0, 6] false pc1 (by decide) ⟨leO, leO, trivial⟩ (br rfl rfl) (bp B _ _) (.inl rfl) ?_ | refine ah.di [0, 7] false pc1 (by decide) ⟨leO, leO, trivial⟩ (br rfl rfl) (bp B _ _) (.inl rfl) ?_ | refine ah.di [0, 8] false pc1 (by decide) ⟨leO, leO, trivial⟩ (br rfl rfl) (bp B _ _) (.inl rfl) ?_)
 refine rs2 @Cur.ren @ae ?_
 have pc2 := afg hB (hcb hc1 (by omega)) [⟨#[]⟩, ⟨#[51]⟩, ⟨#[63]⟩, ⟨#[97, 64, 98]⟩, ⟨#[51, 32, 49, 32, 50]⟩] (by simp) (by simp); have hc2 := dm (B := B) (n := (([⟨#[]⟩, ⟨#[51]⟩, ⟨#[63]⟩, ⟨#[97, 64, 98]⟩, ⟨#[51, 32, 49, 32, 50]⟩] : List ByteArray).length : Int)) hc1; have pvc2 := w5 hB (K := [⟨#[]⟩, ⟨#[51]⟩, ⟨#[63]⟩, ⟨#[97, 64, 98]⟩, ⟨#[51, 32, 49, 32, 50]⟩]) (by simp) hc1.1; generalize ofV B [⟨#[]⟩, ⟨#[51]⟩, ⟨#[63]⟩, ⟨#[97, 64, 98]⟩, ⟨#[51, 32, 49, 32, 50]⟩] c1 = vc2 at pc2 pvc2; generalize ff B (([⟨#[]⟩, ⟨#[51]⟩, ⟨#[63]⟩, ⟨#[97, 64, 98]⟩, ⟨#[51, 32, 49, 32, 50]⟩] : List ByteArray).length : Int) c1 = c2 at pc2 hc2; (first | refine ah.di [0, 1] false pc2 (by decide) ⟨leO, leO, trivial⟩ (br rfl rfl) (bp B _ _) (.inl rfl) ?_ | refine ah.di [0, 2] false pc2 (by decide) ⟨leO, leO, trivial⟩ (br rfl rfl) (bp B _ _) (.inl rfl) ?_ | refine ah.di [0, 3] false pc2 (by decide) ⟨leO, leO, trivial⟩ (br rfl rfl) (bp B _ _) (.inl rfl) ?_ | refine ah.di [0, 4] false pc2 (by decide) ⟨leO, leO, trivial⟩ (br rfl rfl) (bp B _ _) (.inl rfl) ?_ | refine ah.di [0, 5] false pc2 (by decide) ⟨leO, leO, trivial⟩ (br rfl rfl) (bp B _ _) (.inl rfl) ?_ | refine ah.di [0, 6] false pc2 (by decide) ⟨leO, leO, trivial⟩ (br rfl rfl) (bp B _ _) (.inl rfl) ?_ | refine ah.di [0, 7] false pc2 (by decide) ⟨leO, leO, trivial⟩ (br rfl rfl) (bp B _ _) (.inl rfl) ?_ | refine ah.di [0, 8] false pc2 (by decide) ⟨leO, leO, trivial⟩ (br rfl rfl) (bp B _ _) (.inl rfl) ?_)
 refine rs2 @Cur.ren @ae ?_
 refine ij hB hc2 (by omega) 24 (by omega) rfl (fun vc3 c3 pvc3 hc3 => ?_)
 refine rs2 @Cur.ren @ae ?_
 have hx := wg pvc1 (by rfl)
 have hy := wg pvc2 (by rfl)
 refine ay.split (fun h1 => ?_) (fun h1 => ?_)
 · refine rs1 @h1 ?_
   have hz : sb (List.take 3 (wi 3 [V.int .u8 0])) = some [0, 0, 0] := rfl
   rw [hz]
   refine rs0 ?_
   have pc4 := afg hB (hcb hc3 (by omega)) [⟨#[]⟩, ⟨#[97, 64, 98]⟩, ⟨#[97, 35]⟩, ⟨#[10]⟩, strOfNums [0, 0, 0]] (by simp) (by simp); have hc4 := dm (B := B) (n := (([⟨#[]⟩, ⟨#[97, 64, 98]⟩, ⟨#[97, 35]⟩, ⟨#[10]⟩, strOfNums [0, 0, 0]] : List ByteArray).length : Int)) hc3; have pvc4 := w5 hB (K := [⟨#[]⟩, ⟨#[97, 64, 98]⟩, ⟨#[97, 35]⟩, ⟨#[10]⟩, strOfNums [0, 0, 0]]) (by simp) hc3.1; generalize ofV B [⟨#[]⟩, ⟨#[97, 64, 98]⟩, ⟨#[97, 35]⟩, ⟨#[10]⟩, strOfNums [0, 0, 0]] c3 = vc4 at pc4 pvc4; generalize ff B (([⟨#[]⟩, ⟨#[97, 64, 98]⟩, ⟨#[97, 35]⟩, ⟨#[10]⟩, strOfNums [0, 0, 0]] : List ByteArray).length : Int) c3 = c4 at pc4 hc4; (first | refine ah.di [0, 1] false pc4 (by decide) ⟨leO, leO, trivial⟩ (br rfl rfl) (bp B _ _) (.inl rfl) ?_ | refine ah.di [0, 2] false pc4 (by decide) ⟨leO, leO, trivial⟩ (br rfl rfl) (bp B _ _) (.inl rfl) ?_ | refine ah.di [0, 3] false pc4 (by decide) ⟨leO, leO, trivial⟩ (br rfl rfl) (bp B _ _) (.inl rfl) ?_ | refine ah.di [0, 4] false pc4 (by decide) ⟨leO, leO, trivial⟩ (br rfl rfl) (bp B _ _) (.inl rfl) ?_ | refine ah.di [0, 5] false pc4 (by decide) ⟨leO, leO, trivial⟩ (br rfl rfl) (bp B _ _) (.inl rfl) ?_ | refine ah.di [0, 6] false pc4 (by decide) ⟨leO, leO, trivial⟩ (br rfl rfl) (bp B _ _) (.inl rfl) ?_ | refine ah.di [0, 7] false pc4 (by decide) ⟨leO, leO, trivial⟩ (br rfl rfl) (bp B _ _) (.inl rfl) ?_ | refine ah.di [0, 8] false pc4 (by decide) ⟨leO, leO, trivial⟩ (br rfl rfl) (bp B _ _) (.inl rfl) ?_)
   refine rs2 @Cur.ren @ae ?_
   exact ahl rfl (wg pvc4 (by decide)) hy (fi hc4 (by omega))
 · refine rs1 @h1 ?_
   refine ay.split (fun h2 => ?_) (fun h2 => ?_)
   · refine rs1 @h2 ?_
     have pc4 := afg hB (hcb hc3 (by omega)) [⟨#[35]⟩, ⟨#[10]⟩, ⟨#[127]⟩] (by simp) (by simp); have hc4 := dm (B := B) (n := (([⟨#[35]⟩, ⟨#[10]⟩, ⟨#[127]⟩] : List ByteArray).length : Int)) hc3; have pvc4 := w5 hB (K := [⟨#[35]⟩, ⟨#[10]⟩, ⟨#[127]⟩]) (by simp) hc3.1; generalize ofV B [⟨#[35]⟩, ⟨#[10]⟩, ⟨#[127]⟩] c3 = vc4 at pc4 pvc4; generalize ff B (([⟨#[35]⟩, ⟨#[10]⟩, ⟨#[127]⟩] : List ByteArray).length : Int) c3 = c4 at pc4 hc4; (first | refine ah.di [0, 1] false pc4 (by decide) ⟨leO, leO, trivial⟩ (br rfl rfl) (bp B _ _) (.inl rfl) ?_ | refine ah.di [0, 2] false pc4 (by decide) ⟨leO, leO, trivial⟩ (br rfl rfl) (bp B _ _) (.inl rfl) ?_ | refine ah.di [0, 3] false pc4 (by decide) ⟨leO, leO, trivial⟩ (br rfl rfl) (bp B _ _) (.inl rfl) ?_ | refine ah.di [0, 4] false pc4 (by decide) ⟨leO, leO, trivial⟩ (br rfl rfl) (bp B _ _) (.inl rfl) ?_ | refine ah.di [0, 5] false pc4 (by decide) ⟨leO, leO, trivial⟩ (br rfl rfl) (bp B _ _) (.inl rfl) ?_ | refine ah.di [0, 6] false pc4 (by decide) ⟨leO, leO, trivial⟩ (br rfl rfl) (bp B _ _) (.inl rfl) ?_ | refine ah.di [0, 7] false pc4 (by decide) ⟨leO, leO, trivial⟩ (br rfl rfl) (bp B _ _) (.inl rfl) ?_ | refine ah.di [0, 8] false pc4 (by decide) ⟨leO, leO, trivial⟩ (br rfl rfl) (bp B _ _) (.inl rfl) ?_)
     refine rs2 @Cur.ren @ae ?_
     exact ahl rfl hx (wg pvc4 (by rfl)) (fi hc4 (by omega))
   · refine rs1 @h2 ?_
     exact ahl rfl hx hy (fi hc3 (by omega))
def awq (B : List Int) (b : Nat) (k : Int) (r : V) (hout : Hp) : Prop := ∃ (l : Log) (c : Cur), l.Durable.size ≤ b ∧ l.Pending.size ≤ b ∧ bt l.Count ∧ c.le k ∧ r = l.v ∧ hout = [some (c.cs B)]
theorem yi {B : List Int} {b : Nat} {k : Int} {h : Hp} {x y : ByteArray} {n : Int} {c : Cur} (h0 : h[0]? = some (some (c.cs B))) (hx : x.size ≤ b) (hy : y.size ≤ b) (hn : bt n) (hc : c.le k) : xr 1 (.agg [.str x, .str y, .int .i64 n]) h (awq B b k) := by
 refine ⟨_, _, ⟨⟨x, y, n⟩, c, hx, hy, hn, hc, rfl, rfl⟩, ak.pick [0] (by decide) (fun j hj => by cases j <;> simp_all) (.inl rfl) ?_⟩
 simp only [az, List.map_cons, List.map_nil, bg, h0, Cur.ren]
theorem ai5 {l : Log} (h : j7 l = true) : l.Durable.size + l.Pending.size ≤ 30000 := by
 simp only [j7, Bool.and_eq_true, decide_eq_true_eq] at h
 exact h.1
theorem acy (l : Log) (e : aw) (hd : l.Durable.size ≤ 40000) (hp : l.Pending.size ≤ 40000) (hn : bt l.Count) : ∃ (l' : Log) (n : Int), zp l e = [l'.v, .int .i64 n] ∧ l'.Durable.size ≤ 40000 ∧ l'.Pending.size ≤ 40000 ∧ bt l'.Count := by
 unfold zp
 split
 · rename_i h
   split
   · exact ⟨l, 2, rfl, hd, hp, hn⟩
   · rename_i h2
     have h3 := ai5 h.1
     have h4 := lu h.1
     have hk : 0 ≤ l.Count ∧ l.Count ≤ 59 := by omega
     have z1 := gi hk h.2
     have z2 := iv (dd l.Count e)
     have z3 : (cc l.Count e).size = (kp (dd l.Count e)).size + 1 := by rw [cc, ByteArray.size_append]; rfl
     refine ⟨⟨l.Durable, l.Pending ++ cc l.Count e, l.Count + 1⟩, 0, rfl, hd, ?_, ⟨by simp only []; omega, by simp only []; omega⟩⟩
     simp only [ByteArray.size_append]
     omega
 · exact ⟨l, 1, rfl, hd, hp, hn⟩
theorem ai0 (l : Log) (hd : l.Durable.size ≤ 40000) (hp : l.Pending.size ≤ 40000) (hn : bt l.Count) : ∃ (l' : Log) (b : Bool), ai9 l = [l'.v, .bool b] ∧ l'.Durable.size ≤ 40000 ∧ l'.Pending.size ≤ 40000 ∧ bt l'.Count := by
 unfold ai9
 split
 · rename_i h
   have h3 := ai5 h
   exact ⟨⟨l.Durable ++ l.Pending, ByteArray.empty, l.Count⟩, true, rfl, by simp only [ByteArray.size_append]; omega, by simp, hn⟩
 · exact ⟨⟨ByteArray.empty, ByteArray.empty, 0⟩, false, rfl, by simp, by simp, by simp [bt]⟩
theorem av9 {B : List Int} (hB : CB B) {k : Int} (hk : k ≤ 100000) {c : Cur} (hc : c.le k) : mg Tryz.prog 102 [.ptr 0 0] [some (c.cs B)] (awq B 40000 (k + 1000)) := by
 have hcb : ∀ {c' : Cur} {k' : Int}, c'.le k' → k' ≤ 4000000 → c'.le 4611686018427387903 := fun h h' => ⟨h.1, by have := h.2; omega⟩
 refine mg.intro Tryz.mixed Tryz.func102 rfl Tryz.ax1 ?_
 refine ev2 @Tryz.ntmps102 @Tryz.results102 ?_
 refine rs0 ?_
 refine ij hB hc (by omega) 7 (by omega) rfl (fun vc1 c1 pvc1 hc1 => ?_)
 refine rs1 @Cur.ren ?_
 obtain ⟨n0, hn0⟩ : ∃ n : Nat, vc1 = n := ⟨vc1.toNat, by omega⟩
 subst hn0
 refine dr.intro (fun x : Nat × Log × Cur => x.1 ≤ 7 ∧ x.2.1.Durable.size ≤ 40000 ∧ x.2.1.Pending.size ≤ 40000 ∧ bt x.2.1.Count ∧ x.2.2.le (k + 2 + 30 * (7 - (x.1 : Int)))) (fun x => ⟨(.ptr 0 0 :: .undef :: .ptr 1 0 :: .ptr 2 0 :: .int .i64 x.1 :: (un 22 [])), [some (x.2.2.cs B), some Log.zs, some x.2.1.cs], 1⟩) (fun x => x.1) (n0, ⟨ByteArray.empty, ByteArray.empty, 0⟩, c1) ⟨by simp only []; omega, by simp, by simp, by simp [bt], fi hc1 (by simp only []; omega)⟩ ?_ (fun x hx => ?_)
 · refine au.cut (3) (by simp) (by simp) ?_ ?_
   · simp [LeC, LeV, ren, bq]
   · simp [bz, cw, Cur.ren, ren, Log.zs, Log.cs]
 obtain ⟨n, l, c2⟩ := x
 obtain ⟨x1, x2, x3, x4, hc2⟩ := hx
 dsimp only at x1 x2 x3 x4 hc2
 refine ev0 ?_
 refine ay.split (fun h1 => ?_) (fun h1 => ?_)
 · have hn : 0 < n := by have := of_decide_eq_true h1; omega
   refine rs1 @h1 ?_
   refine clT.tree (fun s2 => ∃ (l' : Log) (c4 : Cur), l'.Durable.size ≤ 40000 ∧ l'.Pending.size ≤ 40000 ∧ bt l'.Count ∧ c4.le (k + 2 + 30 * (7 - (n : Int)) + 20) ∧ s2 = ⟨(.ptr 0 0 :: .undef :: .ptr 1 0 :: .ptr 2 0 :: .int .i64 n :: (un 22 [])), [some (c4.cs B), some Log.zs, some l'.cs], 1⟩) (.take 1 (.alt 0 (.alt 2 (.alt 3 (.take 4 (.take 5 (.take 6 (.alt 7 .done .stop)))) .stop) .stop) (.alt 2 (.alt 0 (.alt 3 (.take 4 (.take 5 (.take 6 (.alt 7 .done .stop)))) .stop) .stop) .stop))) (by kernel_rfl) (fun s2 hs2 => ?_) ?_
   · obtain ⟨l', c4, y1, y2, y3, hc4, rfl⟩ := hs2
     refine rs0 ?_
     refine dt hB hc4 (by omega) 4 (by omega) rfl (fun vc5 c5 hc5 => ?_)
     refine rs3 @Cur.ren @Log.zs.eq_1 @Log.cs.eq_1 ?_
     have hn1 : ((n - 1 : Nat) : Int) = (n : Int) - 1 := by omega
     refine ay.split (fun h2 => ?_) (fun h2 => ?_)
     · refine rs2 @h2 @Log.cs.eq_1 ?_
       obtain ⟨l2, b2, e2, z1, z2, z3⟩ := ai0 l' y1 y2 y3
       have hs := ah7 l' (by omega) (by omega)
       rw [e2] at hs
       (first | refine al.at (hs) ⟨leA, trivial⟩ ?_ | refine ah.at (hs) ⟨leA, trivial⟩ ?_)
       refine rs1 @Log.v.eq_1 ?_
       refine ⟨(n - 1, l2, c5), ⟨by simp only []; omega, z1, z2, z3, fi hc5 (by simp only []; omega)⟩, ?_, by simp only []; omega⟩
       refine au.cut (3) (by simp) (by simp) ?_ ?_
       · simp [LeC, LeV, ren, bq, hn1]
       · simp [bz, cw, Cur.ren, ren, Log.zs, Log.cs]
     · refine rs1 @h2 ?_
       refine ⟨(n - 1, l', c5), ⟨by simp only []; omega, y1, y2, y3, fi hc5 (by simp only []; omega)⟩, ?_, by simp only []; omega⟩
       refine au.cut (3) (by simp) (by simp) ?_ ?_
       · simp [LeC, LeV, ren, bq, hn1]
       · simp [bz, cw, Cur.ren, ren, Log.zs, Log.cs]
   · refine rs1 @Log.cs.eq_1 ?_
     repeat' (first | (refine ah.rel [0] (agn hB (by omega) hc2) (by decide) ⟨leO, trivial⟩ (dj rfl) rfl (fun r hout hΦ => ?_); obtain ⟨e, c4, he1, he2, hc4, rfl, rfl⟩ := hΦ; refine ⟨⟨⟨rfl, rfl⟩, trivial⟩, ?_⟩; obtain ⟨l2, n2, e2, z1, z2, z3⟩ := acy l e x2 x3 x4; have ha := n5 l e (by omega) (by omega) (by omega) (by omega); rw [e2] at ha; refine rs4 @Cur.ren @Log.cs.eq_1 @aw.v.eq_1 @Log.zs.eq_1 ?_) | ((first | refine al.at (ha) ⟨leA, leA, trivial⟩ ?_ | refine ah.at (ha) ⟨leA, leA, trivial⟩ ?_); refine rs1 @Log.v.eq_1 ?_) | (refine And.intro ?_ ?_) | exact trivial)
     all_goals
      refine ⟨_, ⟨l2, c4, z1, z2, z3, fi hc4 (by omega), rfl⟩, ?_⟩
      refine au.cut (3) (by simp) (by simp) ?_ ?_
      · simp [LeC, LeV, ren, bq]
      · simp [bz, cw, Cur.ren, ren, Log.zs, Log.cs]
 · refine rs2 @h1 @Log.cs.eq_1 ?_
   exact yi rfl x2 x3 x4 (fi hc2 (by omega))
end Go.Proofs
end
section
set_option maxRecDepth 100000
set_option maxHeartbeats 2000000
namespace Go.Proofs
open Go.Lv
theorem afj {B : List Int} (hB : CB B) {k : Int} (hk : k ≤ 100000) {c : Cur} (hc : c.le k) : mg Tryz.prog 60 [.ptr 0 0] [some (c.cs B)] (awq B 100000 (k + 1100)) := by
 have hcb : ∀ {c' : Cur} {k' : Int}, c'.le k' → k' ≤ 4000000 → c'.le 4611686018427387903 := fun h h' => ⟨h.1, by have := h.2; omega⟩
 refine mg.intro Tryz.mixed Tryz.func60 rfl Tryz.a2k ?_
 refine ev2 @Tryz.ntmps60 @Tryz.results60 ?_
 refine rs0 ?_
 refine ah.rel [0] (av9 hB hk hc) (by decide) ⟨leO, trivial⟩ (dj rfl) rfl (fun r hout hΦ => ?_)
 obtain ⟨l, c1, x1, x2, x3, hc1, rfl, rfl⟩ := hΦ
 refine ⟨⟨⟨rfl, rfl⟩, trivial⟩, ?_⟩
 refine rs2 @Cur.ren @Log.v.eq_1 ?_
 refine ij hB hc1 (by omega) 24 (by omega) rfl (fun vc2 c2 pvc2 hc2 => ?_)
 refine rs1 @Cur.ren ?_
 refine ay.split (fun h1 => ?_) (fun h1 => ?_)
 · refine rs1 @h1 ?_
   exact yi rfl (by omega) (by omega) (by unfold bt IntKind.wrap; simp [IntKind.bits, IntKind.signed]; omega) (fi hc2 (by omega))
 · refine rs1 @h1 ?_
   refine ay.split (fun h2 => ?_) (fun h2 => ?_)
   · refine rs1 @h2 ?_
     refine ah.rel [0] (aah hB (by omega) hc2 l.Pending ⟨#[35, 64, 10, 48, 49]⟩ (by omega) (by decide)) (by decide) ⟨leO, leO, leO, trivial⟩ (dj rfl) rfl (fun r hout hΦ => ?_)
     obtain ⟨x, c3, y1, hc3, rfl, rfl⟩ := hΦ
     refine ⟨⟨⟨rfl, rfl⟩, trivial⟩, ?_⟩
     refine rs1 @Cur.ren ?_
     exact yi rfl (by omega) (by omega) x3 (fi hc3 (by omega))
   · refine rs1 @h2 ?_
     refine ay.split (fun h3 => ?_) (fun h3 => ?_)
     · refine rs1 @h3 ?_
       exact yi rfl (by simp only [ByteArray.size_append]; omega) (by omega) x3 (fi hc2 (by omega))
     · refine rs1 @h3 ?_
       exact yi rfl (by omega) (by omega) x3 (fi hc2 (by omega))
end Go.Proofs
end
