/-
  Texts cut at a byte, and split. Conditions: none.
-/
import Derived.Test.YtfnlgojocgdmcaaDoorF27c
import Derived.Test.YtfnlgojocgdmcaaDoorTStringS
set_option linter.unusedSimpArgs false
set_option linter.unusedVariables false
set_option maxRecDepth 100000
set_option maxHeartbeats 1000000
namespace Go.Proofs
open Go.Lv
theorem ba_ext {a b : ByteArray} (h : a.data.toList = b.data.toList) : a = b := by
  apply ByteArray.ext
  exact Array.toList_inj.1 h
theorem ba_app (a b : ByteArray) : (a ++ b).data.toList = a.data.toList ++ b.data.toList := by simp [ByteArray.data_append]
theorem ba_ext_list (s : ByteArray) (a b : Nat) : (s.extract a b).data.toList = (s.data.toList.take b).drop a := by
  rw [ByteArray.data_extract, Array.toList_extract, List.extract_eq_take_drop, List.drop_take]
def idx (c : UInt8) (s : ByteArray) : Int := Lib.indexByte s.data.toList c
def fnd (c : UInt8) (s : ByteArray) : Bool := decide (0 ≤ idx c s)
def bef (c : UInt8) (s : ByteArray) : ByteArray := if 0 ≤ idx c s then s.extract 0 (idx c s).toNat else s
def aft (c : UInt8) (s : ByteArray) : ByteArray := if 0 ≤ idx c s then s.extract ((idx c s).toNat + 1) s.size else ⟨#[]⟩
theorem ib_app {c : UInt8} : ∀ {x : List UInt8} (y : List UInt8), (x.all fun b => !(b == c)) = true → Lib.indexByte (x ++ c :: y) c = x.length
  | [], y, _ => by simp [Lib.indexByte]
  | a :: x, y, h => by
    simp only [List.all_cons, Bool.and_eq_true] at h
    have hf : (a == c) = false := by simpa using h.1
    rw [List.cons_append, Lib.indexByte, hf, ib_app y h.2]
    have : ((x.length : Int) == -1) = false := by simp
    simp [this]
theorem ib_none {c : UInt8} : ∀ {x : List UInt8}, (x.all fun b => !(b == c)) = true → Lib.indexByte x c = -1
  | [], _ => rfl
  | a :: x, h => by
    simp only [List.all_cons, Bool.and_eq_true] at h
    have hf : (a == c) = false := by simpa using h.1
    rw [Lib.indexByte, hf, ib_none h.2]
    rfl
theorem ib_find {c : UInt8} : ∀ {l : List UInt8}, 0 ≤ Lib.indexByte l c → ∃ x y, l = x ++ c :: y ∧ (x.all fun b => !(b == c)) = true
  | [], h => by simp [Lib.indexByte] at h
  | a :: l, h => by
    by_cases e : a = c
    · exact ⟨[], l, by simp [e], rfl⟩
    · have hf : (a == c) = false := by simpa using e
      rw [Lib.indexByte, hf] at h
      by_cases e2 : Lib.indexByte l c = -1
      · simp [e2] at h
      · have hg := Lib.indexByte_ge l c
        obtain ⟨x, y, h1, h2⟩ := ib_find (l := l) (c := c) (by omega)
        refine ⟨a :: x, y, by rw [h1]; rfl, ?_⟩
        rw [List.all_cons, hf, h2]; rfl
def noB (c : UInt8) (s : ByteArray) : Bool := allS (fun b => !(b == c)) s
theorem cut_at {c : UInt8} {x y : ByteArray} (h : noB c x = true) : idx c (x ++ (⟨#[c]⟩ ++ y)) = x.size ∧ bef c (x ++ (⟨#[c]⟩ ++ y)) = x ∧ aft c (x ++ (⟨#[c]⟩ ++ y)) = y ∧ fnd c (x ++ (⟨#[c]⟩ ++ y)) = true := by
  have e : (x ++ (⟨#[c]⟩ ++ y)).data.toList = x.data.toList ++ c :: y.data.toList := by rw [ba_app, ba_app]; rfl
  have hi : idx c (x ++ (⟨#[c]⟩ ++ y)) = x.size := by
    rw [idx, e, ib_app _ h, ba_len]
  have hp : (0 : Int) ≤ x.size := by omega
  refine ⟨hi, ?_, ?_, ?_⟩
  · rw [bef, hi, if_pos hp]
    apply ba_ext
    rw [ba_ext_list, e, Int.toNat_natCast, List.drop_zero]
    exact List.take_left' (ba_len x)
  · rw [aft, hi, if_pos hp]
    apply ba_ext
    have hl : (x ++ (⟨#[c]⟩ ++ y)).size = (x ++ (⟨#[c]⟩ ++ y)).data.toList.length := rfl
    rw [ba_ext_list, Int.toNat_natCast, hl, List.take_length, e]
    have e2 : x.data.toList ++ c :: y.data.toList = (x.data.toList ++ [c]) ++ y.data.toList := by simp
    rw [e2]
    exact List.drop_left' (by rw [List.length_append, ba_len]; rfl)
  · rw [fnd, hi]; exact decide_eq_true hp
theorem cut_none {c : UInt8} {x : ByteArray} (h : noB c x = true) : idx c x = -1 ∧ bef c x = x ∧ aft c x = ⟨#[]⟩ ∧ fnd c x = false := by
  have hi : idx c x = -1 := ib_none h
  refine ⟨hi, ?_, ?_, ?_⟩
  · rw [bef, hi]; rfl
  · rw [aft, hi]; rfl
  · rw [fnd, hi]; rfl
theorem cut_find {c : UInt8} {s : ByteArray} (h : fnd c s = true) : ∃ x y, s = x ++ (⟨#[c]⟩ ++ y) ∧ noB c x = true := by
  obtain ⟨x, y, h1, h2⟩ := ib_find (of_decide_eq_true h)
  refine ⟨⟨x.toArray⟩, ⟨y.toArray⟩, ?_, ?_⟩
  · apply ba_ext
    rw [ba_app, ba_app, h1]
    simp
  · unfold noB allS; simpa using h2
theorem idx_le (c : UInt8) (s : ByteArray) : -1 ≤ idx c s ∧ idx c s < s.size := by
  refine ⟨Lib.indexByte_ge _ _, ?_⟩
  by_cases h : 0 ≤ idx c s
  · obtain ⟨x, y, e, hx⟩ := cut_find (c := c) (s := s) (decide_eq_true h)
    rw [e, (cut_at hx).1]
    simp only [ByteArray.size_append]
    have : (⟨#[c]⟩ : ByteArray).size = 1 := rfl
    omega
  · omega
theorem bef_size (c : UInt8) (s : ByteArray) : (bef c s).size ≤ s.size := by
  have := idx_le c s
  unfold bef; split
  · rw [ByteArray.size_extract]; omega
  · exact Nat.le_refl _
theorem aft_size (c : UInt8) (s : ByteArray) : (aft c s).size ≤ s.size := by
  unfold aft; split
  · rw [ByteArray.size_extract]; omega
  · exact Nat.zero_le _
theorem indexOne_ok (s : ByteArray) (c : UInt8) : Ctr Tryd.prog 104 [.str s, .str ⟨#[c]⟩] [] (.int .i64 (idx c s)) [] := by
  refine ⟨Tryd.okF104, fun w vs m av hH hav hgl hsz ha => ?_⟩
  obtain ⟨v, u, rfl⟩ : ∃ v u, vs = #[v, u] := by
    match vs, hsz with
    | ⟨[v, u]⟩, _ => exact ⟨v, u, rfl⟩
  have h0 := ha 0 (by simp)
  have h1 := ha 1 (by simp)
  simp only [List.getElem_cons_zero, List.getElem_cons_succ] at h0 h1
  obtain rfl : v = .string s := by
    simp at h0; cases h0; rfl
  obtain rfl : u = .string ⟨#[c]⟩ := by
    simp at h1; cases h1; rfl
  refine (Tryd.stringslite_Index_one s c w).mono ?_
  rintro e w' ⟨rfl, rfl⟩
  exact ⟨_, m, rfl, Ext.refl _ _, ⟨fun i j ci cj h => by simp at h, fun id cs h => by simp at h, fun id cs h => by simp at h⟩, .int _ _, fun id cs h => by simp at h⟩
theorem liteCut_ok (s : ByteArray) (c : UInt8) (hs : s.size ≤ 281474976710656) : Ctr Tryd.prog 115 [.str s, .str ⟨#[c]⟩] [] (.tup [.str (bef c s), .str (aft c s), .bool (fnd c s)]) [] := by
  have hi := idx_le c s
  refine Ctr.intro Tryd.mixed Tryd.func115 rfl Tryd.okF115 ?_
  simp -implicitDefEqProofs -dsimp only [go_sem, Nat.reduceSub, Nat.reduceAdd, Nat.reduceMul, Nat.reduceLT, Nat.reduceLeDiff, Nat.reduceEqDiff, Nat.reduceDiv, Nat.reduceMod, Int.reduceToNat, Int.reduceLE, Int.reduceLT, Int.reduceBEq, Int.reduceBNe, Int.reduceNeg, Int.reduceAdd, Int.reduceSub, Int.reduceMul, reduceCtorEq, Tryd.ntmps115, Tryd.results115]
  (first | refine callT.at (indexOne_ok s c) ⟨leA, leA, trivial⟩ ?_ | refine callS.at (indexOne_ok s c) ⟨leA, leA, trivial⟩ ?_)
  simp -implicitDefEqProofs -dsimp only [go_sem, Nat.reduceSub, Nat.reduceAdd, Nat.reduceMul, Nat.reduceLT, Nat.reduceLeDiff, Nat.reduceEqDiff, Nat.reduceDiv, Nat.reduceMod, Int.reduceToNat, Int.reduceLE, Int.reduceLT, Int.reduceBEq, Int.reduceBNe, Int.reduceNeg, Int.reduceAdd, Int.reduceSub, Int.reduceMul, reduceCtorEq]
  refine condT.split (fun h1 => ?_) (fun h1 => ?_) <;> simp -implicitDefEqProofs -dsimp only [go_sem, Nat.reduceSub, Nat.reduceAdd, Nat.reduceMul, Nat.reduceLT, Nat.reduceLeDiff, Nat.reduceEqDiff, Nat.reduceDiv, Nat.reduceMod, Int.reduceToNat, Int.reduceLE, Int.reduceLT, Int.reduceBEq, Int.reduceBNe, Int.reduceNeg, Int.reduceAdd, Int.reduceSub, Int.reduceMul, reduceCtorEq, h1]
  · have h1' := of_decide_eq_true h1
    repeat (with_reducible refine sideA ?_)
    have e1 : ((#[c] : Array UInt8).size : Int) = 1 := rfl
    have e2 : (idx c s + 1).toNat = (idx c s).toNat + 1 := by omega
    rw [e1, wrap_i64 (by omega) (by omega), e2]
    refine ⟨⟨by omega, by omega⟩, WeakR.drop' ?_ (by rfl)⟩
    rw [bef, aft, fnd, if_pos h1', if_pos h1', h1]
  · have h1' := of_decide_eq_false h1
    exact WeakR.drop' (by rw [bef, aft, fnd, if_neg h1', if_neg h1', h1]) (by rfl)
theorem cut_ok (s : ByteArray) (c : UInt8) (hs : s.size ≤ 281474976710656) : Ctr Tryd.prog 99 [.str s, .str ⟨#[c]⟩] [] (.tup [.str (bef c s), .str (aft c s), .bool (fnd c s)]) [] := by
  refine Ctr.intro Tryd.mixed Tryd.func99 rfl Tryd.okF99 ?_
  simp -implicitDefEqProofs -dsimp only [go_sem, Nat.reduceSub, Nat.reduceAdd, Nat.reduceMul, Nat.reduceLT, Nat.reduceLeDiff, Nat.reduceEqDiff, Nat.reduceDiv, Nat.reduceMod, Int.reduceToNat, Int.reduceLE, Int.reduceLT, Int.reduceBEq, Int.reduceBNe, Int.reduceNeg, Int.reduceAdd, Int.reduceSub, Int.reduceMul, reduceCtorEq, Tryd.ntmps99, Tryd.results99]
  (first | refine callT.at (liteCut_ok s c hs) ⟨leA, leA, trivial⟩ ?_ | refine callS.at (liteCut_ok s c hs) ⟨leA, leA, trivial⟩ ?_)
  simp -implicitDefEqProofs -dsimp only [go_sem, Nat.reduceSub, Nat.reduceAdd, Nat.reduceMul, Nat.reduceLT, Nat.reduceLeDiff, Nat.reduceEqDiff, Nat.reduceDiv, Nat.reduceMod, Int.reduceToNat, Int.reduceLE, Int.reduceLT, Int.reduceBEq, Int.reduceBNe, Int.reduceNeg, Int.reduceAdd, Int.reduceSub, Int.reduceMul, reduceCtorEq]
  exact WeakR.drop' rfl (by rfl)
/-- The pieces, and where the next begins, after i bytes. -/
def splTo (c : UInt8) (s : ByteArray) : Nat → List ByteArray × Nat
  | 0 => ([], 0)
  | i + 1 => if h : i < s.size then (if (s[i]'h == c) = true then ((splTo c s i).1 ++ [s.extract (splTo c s i).2 i], i + 1) else splTo c s i) else splTo c s i
theorem splTo_yes {c : UInt8} {s : ByteArray} {i : Nat} (h : i < s.size) (hc : (s[i]'h == c) = true) : splTo c s (i + 1) = ((splTo c s i).1 ++ [s.extract (splTo c s i).2 i], i + 1) := by
  rw [splTo, dif_pos h, if_pos hc]
theorem splTo_no {c : UInt8} {s : ByteArray} {i : Nat} (h : i < s.size) (hc : (s[i]'h == c) = false) : splTo c s (i + 1) = splTo c s i := by
  rw [splTo, dif_pos h, if_neg (by simp [hc])]
theorem splTo_bd (c : UInt8) (s : ByteArray) : ∀ i, i ≤ s.size → (splTo c s i).2 ≤ i ∧ (splTo c s i).1.length ≤ i
  | 0, _ => by simp [splTo]
  | i + 1, h => by
    have ih := splTo_bd c s i (by omega)
    have hi : i < s.size := by omega
    cases hc : (s[i]'hi == c) with
    | true => rw [splTo_yes hi hc]; simp; omega
    | false => rw [splTo_no hi hc]; omega
def splS (c : UInt8) (s : ByteArray) : List ByteArray := (splTo c s s.size).1 ++ [s.extract (splTo c s s.size).2 s.size]
theorem idx_first {c : UInt8} {s : ByteArray} {i : Nat} (h : i < s.size) (h0 : allTo (fun b => !(b == c)) s i = true) (hc : (s[i]'h == c) = true) : idx c s = i := by
  have hl : i < s.data.toList.length := h
  have e : s.data.toList = s.data.toList.take i ++ c :: s.data.toList.drop (i + 1) := by
    have : s.data.toList[i] = c := by rw [ba_get s h]; simpa using hc
    rw [← this, ← List.drop_eq_getElem_cons hl, List.take_append_drop]
  rw [idx, e, ib_app _ h0]
  simp
  omega
theorem spl_first (c : UInt8) (s : ByteArray) : ∀ i, i ≤ s.size → (allTo (fun b => !(b == c)) s i = true → splTo c s i = ([], 0)) ∧ (allTo (fun b => !(b == c)) s i = false → fnd c s = true ∧ ∃ l, (splTo c s i).1 = bef c s :: l)
  | 0, _ => ⟨fun _ => rfl, fun h => by simp [allTo] at h⟩
  | i + 1, h => by
    have hi : i < s.size := by omega
    obtain ⟨h1, h2⟩ := spl_first c s i (by omega)
    cases hc : (s[i]'hi == c) with
    | true =>
      rw [splTo_yes hi hc, allTo_succ hi]
      refine ⟨fun g => by simp [hc] at g, fun _ => ?_⟩
      cases ha : allTo (fun b => !(b == c)) s i with
      | true =>
        have hx := idx_first hi ha hc
        refine ⟨by rw [fnd, hx]; exact decide_eq_true (by omega), [], ?_⟩
        rw [h1 ha, bef, hx, if_pos (by omega)]
        simp
      | false =>
        obtain ⟨g1, l, g2⟩ := h2 ha
        refine ⟨g1, l ++ [s.extract (splTo c s i).2 i], ?_⟩
        rw [g2]; rfl
    | false =>
      rw [splTo_no hi hc, allTo_succ hi]
      have e : (allTo (fun b => !(b == c)) s i && !(s[i]'hi == c)) = allTo (fun b => !(b == c)) s i := by rw [hc]; simp
      rw [e]
      exact ⟨h1, h2⟩
theorem splS_spec (c : UInt8) (s : ByteArray) : ∃ l, splS c s = bef c s :: l ∧ (l = [] ↔ fnd c s = false) := by
  obtain ⟨h1, h2⟩ := spl_first c s s.size (Nat.le_refl _)
  rw [allTo_end] at h1 h2
  cases ha : allS (fun b => !(b == c)) s with
  | true =>
    obtain ⟨_, g2, _, g4⟩ := cut_none (c := c) (x := s) ha
    refine ⟨[], ?_, by simp [g4]⟩
    rw [splS, h1 ha, g2]
    simp
  | false =>
    obtain ⟨g1, l, g2⟩ := h2 ha
    refine ⟨l ++ [s.extract (splTo c s s.size).2 s.size], by rw [splS, g2]; rfl, ?_⟩
    rw [g1]
    simp
theorem l1Split_ok (s : ByteArray) (c : UInt8) (hs : s.size ≤ 16777216) : Ctr Tryd.prog 77 [.str s, .int .u8 c.toNat] [] (.osl 0 0 (splS c s).length 1) [some (rows StringS.cs (splS c s))] := by
  refine Ctr.intro Tryd.mixed Tryd.func77 rfl Tryd.okF77 ?_
  simp -implicitDefEqProofs -dsimp only [go_sem, Nat.reduceSub, Nat.reduceAdd, Nat.reduceMul, Nat.reduceLT, Nat.reduceLeDiff, Nat.reduceEqDiff, Nat.reduceDiv, Nat.reduceMod, Int.reduceToNat, Int.reduceLE, Int.reduceLT, Int.reduceBEq, Int.reduceBNe, Int.reduceNeg, Int.reduceAdd, Int.reduceSub, Int.reduceMul, reduceCtorEq, Tryd.ntmps77, Tryd.results77]
  refine LoopT.intro (fun i : Nat => i ≤ s.size) (fun i => ⟨[.str s, .int .u8 c.toNat, .undef, .undef, .undef, .osl 0 0 (splTo c s i).1.length 1, .int .i64 (splTo c s i).2, .int .i64 i, .undef, .undef, .undef, .undef, .undef, .undef, .undef, .undef, .undef, .undef, .undef, .undef, .undef, .undef, .undef, .undef, .undef, .undef, .undef, .undef, .undef, .undef, .undef, .undef, .undef, .undef, .undef], [some (rows StringS.cs (splTo c s i).1)], 0⟩) (fun i => s.size - i) 0 (Nat.zero_le _) ?_ (fun i hi => ?_)
  · refine Weak.cut (1) (by simp) (by simp) ?_ ?_
    · simp [LeC, LeV, ren, cutF, splTo]
    · simp [cutH, cutB, splTo, rows]
  have hbd := splTo_bd c s i hi
  simp -implicitDefEqProofs -dsimp only [go_sem, Nat.reduceSub, Nat.reduceAdd, Nat.reduceMul, Nat.reduceLT, Nat.reduceLeDiff, Nat.reduceEqDiff, Nat.reduceDiv, Nat.reduceMod, Int.reduceToNat, Int.reduceLE, Int.reduceLT, Int.reduceBEq, Int.reduceBNe, Int.reduceNeg, Int.reduceAdd, Int.reduceSub, Int.reduceMul, reduceCtorEq]
  refine condT.split (fun h1 => ?_) (fun h1 => ?_)
  · simp -implicitDefEqProofs -dsimp only [go_sem, Nat.reduceSub, Nat.reduceAdd, Nat.reduceMul, Nat.reduceLT, Nat.reduceLeDiff, Nat.reduceEqDiff, Nat.reduceDiv, Nat.reduceMod, Int.reduceToNat, Int.reduceLE, Int.reduceLT, Int.reduceBEq, Int.reduceBNe, Int.reduceNeg, Int.reduceAdd, Int.reduceSub, Int.reduceMul, reduceCtorEq, h1]
    have hi' : i < s.size := by simpa using h1
    refine ⟨⟨by omega, hi'⟩, ?_⟩
    have hbb : ((s[i]'hi') == c) = (((s[i]'hi').toNat : Int) == (c.toNat : Int)) := by
      rw [Bool.eq_iff_iff]; simp only [beq_iff_eq]
      constructor
      · intro g; rw [g]
      · intro g; exact UInt8.toNat_inj.1 (by omega)
    refine condT.split (fun h2 => ?_) (fun h2 => ?_) <;> simp -implicitDefEqProofs -dsimp only [go_sem, Nat.reduceSub, Nat.reduceAdd, Nat.reduceMul, Nat.reduceLT, Nat.reduceLeDiff, Nat.reduceEqDiff, Nat.reduceDiv, Nat.reduceMod, Int.reduceToNat, Int.reduceLE, Int.reduceLT, Int.reduceBEq, Int.reduceBNe, Int.reduceNeg, Int.reduceAdd, Int.reduceSub, Int.reduceMul, reduceCtorEq, h2]
    · (repeat ((repeat1' (first | simp -implicitDefEqProofs -dsimp only [go_sem, Nat.reduceSub, Nat.reduceAdd, Nat.reduceMul, Nat.reduceLT, Nat.reduceLeDiff, Nat.reduceEqDiff, Nat.reduceDiv, Nat.reduceMod, Int.reduceToNat, Int.reduceLE, Int.reduceLT, Int.reduceBEq, Int.reduceBNe, Int.reduceNeg, Int.reduceAdd, Int.reduceSub, Int.reduceMul, reduceCtorEq, rows_length, rows_cell, Nat.mul_one] | simp -implicitDefEqProofs -dsimp (disch := omega) only [wrap_i64])); repeat (with_reducible refine sideA ?_)))
      refine ⟨i + 1, hi', ?_, by omega⟩
      refine Weak.cut (1) (by simp) (by simp) ?_ ?_
      · rw [splTo_yes hi' (by rw [hbb]; exact h2)]
        simp [LeC, LeV, ren, cutF]
      · rw [splTo_yes hi' (by rw [hbb]; exact h2), ← rows_snoc]
        simp [cutH, cutB, ren, cutF, map_ren_rows, killC, StringS.cs]
    · try (repeat1' (first | simp -implicitDefEqProofs -dsimp only [go_sem, Nat.reduceSub, Nat.reduceAdd, Nat.reduceMul, Nat.reduceLT, Nat.reduceLeDiff, Nat.reduceEqDiff, Nat.reduceDiv, Nat.reduceMod, Int.reduceToNat, Int.reduceLE, Int.reduceLT, Int.reduceBEq, Int.reduceBNe, Int.reduceNeg, Int.reduceAdd, Int.reduceSub, Int.reduceMul, reduceCtorEq] | simp -implicitDefEqProofs -dsimp (disch := omega) only [wrap_i64]))
      refine ⟨i + 1, hi', ?_, by omega⟩
      refine Weak.cut (1) (by simp) (by simp) ?_ ?_
      · rw [splTo_no hi' (by rw [hbb]; exact h2)]
        simp [LeC, LeV, ren, cutF]
      · rw [splTo_no hi' (by rw [hbb]; exact h2)]
        simp [cutH, cutB, map_ren_rows]
  · simp -implicitDefEqProofs -dsimp only [go_sem, Nat.reduceSub, Nat.reduceAdd, Nat.reduceMul, Nat.reduceLT, Nat.reduceLeDiff, Nat.reduceEqDiff, Nat.reduceDiv, Nat.reduceMod, Int.reduceToNat, Int.reduceLE, Int.reduceLT, Int.reduceBEq, Int.reduceBNe, Int.reduceNeg, Int.reduceAdd, Int.reduceSub, Int.reduceMul, reduceCtorEq, h1]
    have hi' : i = s.size := by simp at h1; omega
    subst hi'
    (repeat ((repeat1' (first | simp -implicitDefEqProofs -dsimp only [go_sem, Nat.reduceSub, Nat.reduceAdd, Nat.reduceMul, Nat.reduceLT, Nat.reduceLeDiff, Nat.reduceEqDiff, Nat.reduceDiv, Nat.reduceMod, Int.reduceToNat, Int.reduceLE, Int.reduceLT, Int.reduceBEq, Int.reduceBNe, Int.reduceNeg, Int.reduceAdd, Int.reduceSub, Int.reduceMul, reduceCtorEq, rows_length, rows_cell, Nat.mul_one] | simp -implicitDefEqProofs -dsimp (disch := omega) only [wrap_i64])); repeat (with_reducible refine sideA ?_)))
    have hl : (splS c s).length = (splTo c s s.size).1.length + 1 := by simp [splS]
    rw [hl]
    refine WeakR.pick [0] (by decide) (fun j hj => by omega) (.inl ?_) ?_
    · rfl
    · simp only [pickH, List.map_cons, List.map_nil, pickB, List.getElem?_cons_zero, splS, ← rows_snoc]
      simp [ren, pickF, posOf, map_ren_rows, StringS.cs, killC]
end Go.Proofs
