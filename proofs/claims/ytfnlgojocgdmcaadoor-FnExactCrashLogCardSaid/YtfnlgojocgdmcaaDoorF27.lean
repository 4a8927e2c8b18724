/-
  Records of the log: validity. Conditions: none.
-/
import Derived.Test.YtfnlgojocgdmcaaDoorB1
import Derived.Test.YtfnlgojocgdmcaaDoorTLogRecord
import Derived.Test.YtfnlgojocgdmcaaDoorShelf
set_option linter.unusedSimpArgs false
set_option linter.unusedVariables false
set_option maxRecDepth 100000
set_option maxHeartbeats 1000000
namespace Go.Proofs
open Go.Lv
def okByte (b : UInt8) : Bool := decide (32 ≤ b.toNat) && decide (b.toNat ≤ 126)
def allS (p : UInt8 → Bool) (s : ByteArray) : Bool := s.data.toList.all p
def allTo (p : UInt8 → Bool) (s : ByteArray) (i : Nat) : Bool := (s.data.toList.take i).all p
theorem ba_len (s : ByteArray) : s.data.toList.length = s.size := rfl
theorem ba_get (s : ByteArray) {i : Nat} (h : i < s.size) : s.data.toList[i]'h = s[i]'h := rfl
theorem allTo_succ {p : UInt8 → Bool} {s : ByteArray} {i : Nat} (h : i < s.size) : allTo p s (i + 1) = (allTo p s i && p (s[i]'h)) := by
  have hl : i < s.data.toList.length := h
  rw [allTo, List.take_succ_eq_append_getElem hl, List.all_append]
  simp [allTo, ba_get s h]
theorem allTo_end {p : UInt8 → Bool} {s : ByteArray} : allTo p s s.size = allS p s := by
  rw [allTo, ← ba_len, List.take_length]; rfl
theorem allS_no {p : UInt8 → Bool} {s : ByteArray} {i : Nat} (h : i < s.size) (hp : p (s[i]'h) = false) : allS p s = false := by
  rw [allS, List.all_eq_false]
  exact ⟨s[i]'h, by rw [← ba_get s h]; exact List.getElem_mem _, by simp [hp]⟩
theorem isPrintable_ok (s : ByteArray) (hs : s.size ≤ 281474976710656) : Ctr Tryd.prog 55 [.str s] [] (.bool (allS okByte s)) [] := by
  refine Ctr.intro Tryd.mixed Tryd.func55 rfl Tryd.okF55 ?_
  simp -implicitDefEqProofs -dsimp only [go_sem, Nat.reduceSub, Nat.reduceAdd, Nat.reduceMul, Nat.reduceLT, Nat.reduceLeDiff, Nat.reduceEqDiff, Nat.reduceDiv, Nat.reduceMod, Int.reduceToNat, Int.reduceLE, Int.reduceLT, Int.reduceBEq, Int.reduceBNe, Int.reduceNeg, Int.reduceAdd, Int.reduceSub, Int.reduceMul, reduceCtorEq, Tryd.ntmps55, Tryd.results55]
  refine LoopT.intro (fun i : Nat => i ≤ s.size ∧ allTo okByte s i = true) (fun i => ⟨[.str s, .undef, .undef, .undef, .undef, .int .i64 s.size, .int .i64 i, .undef, .undef, .undef, .undef, .undef, .undef, .undef, .undef, .undef, .undef, .undef, .undef, .undef], [], 0⟩) (fun i => s.size - i) 0 ⟨Nat.zero_le _, rfl⟩ ?_ (fun i hi => ?_)
  · refine Weak.cut (0) (by simp) (by simp) ?_ ?_
    · simp [LeC, LeV, ren, cutF]
    · rfl
  simp -implicitDefEqProofs -dsimp only [go_sem, Nat.reduceSub, Nat.reduceAdd, Nat.reduceMul, Nat.reduceLT, Nat.reduceLeDiff, Nat.reduceEqDiff, Nat.reduceDiv, Nat.reduceMod, Int.reduceToNat, Int.reduceLE, Int.reduceLT, Int.reduceBEq, Int.reduceBNe, Int.reduceNeg, Int.reduceAdd, Int.reduceSub, Int.reduceMul, reduceCtorEq]
  refine condT.split (fun h1 => ?_) (fun h1 => ?_)
  · simp -implicitDefEqProofs -dsimp only [go_sem, Nat.reduceSub, Nat.reduceAdd, Nat.reduceMul, Nat.reduceLT, Nat.reduceLeDiff, Nat.reduceEqDiff, Nat.reduceDiv, Nat.reduceMod, Int.reduceToNat, Int.reduceLE, Int.reduceLT, Int.reduceBEq, Int.reduceBNe, Int.reduceNeg, Int.reduceAdd, Int.reduceSub, Int.reduceMul, reduceCtorEq, h1]
    have hi' : i < s.size := by simpa using h1
    refine ⟨⟨by omega, hi'⟩, ?_⟩
    have hb : okByte (s[i]'hi') = (decide (32 ≤ ((s[i]'hi').toNat : Int)) && decide (((s[i]'hi').toNat : Int) ≤ 126)) := by rw [okByte, Bool.eq_iff_iff]; simp; omega
    refine guardT.splitF (fun h2 => ?_) (fun h2 => ?_) <;> simp -implicitDefEqProofs -dsimp only [go_sem, Nat.reduceSub, Nat.reduceAdd, Nat.reduceMul, Nat.reduceLT, Nat.reduceLeDiff, Nat.reduceEqDiff, Nat.reduceDiv, Nat.reduceMod, Int.reduceToNat, Int.reduceLE, Int.reduceLT, Int.reduceBEq, Int.reduceBNe, Int.reduceNeg, Int.reduceAdd, Int.reduceSub, Int.reduceMul, reduceCtorEq, h2]
    · refine ⟨⟨by omega, hi'⟩, ?_⟩
      refine condT.split (fun h3 => ?_) (fun h3 => ?_) <;> simp -implicitDefEqProofs -dsimp only [go_sem, Nat.reduceSub, Nat.reduceAdd, Nat.reduceMul, Nat.reduceLT, Nat.reduceLeDiff, Nat.reduceEqDiff, Nat.reduceDiv, Nat.reduceMod, Int.reduceToNat, Int.reduceLE, Int.reduceLT, Int.reduceBEq, Int.reduceBNe, Int.reduceNeg, Int.reduceAdd, Int.reduceSub, Int.reduceMul, reduceCtorEq, h3]
      · have hf : okByte (s[i]'hi') = false := by rw [hb]; simp at h3 ⊢; omega
        exact WeakR.drop' (by rw [allS_no hi' hf]) (by rfl)
      · have hf : okByte (s[i]'hi') = true := by rw [hb]; simp at h2 h3 ⊢; omega
        refine ⟨i + 1, ⟨hi', by rw [allTo_succ hi', hi.2, hf]; rfl⟩, ?_, by omega⟩
        refine Weak.cut (0) (by simp) (by simp) ?_ ?_
        · rw [wrap_i64 (by omega) (by omega)]; simp [LeC, LeV, ren, cutF]
        · rfl
    · have hf : okByte (s[i]'hi') = false := by rw [hb]; simp at h2 ⊢; omega
      exact WeakR.drop' (by rw [allS_no hi' hf]) (by rfl)
  · simp -implicitDefEqProofs -dsimp only [go_sem, Nat.reduceSub, Nat.reduceAdd, Nat.reduceMul, Nat.reduceLT, Nat.reduceLeDiff, Nat.reduceEqDiff, Nat.reduceDiv, Nat.reduceMod, Int.reduceToNat, Int.reduceLE, Int.reduceLT, Int.reduceBEq, Int.reduceBNe, Int.reduceNeg, Int.reduceAdd, Int.reduceSub, Int.reduceMul, reduceCtorEq, h1]
    have hi' : i = s.size := by simp at h1; omega
    subst hi'
    exact WeakR.drop' (by rw [← allTo_end, hi.2]) (by rfl)
def plainByte (b : UInt8) : Bool := okByte b && !(b == 35)
theorem l27Plain_ok (s : ByteArray) (most : Int) (hs : s.size ≤ 281474976710656) : Ctr Tryd.prog 71 [.str s, .int .i64 most] [] (.bool (allS plainByte s && decide ((s.size : Int) ≤ most))) [] := by
  refine Ctr.intro Tryd.mixed Tryd.func71 rfl Tryd.okF71 ?_
  simp -implicitDefEqProofs -dsimp only [go_sem, Nat.reduceSub, Nat.reduceAdd, Nat.reduceMul, Nat.reduceLT, Nat.reduceLeDiff, Nat.reduceEqDiff, Nat.reduceDiv, Nat.reduceMod, Int.reduceToNat, Int.reduceLE, Int.reduceLT, Int.reduceBEq, Int.reduceBNe, Int.reduceNeg, Int.reduceAdd, Int.reduceSub, Int.reduceMul, reduceCtorEq, Tryd.ntmps71, Tryd.results71]
  refine LoopT.intro (fun i : Nat => i ≤ s.size ∧ allTo plainByte s i = true) (fun i => ⟨[.str s, .int .i64 most, .undef, .undef, .undef, .int .i64 i, .undef, .undef, .undef, .undef, .undef, .undef, .undef, .undef, .undef, .undef, .undef, .undef, .undef, .undef, .undef, .undef, .undef, .undef, .undef, .undef, .undef, .undef], [], 0⟩) (fun i => s.size - i) 0 ⟨Nat.zero_le _, rfl⟩ ?_ (fun i hi => ?_)
  · refine Weak.cut (0) (by simp) (by simp) ?_ ?_
    · simp [LeC, LeV, ren, cutF]
    · rfl
  simp -implicitDefEqProofs -dsimp only [go_sem, Nat.reduceSub, Nat.reduceAdd, Nat.reduceMul, Nat.reduceLT, Nat.reduceLeDiff, Nat.reduceEqDiff, Nat.reduceDiv, Nat.reduceMod, Int.reduceToNat, Int.reduceLE, Int.reduceLT, Int.reduceBEq, Int.reduceBNe, Int.reduceNeg, Int.reduceAdd, Int.reduceSub, Int.reduceMul, reduceCtorEq]
  refine condT.split (fun h1 => ?_) (fun h1 => ?_)
  · simp -implicitDefEqProofs -dsimp only [go_sem, Nat.reduceSub, Nat.reduceAdd, Nat.reduceMul, Nat.reduceLT, Nat.reduceLeDiff, Nat.reduceEqDiff, Nat.reduceDiv, Nat.reduceMod, Int.reduceToNat, Int.reduceLE, Int.reduceLT, Int.reduceBEq, Int.reduceBNe, Int.reduceNeg, Int.reduceAdd, Int.reduceSub, Int.reduceMul, reduceCtorEq, h1]
    have hi' : i < s.size := by simpa using h1
    have hu := UInt8.toNat_lt (s[i]'hi')
    refine ⟨⟨by omega, hi'⟩, ?_⟩
    have hwr : IntKind.i64.wrap ((s[i]'hi').toNat : Int) = ((s[i]'hi').toNat : Int) := wrap_i64 (by omega) (by omega)
    try (repeat1' (first | simp -implicitDefEqProofs -dsimp only [go_sem, Nat.reduceSub, Nat.reduceAdd, Nat.reduceMul, Nat.reduceLT, Nat.reduceLeDiff, Nat.reduceEqDiff, Nat.reduceDiv, Nat.reduceMod, Int.reduceToNat, Int.reduceLE, Int.reduceLT, Int.reduceBEq, Int.reduceBNe, Int.reduceNeg, Int.reduceAdd, Int.reduceSub, Int.reduceMul, reduceCtorEq, hwr] | simp -implicitDefEqProofs -dsimp (disch := omega) only [wrap_i64]))
    (first | refine callT.at (l1In_ok _ _ _) ⟨leA, leA, leA, trivial⟩ ?_ | refine callS.at (l1In_ok _ _ _) ⟨leA, leA, leA, trivial⟩ ?_)
    simp -implicitDefEqProofs -dsimp only [go_sem, Nat.reduceSub, Nat.reduceAdd, Nat.reduceMul, Nat.reduceLT, Nat.reduceLeDiff, Nat.reduceEqDiff, Nat.reduceDiv, Nat.reduceMod, Int.reduceToNat, Int.reduceLE, Int.reduceLT, Int.reduceBEq, Int.reduceBNe, Int.reduceNeg, Int.reduceAdd, Int.reduceSub, Int.reduceMul, reduceCtorEq]
    have hb : okByte (s[i]'hi') = inB' ((s[i]'hi').toNat : Int) 32 126 := by rw [okByte, Bool.eq_iff_iff]; simp [inB']; omega
    have h35 : ((s[i]'hi') == 35) = (((s[i]'hi').toNat : Int) == 35) := by
      rw [Bool.eq_iff_iff]; simp only [beq_iff_eq]
      constructor
      · intro g; rw [g]; rfl
      · intro g; exact UInt8.toNat_inj.1 (by show _ = 35; omega)
    refine guardT.splitF (fun h2 => ?_) (fun h2 => ?_) <;> simp -implicitDefEqProofs -dsimp only [go_sem, Nat.reduceSub, Nat.reduceAdd, Nat.reduceMul, Nat.reduceLT, Nat.reduceLeDiff, Nat.reduceEqDiff, Nat.reduceDiv, Nat.reduceMod, Int.reduceToNat, Int.reduceLE, Int.reduceLT, Int.reduceBEq, Int.reduceBNe, Int.reduceNeg, Int.reduceAdd, Int.reduceSub, Int.reduceMul, reduceCtorEq, h2]
    · refine ⟨⟨by omega, hi'⟩, ?_⟩
      refine condT.split (fun h3 => ?_) (fun h3 => ?_) <;> simp -implicitDefEqProofs -dsimp only [go_sem, Nat.reduceSub, Nat.reduceAdd, Nat.reduceMul, Nat.reduceLT, Nat.reduceLeDiff, Nat.reduceEqDiff, Nat.reduceDiv, Nat.reduceMod, Int.reduceToNat, Int.reduceLE, Int.reduceLT, Int.reduceBEq, Int.reduceBNe, Int.reduceNeg, Int.reduceAdd, Int.reduceSub, Int.reduceMul, reduceCtorEq, h3]
      · have hf : plainByte (s[i]'hi') = false := by rw [plainByte, h35, h3]; simp
        exact WeakR.drop' (by rw [allS_no hi' hf]; rfl) (by rfl)
      · have hf : plainByte (s[i]'hi') = true := by rw [plainByte, h35, h3, hb]; simp at h2; simp [h2]
        refine ⟨i + 1, ⟨hi', by rw [allTo_succ hi', hi.2, hf]; rfl⟩, ?_, by omega⟩
        refine Weak.cut (0) (by simp) (by simp) ?_ ?_
        · rw [wrap_i64 (by omega) (by omega)]; simp [LeC, LeV, ren, cutF]
        · rfl
    · have hf : plainByte (s[i]'hi') = false := by rw [plainByte, hb]; simp at h2; simp [h2]
      exact WeakR.drop' (by rw [allS_no hi' hf]; rfl) (by rfl)
  · simp -implicitDefEqProofs -dsimp only [go_sem, Nat.reduceSub, Nat.reduceAdd, Nat.reduceMul, Nat.reduceLT, Nat.reduceLeDiff, Nat.reduceEqDiff, Nat.reduceDiv, Nat.reduceMod, Int.reduceToNat, Int.reduceLE, Int.reduceLT, Int.reduceBEq, Int.reduceBNe, Int.reduceNeg, Int.reduceAdd, Int.reduceSub, Int.reduceMul, reduceCtorEq, h1]
    have hi' : i = s.size := by simp at h1; omega
    subst hi'
    exact WeakR.drop' (by rw [← allTo_end, hi.2]; rfl) (by rfl)
theorem l1Stands_ok (s : ByteArray) (b : UInt8) (hs : s.size ≤ 281474976710656) : Ctr Tryd.prog 72 [.str s, .int .u8 b.toNat] [] (.bool (!(allS (fun x => !(x == b)) s))) [] := by
  refine Ctr.intro Tryd.mixed Tryd.func72 rfl Tryd.okF72 ?_
  simp -implicitDefEqProofs -dsimp only [go_sem, Nat.reduceSub, Nat.reduceAdd, Nat.reduceMul, Nat.reduceLT, Nat.reduceLeDiff, Nat.reduceEqDiff, Nat.reduceDiv, Nat.reduceMod, Int.reduceToNat, Int.reduceLE, Int.reduceLT, Int.reduceBEq, Int.reduceBNe, Int.reduceNeg, Int.reduceAdd, Int.reduceSub, Int.reduceMul, reduceCtorEq, Tryd.ntmps72, Tryd.results72]
  refine LoopT.intro (fun i : Nat => i ≤ s.size ∧ allTo (fun x => !(x == b)) s i = true) (fun i => ⟨[.str s, .int .u8 b.toNat, .undef, .undef, .undef, .int .i64 i, .undef, .undef, .undef, .undef, .undef, .undef, .undef, .undef, .undef, .undef, .undef], [], 0⟩) (fun i => s.size - i) 0 ⟨Nat.zero_le _, rfl⟩ ?_ (fun i hi => ?_)
  · refine Weak.cut (0) (by simp) (by simp) ?_ ?_
    · simp [LeC, LeV, ren, cutF]
    · rfl
  simp -implicitDefEqProofs -dsimp only [go_sem, Nat.reduceSub, Nat.reduceAdd, Nat.reduceMul, Nat.reduceLT, Nat.reduceLeDiff, Nat.reduceEqDiff, Nat.reduceDiv, Nat.reduceMod, Int.reduceToNat, Int.reduceLE, Int.reduceLT, Int.reduceBEq, Int.reduceBNe, Int.reduceNeg, Int.reduceAdd, Int.reduceSub, Int.reduceMul, reduceCtorEq]
  refine condT.split (fun h1 => ?_) (fun h1 => ?_)
  · simp -implicitDefEqProofs -dsimp only [go_sem, Nat.reduceSub, Nat.reduceAdd, Nat.reduceMul, Nat.reduceLT, Nat.reduceLeDiff, Nat.reduceEqDiff, Nat.reduceDiv, Nat.reduceMod, Int.reduceToNat, Int.reduceLE, Int.reduceLT, Int.reduceBEq, Int.reduceBNe, Int.reduceNeg, Int.reduceAdd, Int.reduceSub, Int.reduceMul, reduceCtorEq, h1]
    have hi' : i < s.size := by simpa using h1
    refine ⟨⟨by omega, hi'⟩, ?_⟩
    have hbb : ((s[i]'hi') == b) = (((s[i]'hi').toNat : Int) == (b.toNat : Int)) := by
      rw [Bool.eq_iff_iff]; simp only [beq_iff_eq]
      constructor
      · intro g; rw [g]
      · intro g; exact UInt8.toNat_inj.1 (by omega)
    refine condT.split (fun h2 => ?_) (fun h2 => ?_) <;> simp -implicitDefEqProofs -dsimp only [go_sem, Nat.reduceSub, Nat.reduceAdd, Nat.reduceMul, Nat.reduceLT, Nat.reduceLeDiff, Nat.reduceEqDiff, Nat.reduceDiv, Nat.reduceMod, Int.reduceToNat, Int.reduceLE, Int.reduceLT, Int.reduceBEq, Int.reduceBNe, Int.reduceNeg, Int.reduceAdd, Int.reduceSub, Int.reduceMul, reduceCtorEq, h2]
    · exact WeakR.drop' (by rw [allS_no hi' (by simp only [hbb, h2]; rfl)]; rfl) (by rfl)
    · refine ⟨i + 1, ⟨hi', by rw [allTo_succ hi', hi.2]; simp only [hbb, h2]; rfl⟩, ?_, by omega⟩
      refine Weak.cut (0) (by simp) (by simp) ?_ ?_
      · rw [wrap_i64 (by omega) (by omega)]; simp [LeC, LeV, ren, cutF]
      · rfl
  · simp -implicitDefEqProofs -dsimp only [go_sem, Nat.reduceSub, Nat.reduceAdd, Nat.reduceMul, Nat.reduceLT, Nat.reduceLeDiff, Nat.reduceEqDiff, Nat.reduceDiv, Nat.reduceMod, Int.reduceToNat, Int.reduceLE, Int.reduceLT, Int.reduceBEq, Int.reduceBNe, Int.reduceNeg, Int.reduceAdd, Int.reduceSub, Int.reduceMul, reduceCtorEq, h1]
    have hi' : i = s.size := by simp at h1; omega
    subst hi'
    exact WeakR.drop' (by rw [← allTo_end, hi.2]; rfl) (by rfl)
theorem containsOne_ok (s : ByteArray) (c : UInt8) : Ctr Tryd.prog 57 [.str s, .str ⟨#[c]⟩] [] (.bool (decide (0 ≤ Lib.indexByte s.data.toList c))) [] := by
  refine ⟨Tryd.okF57, fun w vs m av hH hav hgl hsz ha => ?_⟩
  obtain ⟨v, u, rfl⟩ : ∃ v u, vs = #[v, u] := by
    match vs, hsz with
    | ⟨[v, u]⟩, _ => exact ⟨v, u, rfl⟩
  have h0 := ha 0 (by simp)
  have h1 := ha 1 (by simp)
  simp only [List.getElem_cons_zero, List.getElem_cons_succ] at h0 h1
  obtain rfl : v = .string s := by
    simp at h0; cases h0; rfl
  obtain rfl : u = .string ⟨#[c]⟩ := by
    simp at h1; cases h1; rfl
  refine (Tryd.strings_Contains_one s c w).mono ?_
  rintro e w' ⟨rfl, rfl⟩
  exact ⟨_, m, rfl, Ext.refl _ _, ⟨fun i j ci cj h => by simp at h, fun id cs h => by simp at h, fun id cs h => by simp at h⟩, .bool _, fun id cs h => by simp at h⟩
theorem containsAny_ok (s chars : ByteArray) (hs : s.size < 4294967281) (hcs : chars.size < 4294967281) (has : ∀ (j : Nat) b, s.data.toList[j]? = some b → b.toNat < 128) (hac : ∀ (j : Nat) b, chars.data.toList[j]? = some b → b.toNat < 128) :
    Ctr Tryd.prog 56 [.str s, .str chars] [] (.bool (Lib.containsAny s.data.toList chars.data.toList)) [] := by
  refine ⟨Tryd.okF56, fun w vs m av hH hav hgl hsz ha => ?_⟩
  obtain ⟨v, u, rfl⟩ : ∃ v u, vs = #[v, u] := by
    match vs, hsz with
    | ⟨[v, u]⟩, _ => exact ⟨v, u, rfl⟩
  have h0 := ha 0 (by simp)
  have h1 := ha 1 (by simp)
  simp only [List.getElem_cons_zero, List.getElem_cons_succ] at h0 h1
  obtain rfl : v = .string s := by
    simp at h0; cases h0; rfl
  obtain rfl : u = .string chars := by
    simp at h1; cases h1; rfl
  refine (Tryd.strings_ContainsAny_laid s chars w hs hcs has hac).mono ?_
  rintro e w' ⟨rfl, hb⟩
  exact ⟨_, m, rfl, ⟨hb.os, hb.tape, hb.output, hb.size, fun g hg _ => hb.block g hg, fun g hg => Nat.le_of_eq (rowSize_of_block (hb.block g hg)).symm⟩, ⟨fun i j ci cj h => by simp at h, fun id cs h => by simp at h, fun id cs h => by simp at h⟩, .bool _, fun id cs h => by simp at h⟩
/-- Neither of these bytes. -/
def recB (e : LogRecord) : Bool := (decide (1 ≤ e.Command.size) && decide (e.Command.size ≤ 160)) && allS (fun b => plainByte b && !(b == 64)) e.Command && (decide (e.Reply.size ≤ 200) && allS plainByte e.Reply)
theorem allS_and (p q : UInt8 → Bool) (s : ByteArray) : allS (fun b => p b && q b) s = (allS p s && allS q s) := by
  unfold allS
  induction s.data.toList with
  | nil => rfl
  | cons a l ih => simp only [List.all_cons, ih]; cases p a <;> cases q a <;> simp
theorem indexByte_all (c : UInt8) : ∀ l : List UInt8, decide (0 ≤ Lib.indexByte l c) = !(l.all fun x => !(x == c))
  | [] => rfl
  | a :: l => by
    have ih := indexByte_all c l
    have hg := Lib.indexByte_ge l c
    unfold Lib.indexByte
    rw [List.all_cons]
    by_cases h : a = c
    · simp [h]
    · have hf : (a == c) = false := by simpa using h
      rw [hf]
      simp only [Bool.false_eq_true, if_false, Bool.not_false, Bool.true_and]
      rw [← ih]
      by_cases h1 : Lib.indexByte l c = -1
      · simp [h1]
      · have : (Lib.indexByte l c == -1) = false := by simpa using h1
        rw [this]
        rw [Bool.eq_iff_iff]; simp; omega
theorem containsAny_all (chars : List UInt8) : ∀ l : List UInt8, Lib.containsAny l chars = !(l.all fun x => !(chars.contains x))
  | [] => rfl
  | a :: l => by
    have ih := containsAny_all chars l
    have hg := Lib.indexAny_ge chars l
    unfold Lib.containsAny at ih ⊢
    unfold Lib.indexAny
    rw [List.all_cons]
    by_cases h : chars.contains a = true
    · simp only [h, if_true, Bool.not_true, Bool.false_and, Bool.not_false]; rfl
    · have hf : chars.contains a = false := by simpa using h
      rw [hf]
      simp only [Bool.false_eq_true, if_false, Bool.not_false, Bool.true_and]
      rw [← ih]
      by_cases h1 : Lib.indexAny l chars = -1
      · simp [h1]
      · have : (Lib.indexAny l chars == -1) = false := by simpa using h1
        rw [this]
        rw [Bool.eq_iff_iff]; simp; omega
end Go.Proofs
