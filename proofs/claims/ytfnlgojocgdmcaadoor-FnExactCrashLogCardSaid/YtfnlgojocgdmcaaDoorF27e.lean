/-
  The log: what a line decodes to, and the records at the beginning of a text: plain facts. Conditions: none.
-/
import Derived.Test.YtfnlgojocgdmcaaDoorF27d
set_option linter.unusedSimpArgs false
set_option linter.unusedVariables false
set_option maxRecDepth 100000
set_option maxHeartbeats 1000000
namespace Go.Proofs
open Go.Lv
theorem num_noB (c : UInt8) (hc : c.toNat < 48) : ∀ (n u : Nat), u < n → noB c (num u) = true
  | 0, u, h => by omega
  | n + 1, u, h => by
    have one : ∀ d, d < 10 → noB c (digits.extract d (d + 1)) = true := by
      intro d hd
      rw [digit_at d hd]
      have hne : (UInt8.ofNat (48 + d) == c) = false := by
        rw [beq_eq_false_iff_ne]
        intro e
        have h1 : (UInt8.ofNat (48 + d)).toNat = c.toNat := by rw [e]
        rw [UInt8.toNat_ofNat'] at h1
        omega
      show (!(UInt8.ofNat (48 + d) == c) && true) = true
      rw [hne]; rfl
    by_cases h1 : u < 10
    · rw [num_one h1]; exact one u h1
    · rw [num_more h1, noB, allS_app]
      have g1 := num_noB c hc n (u / 10) (by omega)
      have g2 := one (u % 10) (by omega)
      unfold noB at g1 g2
      rw [g1, g2]; rfl
def parseI (line : ByteArray) : LogRecord := ⟨bef 64 (aft 32 (bef 35 line)), aft 64 (aft 32 (bef 35 line))⟩
theorem seal_eq (s : ByteArray) : sealS s = s ++ (⟨#[35]⟩ ++ num (ckS s)) := by rw [sealS, ByteArray.append_assoc]
theorem text_eq (k : Int) (e : LogRecord) : recText k e = num k ++ (⟨#[32]⟩ ++ (e.Command ++ (⟨#[64]⟩ ++ e.Reply))) := by
  simp only [recText, ByteArray.append_assoc]
theorem cmd_noB {e : LogRecord} (h : recB e = true) : noB 64 e.Command = true :=
  allS_mono (recB_ok h).2.2.1 (fun b hb => by simp at hb ⊢; exact hb.2)
theorem text_bef {k : Int} {e : LogRecord} (hk : 0 ≤ k ∧ k ≤ 59) (h : recB e = true) : bef 35 (sealS (recText k e)) = recText k e := by
  rw [seal_eq]
  exact (cut_at (recText_plain hk h)).2.1
theorem parseI_ok {k : Int} {e : LogRecord} (hk : 0 ≤ k ∧ k ≤ 59) (h : recB e = true) : parseI (sealS (recText k e)) = e := by
  obtain ⟨u, rfl⟩ := Int.eq_ofNat_of_zero_le hk.1
  have n1 : noB 32 (num (u : Int)) = true := num_noB 32 (by decide) (u + 1) u (by omega)
  have a1 : aft 32 (recText u e) = e.Command ++ (⟨#[64]⟩ ++ e.Reply) := by
    rw [text_eq]; exact (cut_at n1).2.2.1
  have c := cut_at (y := e.Reply) (cmd_noB h)
  rw [parseI, text_bef hk h, a1, c.2.1, c.2.2.1]
def decE (k : Int) (line : ByteArray) : Option LogRecord := if inB' k 0 59 = true ∧ recB (parseI line) = true ∧ sealS (recText k (parseI line)) = line then some (parseI line) else none
theorem decE_some {k : Int} {line : ByteArray} {e : LogRecord} : decE k line = some e ↔ (0 ≤ k ∧ k ≤ 59) ∧ recB e = true ∧ sealS (recText k e) = line := by
  unfold decE
  constructor
  · intro g
    split at g
    · rename_i c
      simp only [Option.some.injEq] at g
      subst g
      exact ⟨inB'_iff.1 c.1, c.2.1, c.2.2⟩
    · cases g
  · rintro ⟨hk, he, rfl⟩
    rw [parseI_ok hk he, if_pos ⟨inB'_iff.2 hk, he, rfl⟩]
theorem decE_none {k : Int} {line : ByteArray} (h : ∀ e, ¬ ((0 ≤ k ∧ k ≤ 59) ∧ recB e = true ∧ sealS (recText k e) = line)) : decE k line = none := by
  cases g : decE k line with
  | none => rfl
  | some e => exact absurd (decE_some.1 g) (h e)
theorem append_right_inj {a b c : ByteArray} (h : a ++ c = b ++ c) : a = b := by
  apply ba_ext
  have := congrArg (fun x : ByteArray => x.data.toList) h
  simp only [ba_app] at this
  exact List.append_cancel_right this
theorem ba_beq (a b : ByteArray) : (a.toList == b.toList) = decide (a = b) := by
  rw [ba_list, ba_list, Bool.eq_iff_iff]
  simp only [beq_iff_eq, decide_eq_true_eq]
  exact ⟨fun h => ba_ext h, fun h => by rw [h]⟩
def decL (k : Int) (s : ByteArray) : Option (LogRecord × Nat) := if fnd 10 s = true then (decE k (bef 10 s)).map fun e => (e, (bef 10 s).size + 1) else none
/-- The reference's parse of what stands behind the number. -/
def parseR (k : Int) (line R : ByteArray) : LogRecord × Bool :=
  if (bef 64 R).size = R.size then (⟨⟨#[]⟩, ⟨#[]⟩⟩, false)
  else (⟨bef 64 R, R.extract ((bef 64 R).size + 1) R.size⟩, recB ⟨bef 64 R, R.extract ((bef 64 R).size + 1) R.size⟩ && decide (recLine k ⟨bef 64 R, R.extract ((bef 64 R).size + 1) R.size⟩ = line ++ ⟨#[10]⟩))
def parseS (k : Int) (line : ByteArray) : LogRecord × Bool :=
  if (bef 35 line).size < (num k ++ (⟨#[32]⟩ : ByteArray)).size ∨ ¬ (bef 35 line).extract 0 (num k ++ (⟨#[32]⟩ : ByteArray)).size = num k ++ (⟨#[32]⟩ : ByteArray) then (⟨⟨#[]⟩, ⟨#[]⟩⟩, false)
  else parseR k line ((bef 35 line).extract (num k ++ (⟨#[32]⟩ : ByteArray)).size (bef 35 line).size)
theorem parseS_some {k : Int} {line : ByteArray} (hk : 0 ≤ k ∧ k ≤ 59) (h : (parseS k line).2 = true) : decE k line = some (parseS k line).1 := by
  unfold parseS at h ⊢
  split
  · rename_i c; rw [if_pos c] at h; cases h
  · rename_i c
    rw [if_neg c] at h
    unfold parseR at h ⊢
    split
    · rename_i c2; rw [if_pos c2] at h; cases h
    · rename_i c2
      rw [if_neg c2] at h
      simp only [Bool.and_eq_true, decide_eq_true_eq] at h
      exact decE_some.2 ⟨hk, h.1, append_right_inj h.2⟩
theorem ext_left (a b : ByteArray) : (a ++ b).extract 0 a.size = a := by
  apply ba_ext
  rw [ba_ext_list, ba_app, List.drop_zero]
  exact List.take_left' (ba_len a)
theorem ext_right (a b : ByteArray) : (a ++ b).extract a.size (a ++ b).size = b := by
  apply ba_ext
  have hl : (a ++ b).size = (a ++ b).data.toList.length := rfl
  rw [ba_ext_list, hl, List.take_length, ba_app]
  exact List.drop_left' (ba_len a)
theorem parseS_of {k : Int} {line : ByteArray} {e : LogRecord} (h : decE k line = some e) : parseS k line = (e, true) := by
  obtain ⟨hk, he, hl⟩ := decE_some.1 h
  have ht : bef 35 line = (num k ++ (⟨#[32]⟩ : ByteArray)) ++ (e.Command ++ (⟨#[64]⟩ ++ e.Reply)) := by
    rw [← hl, text_bef hk he, text_eq]
    simp only [ByteArray.append_assoc]
  have hs : ((num k ++ (⟨#[32]⟩ : ByteArray)) ++ (e.Command ++ (⟨#[64]⟩ ++ e.Reply))).size = (num k ++ (⟨#[32]⟩ : ByteArray)).size + (e.Command ++ (⟨#[64]⟩ ++ e.Reply)).size := ByteArray.size_append
  have c := cut_at (y := e.Reply) (cmd_noB he)
  have hz : (e.Command ++ ((⟨#[64]⟩ : ByteArray) ++ e.Reply)).size = e.Command.size + (1 + e.Reply.size) := by
    rw [ByteArray.size_append, ByteArray.size_append]; rfl
  have hx : (e.Command ++ ((⟨#[64]⟩ : ByteArray) ++ e.Reply)).extract (e.Command.size + 1) (e.Command ++ ((⟨#[64]⟩ : ByteArray) ++ e.Reply)).size = e.Reply := by
    have h2 := ext_right (e.Command ++ (⟨#[64]⟩ : ByteArray)) e.Reply
    have h3 : (e.Command ++ (⟨#[64]⟩ : ByteArray)).size = e.Command.size + 1 := by rw [ByteArray.size_append]; rfl
    rw [h3, ByteArray.append_assoc] at h2
    exact h2
  have ee : (⟨e.Command, e.Reply⟩ : LogRecord) = e := rfl
  unfold parseS
  rw [ht, ext_left, ext_right, if_neg (by rw [hs]; simp), parseR, c.2.1, if_neg (by rw [hz]; omega), hx, ee, he]
  have hr : recLine k e = line ++ ⟨#[10]⟩ := by rw [recLine, hl]
  rw [hr]
  simp
/-- The records at the beginning of a text, and where the next would begin, after n rounds. -/
def rdN (s : ByteArray) : Nat → List LogRecord × Nat
  | 0 => ([], 0)
  | n + 1 => match decL (rdN s n).1.length (s.extract (rdN s n).2 s.size) with
    | some r => ((rdN s n).1 ++ [r.1], (rdN s n).2 + r.2)
    | none => rdN s n
theorem rdN_some {s : ByteArray} {n : Nat} {r : LogRecord × Nat} (h : decL (rdN s n).1.length (s.extract (rdN s n).2 s.size) = some r) : rdN s (n + 1) = ((rdN s n).1 ++ [r.1], (rdN s n).2 + r.2) := by rw [rdN, h]
theorem rdN_none {s : ByteArray} {n : Nat} (h : decL (rdN s n).1.length (s.extract (rdN s n).2 s.size) = none) : rdN s (n + 1) = rdN s n := by rw [rdN, h]
theorem rdN_stuck {s : ByteArray} {n : Nat} (h : decL (rdN s n).1.length (s.extract (rdN s n).2 s.size) = none) : ∀ m, rdN s (n + m) = rdN s n
  | 0 => rfl
  | m + 1 => by
    have ih := rdN_stuck h m
    rw [← Nat.add_assoc, rdN_none (by rw [ih]; exact h), ih]
theorem fnd_size {c : UInt8} {s : ByteArray} (h : fnd c s = true) : (bef c s).size + 1 ≤ s.size := by
  obtain ⟨x, y, e, hx⟩ := cut_find h
  have h1 := (cut_at (y := y) hx).2.1
  have h2 : (x ++ ((⟨#[c]⟩ : ByteArray) ++ y)).size = x.size + (1 + y.size) := by rw [ByteArray.size_append, ByteArray.size_append]; rfl
  rw [e, h1, h2]; omega
theorem decL_some {k : Int} {s : ByteArray} {r : LogRecord × Nat} (h : decL k s = some r) : fnd 10 s = true ∧ decE k (bef 10 s) = some r.1 ∧ r.2 = (bef 10 s).size + 1 := by
  unfold decL at h
  split at h
  · rename_i c
    cases g : decE k (bef 10 s) with
    | none => rw [g] at h; cases h
    | some e =>
      rw [g] at h
      simp only [Option.map_some, Option.some.injEq] at h
      subst h
      exact ⟨c, rfl, rfl⟩
  · cases h
theorem decL_size {k : Int} {s : ByteArray} {r : LogRecord × Nat} (h : decL k s = some r) : 1 ≤ r.2 ∧ r.2 ≤ s.size ∧ r.2 ≤ 423 := by
  obtain ⟨h1, h2, h3⟩ := decL_some h
  have := fnd_size h1
  obtain ⟨hk, he, hl⟩ := decE_some.1 h2
  have g1 := recText_size hk he
  have g2 := sealS_size (recText k r.1)
  rw [hl] at g2
  omega
theorem rdN_bd (s : ByteArray) : ∀ n, (rdN s n).2 ≤ s.size ∧ (rdN s n).2 ≤ 423 * (rdN s n).1.length ∧ (rdN s n).1.length ≤ n
  | 0 => by simp [rdN]
  | n + 1 => by
    have ih := rdN_bd s n
    cases h : decL (rdN s n).1.length (s.extract (rdN s n).2 s.size) with
    | none => rw [rdN_none h]; omega
    | some r =>
      have hz := decL_size h
      rw [ByteArray.size_extract] at hz
      rw [rdN_some h]
      simp only [List.length_append, List.length_singleton]
      omega
theorem decL_k {k : Int} {s : ByteArray} {r : LogRecord × Nat} (h : decL k s = some r) : 0 ≤ k ∧ k ≤ 59 := (decE_some.1 (decL_some h).2.1).1
theorem rdN_60 (s : ByteArray) : ∀ n, (rdN s n).1.length ≤ 60
  | 0 => by simp [rdN]
  | n + 1 => by
    have ih := rdN_60 s n
    cases h : decL (rdN s n).1.length (s.extract (rdN s n).2 s.size) with
    | none => rw [rdN_none h]; exact ih
    | some r =>
      have hz := decL_k h
      rw [rdN_some h]
      simp only [List.length_append, List.length_singleton]
      omega
def recsOf (s : ByteArray) : List LogRecord := (rdN s 60).1
def atOf (s : ByteArray) : Nat := (rdN s 60).2
/-- At the first round that finds nothing. -/
theorem rdN_done {s : ByteArray} {i : Nat} (hl : (rdN s i).1.length = i) (h : decL i (s.extract (rdN s i).2 s.size) = none) : rdN s 60 = rdN s i := by
  have h60 := rdN_60 s i
  have := rdN_stuck (s := s) (n := i) (by rw [hl]; exact h) (60 - i)
  rw [← this]
  congr 1; omega
theorem rdN_len {s : ByteArray} : ∀ {i j : Nat}, (rdN s i).1.length = i → j ≤ i → (rdN s j).1.length = j
  | 0, j, _, hj => by have : j = 0 := by omega
                      subst this; rfl
  | i + 1, j, h, hj => by
    by_cases e : j = i + 1
    · subst e; exact h
    · refine rdN_len (i := i) ?_ (by omega)
      have hb := (rdN_bd s i).2.2
      cases g : decL (rdN s i).1.length (s.extract (rdN s i).2 s.size) with
      | none => rw [rdN_none g] at h; omega
      | some r => rw [rdN_some g] at h; simp at h; exact h
def endsTo (s : ByteArray) (i : Nat) : List Int := (List.range i).map fun j => ((rdN s (j + 1)).2 : Int)
theorem endsTo_succ (s : ByteArray) (i : Nat) : endsTo s (i + 1) = endsTo s i ++ [((rdN s (i + 1)).2 : Int)] := by simp [endsTo, List.range_succ]
theorem endsTo_len (s : ByteArray) (i : Nat) : (endsTo s i).length = i := by simp [endsTo]
end Go.Proofs
