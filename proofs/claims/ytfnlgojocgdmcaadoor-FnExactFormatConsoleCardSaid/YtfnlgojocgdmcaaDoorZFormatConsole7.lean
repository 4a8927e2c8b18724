/-
  A part of the proof: texts put together by a program of the prover. Conditions: none.
-/
import Derived.Test.YtfnlgojocgdmcaaDoorZFormatConsole6
set_option linter.unusedSimpArgs false
set_option linter.unusedVariables false
section
set_option linter.unusedSimpArgs false
set_option linter.unusedVariables false
namespace Go.Lv

theorem shC_struct {P : Program} {t : TypeId} {n : Nat} {xs : List V} {fs : Array Field} (hs : P.underlying t = some (.struct fs)) (h : ShC P (n + 1) t xs) : xs.length = P.cellsOf t ∧ ∀ f ∈ fs.toList, ShC P n f.type ((xs.drop f.offset).take (P.cellsOf f.type)) := by
  simp only [ShC, hs] at h
  exact h

theorem shC_int {P : Program} {t : TypeId} {n : Nat} {xs : List V} (hs : P.underlying t = some (.int .i64)) (h : ShC P (n + 1) t xs) : ∃ z, xs = [.int .i64 z] ∧ i64R z := by
  simp only [ShC, hs] at h
  obtain ⟨z, h1, h2⟩ := h
  refine ⟨z, h1, ?_⟩
  simp [Lit.wf, IntKind.min, IntKind.max, IntKind.signed, IntKind.bits] at h2
  exact h2

theorem shC_bool {P : Program} {t : TypeId} {n : Nat} {xs : List V} (hs : P.underlying t = some .bool) (h : ShC P (n + 1) t xs) : ∃ b, xs = [.bool b] := by
  simp only [ShC, hs] at h
  exact h

theorem shC_str {P : Program} {t : TypeId} {n : Nat} {xs : List V} (hs : P.underlying t = some .string) (h : ShC P (n + 1) t xs) : ∃ s, xs = [.str s] ∧ strR s := by
  simp only [ShC, hs] at h
  obtain ⟨s, h1, h2⟩ := h
  exact ⟨s, h1, h2⟩

theorem shC_list {P : Program} {t e : TypeId} {n : Nat} {xs : List V} (hs : P.underlying t = some (.slice e)) {α : Type} {cs : α → List V} {w : Nat} (hw : P.cellsOf e = w) {ok : α → Prop}
    (he : ∀ ys, ShC P n e ys → ∃ a, ys = cs a ∧ ok a) (h : ShC P (n + 1) t xs) : ∃ L : List α, xs = [.sl L.length w (rows cs L)] ∧ lstR ok L := by
  simp only [ShC, hs, hw] at h
  obtain ⟨l, ys, rfl, hl, hlen, hel⟩ := h
  suffices ∀ (l : Nat) (ys : List V), ys.length = l * w → (∀ i, i < l → ShC P n e ((ys.drop (i * w)).take w)) → ∃ L : List α, L.length = l ∧ rows cs L = ys ∧ ∀ x ∈ L, ok x by
    obtain ⟨L, h1, h2, h3⟩ := this l ys hlen hel
    exact ⟨L, by rw [h1, h2], by rw [h1]; exact hl, h3⟩
  intro l
  induction l with
  | zero => intro ys h1 _; exact ⟨[], rfl, by simp at h1; simp [rows, h1], fun x hx => by simp at hx⟩
  | succ l ih =>
    intro ys h1 h2
    obtain ⟨a, ha, hoa⟩ := he _ (h2 0 (by omega))
    rw [Nat.zero_mul, List.drop_zero] at ha
    obtain ⟨L, h3, h4, h5⟩ := ih (ys.drop w) (by rw [List.length_drop, h1, Nat.succ_mul]; omega) (fun i hi => by
      have := h2 (i + 1) (by omega)
      rw [List.drop_drop]
      rwa [Nat.succ_mul, Nat.add_comm] at this)
    refine ⟨a :: L, by simp [h3], ?_, ?_⟩
    · rw [rows_cons, h4, ← ha, List.take_append_drop]
    · intro x hx
      rcases List.mem_cons.1 hx with rfl | hx
      · exact hoa
      · exact h5 x hx

end Go.Lv
end
