/-
  A region whose order is drawn, with chains of appends: whatever the order. Conditions: the program follows every order (every checked program does).
-/
import Derived.Test.YtfnlgojocgdmcaaDoorLvZ
set_option linter.unusedSimpArgs false
set_option linter.unusedVariables false
namespace Go.Lv

section
variable {P : Program} {ops : Array Oper} {z q tk : Nat → Bool} {B : Nat → Nat → Prop} {tab : List (Option CE)} {tips : List Tip} {w0 : World} {m0 : Nat → Nat} {h0 : Hp} {av0 : Nat → Prop}

/-- Nothing that has run comes behind it. -/
def unsup (tab : List (Option CE)) (S : Nat → Bool) (i : Nat) : Prop := ∀ k ek, ceAt tab k = some ek → ek.pv = some i → S k = false

structure GI (P : Program) (tab : List (Option CE)) (he : Hp) (te : List V) (S : Nat → Bool) (H : Hp) (γ : Nat → Nat) (X : Nat → V) : Prop where
  hx : ∀ i e, ceAt tab i = some e → S i = true → X i = .osl (γ i) 0 (sumN he te e.ys) (szOf P e.ty) ∧ he.length ≤ γ i
  hb : ∀ i e, ceAt tab i = some e → S i = true → unsup tab S i → H[γ i]? = some (some (catC he te e.ys))
  hd : ∀ i j ei ej, ceAt tab i = some ei → ceAt tab j = some ej → S i = true → S j = true → unsup tab S i → unsup tab S j → i ≠ j → γ i ≠ γ j
  hl : ∀ i e, ceAt tab i = some e → S i = true → (catC he te e.ys).length = sumN he te e.ys * szOf P e.ty

theorem GI.step {he : Hp} {te : List V} {S S' : Nat → Bool} {H H' : Hp} {γ : Nat → Nat} {X : Nat → V} (J : GI P tab he te S H γ X) {i : Nat} {e : CE} (hi : ceAt tab i = some e) (hS : ∀ j, S' j = if i = j then true else S j) {g : Nat} {x : V}
    (p1 : ∀ j ej, j ≠ i → ceAt tab j = some ej → S j = true → unsup tab S' j → H[γ j]? = some (some (catC he te ej.ys)) → H'[γ j]? = some (some (catC he te ej.ys))) (p2 : H'[g]? = some (some (catC he te e.ys)))
    (p3 : ∀ j ej, j ≠ i → ceAt tab j = some ej → S j = true → unsup tab S' j → γ j ≠ g) (p4 : x = .osl g 0 (sumN he te e.ys) (szOf P e.ty)) (p5 : he.length ≤ g) (p6 : (catC he te e.ys).length = sumN he te e.ys * szOf P e.ty) :
    GI P tab he te S' H' (fun j => if j = i then g else γ j) (fun j => if j = i then x else X j) := by
  have hsub : ∀ j, unsup tab S' j → unsup tab S j := fun j hu k ek h1 h2 => by
    have := hu k ek h1 h2
    rw [hS] at this
    split at this
    · cases this
    · exact this
  have hold : ∀ j, j ≠ i → S' j = true → S j = true := fun j hj h => by rw [hS, if_neg (Ne.symm hj)] at h; exact h
  refine ⟨fun j ej h1 h2 => ?_, fun j ej h1 h2 h3 => ?_, fun j l ej el h1 h2 h3 h4 h5 h6 hne => ?_, fun j ej h1 h2 => ?_⟩
  · by_cases e1 : j = i
    · subst e1
      rw [hi] at h1; simp at h1; subst h1
      simp only [if_true]
      exact ⟨p4, p5⟩
    · simp only [if_neg e1]
      exact J.hx j ej h1 (hold j e1 h2)
  · by_cases e1 : j = i
    · subst e1
      rw [hi] at h1; simp at h1; subst h1
      simp only [if_true]
      exact p2
    · simp only [if_neg e1]
      exact p1 j ej e1 h1 (hold j e1 h2) h3 (J.hb j ej h1 (hold j e1 h2) (hsub j h3))
  · by_cases e1 : j = i <;> by_cases e2 : l = i
    · omega
    · simp only [if_pos e1, if_neg e2]
      exact fun he => p3 l el e2 h2 (hold l e2 h4) h6 he.symm
    · simp only [if_neg e1, if_pos e2]
      exact p3 j ej e1 h1 (hold j e1 h3) h5
    · simp only [if_neg e1, if_neg e2]
      exact J.hd j l ej el h1 h2 (hold j e1 h3) (hold l e2 h4) (hsub j h5) (hsub l h6) hne
  · by_cases e1 : j = i
    · subst e1
      rw [hi] at h1; simp at h1; subst h1
      exact p6
    · exact J.hl j ej h1 (hold j e1 h2)

theorem tS_ins (t0 : List V) (S S' : Nat → Bool) (X X' : Nat → V) (i : Nat) (hX : ∀ j, j ≠ i → X' j = X j) (hS : S i = false) (hS' : ∀ j, S' j = if i = j then true else S j)
    (hw : ∀ u, dstOf ops i = some u → ∀ j, j ≠ i → dstOf ops j = some u → S j = true → j < i) : ∀ n, i < n → setd (tS ops t0 X S n) (dstOf ops i) (X' i) = tS ops t0 X' S' n
  | 0, h => by omega
  | n + 1, h => by
    have agree : ∀ k, k ≤ i → tS ops t0 X S k = tS ops t0 X' S' k := by
      intro k
      induction k with
      | zero => intro _; rfl
      | succ k ih =>
        intro hk
        simp only [tS]
        rw [ih (by omega), show S' k = S k by rw [hS', if_neg (by omega)], hX k (by omega)]
    by_cases e : i = n
    · subst e
      simp only [tS, hS, hS', if_true, Bool.false_eq_true, if_false]
      rw [agree i (Nat.le_refl _)]
    · have ih := tS_ins t0 S S' X X' i hX hS hS' hw n (by omega)
      simp only [tS, hS' n, if_neg e]
      rw [hX n (Ne.symm e), ← ih]
      cases hn : S n with
      | false => simp
      | true =>
        simp only [if_true]
        cases hd : dstOf ops i with
        | none => rfl
        | some u =>
          cases hd2 : dstOf ops n with
          | none => rfl
          | some v =>
            have hne : u ≠ v := fun huv => by
              subst huv
              have := hw u hd n (Ne.symm e) hd2 hn
              omega
            simp only [setd]
            rw [List.set_comm _ _ (Ne.symm hne)]

/-- A slot whose writers of S have one value in both. -/
theorem getD_tS_X (t0 : List V) (S : Nat → Bool) (X xs : Nat → V) (u : Nat) : ∀ p, (∀ j, j < p → S j = true → dstOf ops j = some u → X j = xs j) → (tS ops t0 X S p).getD u .undef = (tS ops t0 xs S p).getD u .undef
  | 0, _ => rfl
  | p + 1, h => by
    have ih := getD_tS_X t0 S X xs u p (fun j hj => h j (by omega))
    simp only [tS]
    cases hS : S p with
    | false => simpa using ih
    | true =>
      simp only [if_true]
      by_cases hu : u < t0.length
      · rw [getD_setd _ _ _ _ (by rw [length_tS]; exact hu), getD_setd _ _ _ _ (by rw [length_tS]; exact hu)]
        by_cases hd : dstOf ops p = some u
        · rw [if_pos hd, if_pos hd]; exact h p (by omega) hS hd
        · rw [if_neg hd, if_neg hd]; exact ih
      · have e : ∀ (l : List V), l.length = t0.length → l.getD u .undef = .undef := fun l hl => by
          rw [List.getD_eq_getElem?_getD, List.getElem?_eq_none (by omega)]; rfl
        rw [e _ (by rw [length_setd, length_tS]), e _ (by rw [length_setd, length_tS])]

theorem placeH_app : ∀ (bs H G : Hp) (off : Nat), (bs = [] ∨ off + bs.length ≤ H.length) → placeH (H ++ G) off bs = placeH H off bs ++ G
  | [], H, G, off, _ => rfl
  | b :: bs, H, G, off, h => by
    have h' : off + (bs.length + 1) ≤ H.length := by
      rcases h with h | h
      · cases h
      · simpa using h
    show placeH ((H ++ G).set off b) (off + 1) bs = placeH (H.set off b) (off + 1) bs ++ G
    rw [List.set_append_left _ _ (by omega), placeH_app bs _ G (off + 1) (.inr (by simp; omega))]

theorem srcV_cmp {w : World} {m : Nat → Nat} {hc ht : Hp} {av : Nat → Prop} (hcmp : ∀ (id : Nat) (cs cs' : List V), hc[id]? = some (some cs) → ht[id]? = some (some cs') → cs = cs') {v : Value} {x : V} (hx : RV w m hc av true v x) {sz : Nat} {no : Option Nat} {K : Nat → List V → Prop}
    (hq : srcV ht sz no x K) : srcV hc sz no x K := by
  cases hx with
  | osl id off n cap wd cs hid hl hc' hs =>
    unfold srcV at *
    dsimp only at *
    refine ⟨hq.1, ?_⟩
    replace hq := hq.2
    cases hh : ht[id]? with
    | none => rw [hh] at hq; exact hq.elim
    | some b =>
      rw [hh] at hq
      cases b with
      | none => exact hq.elim
      | some cs' =>
        have := hcmp id cs cs' hid.1 hh
        subst this
        rw [hid.1]
        exact hq
  | _ => exact hq

/-- A chain's first operation. -/
theorem start_wp {s : St} {a : Act} {w : World} {m : Nat → Nat} (I : Inv w0 m0 h0 av0 s a w m) {o : Oper} {d : Tmp} {ty e sz by_ : Nat} {zs : List V} (hd : o.dst = some d) (hop : o.op = .buildSlice ty 0 #[]) (he : elOf P ty = some (e, sz, by_)) (hz : zeroOf P e = some zs)
    {Kc : Act → World → Prop} {Q : Exit → Act → World → Prop} (hk : ∀ v w' m', Inv w0 m0 h0 av0 (({ s with h := s.h ++ [some []] } : St).put (some d) (.osl s.h.length 0 0 sz)) (a.put (some d) v) w' m' → Kc (a.put (some d) v) w') : o.wp P a w Kc Q := by
  obtain ⟨dst, op, ty', pos, after, g⟩ := o
  dsimp only at hd hop
  subst hd hop
  obtain ⟨D, hD, hrun⟩ := buildSlice_ok (P := P) I.ev he hz (n := 0) (parts := #[]) (cs := []) rfl (by omega) (by simp [seqV])
  obtain ⟨J, _⟩ := I.alloc D e [] (by simp) (fun i hi => by simp at hi)
  exact wp_value (v := .slice (some ⟨w.heap.size, 0, none⟩) 0 0) (w' := w.alloc (.cells D e)) (by simpa [execOp] using by simp at hrun; simp [hrun]) (hk _ _ _ (J.put (osl_new rfl (by rw [hD.1]; simp) (by simp))))

/-- A chain's next operation. -/
theorem link_wp {s : St} {a : Act} {w : World} {m : Nat → Nat} (I : Inv w0 m0 h0 av0 s a w m) {o : Oper} {d x y : Tmp} {ty e sz by_ : Nat} {zs : List V} (hd : o.dst = some d) (hop : o.op = .call { callee := .builtin .append, args := #[.tmp x, .tmp y], argTypes := #[ty, ty] })
    (he : elOf P ty = some (e, sz, by_)) (hz : zeroOf P e = some zs) (hzl : zs.length = sz) {g n n2 : Nat} {cs cs2 : List V} (hx : s.t.getD x .undef = .osl g 0 n sz) (hg : s.h[g]? = some (some cs)) (hn : n * sz = cs.length) (hsrc : srcV s.h sz none (s.t.getD y .undef) fun k ys => k = n2 ∧ ys = cs2)
    (hb : (n + n2) * by_ ≤ 140737488355328) (h63 : n + n2 ≤ 4611686018427387904) {Kc : Act → World → Prop} {Q : Exit → Act → World → Prop}
    (hk : ∀ v w' m' g' H', (g' = g ∧ H' = s.h.set g (some (cs ++ cs2)) ∨ g' = s.h.length ∧ H' = s.h ++ [some (cs ++ cs2)]) → Inv w0 m0 h0 av0 (({ s with h := H' } : St).put (some d) (.osl g' 0 (n + n2) sz)) (a.put (some d) v) w' m' → Kc (a.put (some d) v) w') : o.wp P a w Kc Q := by
  obtain ⟨dst, op, ty', pos, after, gd⟩ := o
  dsimp only at hd hop
  subst hd hop
  have hxv := I.ev (.tmp x)
  rw [show ev s.t (.tmp x) = .osl g 0 n sz from hx] at hxv
  obtain ⟨v, w', m', h1, h2⟩ := app_ghost (P := P) (ty := ty') I hxv hg hn he hz hzl (I.ev (.tmp y)) hsrc hb h63
  refine wp_value (v := v) (w' := w') (by simp [execOp, resolve, invoke, builtin, h1]) ?_
  rcases h2 with ⟨J, hr⟩ | ⟨J, hr⟩
  · exact hk _ _ _ _ _ (.inl ⟨rfl, rfl⟩) (J.put hr)
  · exact hk _ _ _ _ _ (.inr ⟨rfl, rfl⟩) (J.put hr)

theorem CondT.less {h : Hp} {t : List V} {ty : TypeId} {l r : List Tmp} (H : CondT P h t ty (l ++ r)) : CondT P h t ty l := by
  obtain ⟨e, sz, by_, zs, h1, h2, h3, h4, h5, h6, h7⟩ := H
  rw [sumN_append] at h5 h6
  rw [catC_append, List.all_append, Bool.and_eq_true] at h7
  exact ⟨e, sz, by_, zs, h1, h2, h3, fun y hy => h4 y (by simp [hy]), Nat.le_trans (Nat.mul_le_mul_right _ (by omega)) h5, by omega, h7.1⟩

theorem src_len {h : Hp} {sz : Nat} {v : V} {K : Nat → List V → Prop} {w : World} {m : Nat → Nat} {hc : Hp} {av : Nat → Prop} {u : Value} (hcmp : ∀ (id : Nat) (cs cs' : List V), hc[id]? = some (some cs) → h[id]? = some (some cs') → cs = cs') (hx : RV w m hc av true u v) (hq : srcV h sz none v K) :
    (srcF h v).2.length = (srcF h v).1 * sz := by
  cases hx with
  | sl b off n cap wd cs vals hl ha hc hv hr => obtain ⟨rfl, _⟩ := hq; exact hl
  | slz a c wd => simp [srcF]
  | osl id off n cap wd cs hid hl hc' hs =>
    unfold srcV at hq
    dsimp only at hq
    replace hq := hq.2
    cases hh : h[id]? with
    | none => rw [hh] at hq; exact hq.elim
    | some b =>
      rw [hh] at hq
      cases b with
      | none => exact hq.elim
      | some cs' =>
        have := hcmp id cs cs' hid.1 hh
        subst this
        obtain ⟨rfl, _⟩ := hq
        simp only [srcF, hh]
        simp; omega
  | nilsl => simp [srcF]
  | _ => exact hq.elim
end
end Go.Lv
