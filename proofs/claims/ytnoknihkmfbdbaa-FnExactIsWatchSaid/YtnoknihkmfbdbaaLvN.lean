/-
  A region whose order is drawn, in the world: the two phases. Conditions: the program follows every order (every checked program does).
-/
import Derived.Test.YtnoknihkmfbdbaaLvM
namespace Go.Lv

section
variable {P : Program} {ops : Array Oper} {p : Nat} {B : Nat → Nat → Prop}

theorem DrawOk.B_lt (D : DrawOk ops p B) : ∀ (i j : Nat), i < ops.size → B i j → j < i := by
  intro i
  induction i using Nat.strongRecOn with
  | _ i ih =>
    intro j hi hB
    have hget : ops[i]? = some ops[i] := Array.getElem?_eq_getElem hi
    obtain ⟨e, he, hb, h⟩ := D.clo i _ j hget hB
    have hlt := D.lt i _ hget e he hb
    rcases h with h | h
    · omega
    · have := ih e.on hlt j (by omega) h
      omega

/-- What has run is closed under what comes before. -/
def Closed (B : Nat → Nat → Prop) (listed : Array Bool) : Prop := ∀ i j, listed.getD i false = true → B i j → listed.getD j false = true

theorem ready_B (D : DrawOk ops p B) {listed : Array Bool} (hc : Closed B listed) {i : Nat} (hr : i ∈ Region.ready .any ops listed) {j : Nat} (hB : B i j) : listed.getD j false = true := by
  obtain ⟨_, o, ho, hall⟩ := mem_ready.1 hr
  obtain ⟨e, he, hb, h⟩ := D.clo i o j ho hB
  have h1 := hall e he hb
  rcases h with h | h
  · rw [← h]; exact h1
  · exact hc _ _ h1 h

theorem ready_lt {listed : Array Bool} {i : Nat} (hr : i ∈ Region.ready .any ops listed) : i < ops.size ∧ listed.getD i true = false := by
  obtain ⟨h0, o, ho, _⟩ := mem_ready.1 hr
  exact ⟨(Array.getElem?_eq_some_iff.1 ho).1, h0⟩

theorem progress (D : DrawOk ops p B) {listed : Array Bool} {i : Nat} (hi : i < ops.size) (hu : listed.getD i true = false) (hall : ∀ j, j < i → listed.getD j false = true) : i ∈ Region.ready .any ops listed := by
  have hget : ops[i]? = some ops[i] := Array.getElem?_eq_getElem hi
  exact mem_ready.2 ⟨hu, _, hget, fun e he hb => hall _ (D.lt i _ hget e he hb)⟩

theorem left_pos {n : Nat} {listed : Array Bool} {i : Nat} (hi : i < n) (hu : listed.getD i true = false) : 0 < left n listed := by
  unfold left
  exact List.length_pos_of_mem (List.mem_filter.2 ⟨List.mem_range.2 hi, by simp [hu]⟩)

variable {w0 : World} {m0 : Nat → Nat} {h0 : Hp} {av0 : Nat → Prop}

theorem getD_set_if {listed : Array Bool} {i j : Nat} (hi : i < listed.size) : (listed.setIfInBounds i true).getD j false = if i = j then true else listed.getD j false := by
  by_cases e : i = j
  · subst e; simp [hi]
  · rw [getD_set_ne false e, if_neg e]

/-- The operations behind the quiet part come one by one. -/
theorem phase2 (D : DrawOk ops p B) {Q : Exit → Act → World → Prop} {K : St → Prop} (hk : ∀ s' a' w' m', K s' → Inv w0 m0 h0 av0 s' a' w' m' → Q .normal a' w') :
    ∀ (fuel q : Nat) (listed : Array Bool) (s : St) (a : Act) (w : World) (m : Nat → Nat), p ≤ q → q ≤ ops.size → listed.size = ops.size → (∀ i, i < ops.size → (listed.getD i false = true ↔ i < q)) → left ops.size listed ≤ fuel →
      Inv w0 m0 h0 av0 s a w m → fopsA P ops (ops.toList.drop q) s K → wpAny P .any ops Q fuel listed a w := by
  intro fuel
  induction fuel with
  | zero =>
    intro q listed s a w m hp hq hl hli hf I hops
    have hqn : q = ops.size := by
      rcases Nat.lt_or_ge q ops.size with h | h
      · have hu : listed.getD q true = false := by
          rw [getD_tf (by omega)]
          have := hli q h
          cases hx : listed.getD q false
          · rfl
          · have := this.1 hx; omega
        have := left_pos h hu
        omega
      · omega
    subst hqn
    refine ⟨?_, ?_⟩
    · refine List.eq_nil_iff_forall_not_mem.2 fun i hr => ?_
      obtain ⟨h1, h2⟩ := ready_lt hr
      have := (hli i h1).2 h1
      rw [getD_tf (by omega)] at h2
      rw [this] at h2
      cases h2
    · rw [List.drop_of_length_le (by simp)] at hops
      exact hk s a w m hops I
  | succ fuel ih =>
    intro q listed s a w m hp hq hl hli hf I hops
    have hun : ∀ i, i < ops.size → listed.getD i true = false → q ≤ i := by
      intro i hi hu
      rcases Nat.lt_or_ge i q with h | h
      · have := (hli i hi).2 h
        rw [getD_tf (by omega), this] at hu
        cases hu
      · exact h
    refine ⟨fun hr => ?_, fun i hr => ?_⟩
    · rcases Nat.lt_or_ge q ops.size with h | h
      · have hu : listed.getD q true = false := by
          rw [getD_tf (by omega)]
          cases hx : listed.getD q false
          · rfl
          · have := (hli q h).1 hx; omega
        have := progress D h hu (fun j hj => (hli j (by omega)).2 hj)
        rw [hr] at this
        cases this
      · have hqn : q = ops.size := by omega
        subst hqn
        rw [List.drop_of_length_le (by simp)] at hops
        exact hk s a w m hops I
    · obtain ⟨hi, hu⟩ := ready_lt hr
      have hqi := hun i hi hu
      have hiq : i = q := by
        rcases Nat.lt_or_ge q i with h | h
        · exfalso
          have hB := D.bar i q hi (by omega) h
          obtain ⟨_, o, ho, hall⟩ := mem_ready.1 hr
          obtain ⟨e, he, hb, hh⟩ := D.clo i o q ho hB
          have h1 := hall e he hb
          have h2 := D.lt i o ho e he hb
          have h3 := (hli e.on (by omega)).1 h1
          rcases hh with hh | hh
          · omega
          · have := D.B_lt e.on q (by omega) hh
            omega
        · omega
      subst hiq
      have hget : ops[i]? = some ops[i] := Array.getElem?_eq_getElem hi
      have hdrop : ops.toList.drop i = ops[i] :: ops.toList.drop (i + 1) := by
        rw [List.drop_eq_getElem_cons (by simpa using hi)]
        simp
      rw [hdrop] at hops
      have next : ∀ (s' : St) (a' : Act) (w' : World) (m' : Nat → Nat), Inv w0 m0 h0 av0 s' a' w' m' → fopsA P ops (ops.toList.drop (i + 1)) s' K → wpAny P .any ops Q fuel (listed.setIfInBounds i true) a' w' := by
        intro s' a' w' m' I' h'
        refine ih (i + 1) _ s' a' w' m' (by omega) (by omega) (by simpa using hl) (fun j hj => ?_) (by have := left_set hi hl hu; omega) I' h'
        rw [getD_set_if (by omega)]
        by_cases e : i = j
        · subst e; simp
        · rw [if_neg e, hli j hj]; omega
      unfold wpOp
      simp only [hget]
      unfold fopsA at hops
      rcases gdA_ok I hops with ⟨h1, h2⟩ | ⟨h1, h2⟩
      · rw [if_pos h1]
        exact .inl (fop_ok I h2 (fun s' a' w' m' h3 h4 => next s' a' w' m' h4 h3))
      · rw [if_neg (by simp [h1])]
        exact next _ _ w m (I.put .skip) h2

theorem mem_looksAt_operand {o : Oper} {u : Tmp} (h : Operand.tmp u ∈ o.op.operands) : u ∈ o.looksAt ops := by
  unfold Oper.looksAt
  exact List.mem_append_left _ (List.mem_filterMap.2 ⟨.tmp u, by simpa using h, rfl⟩)

theorem mem_looksAt_guard {o : Oper} {g : Nat} {b : Bool} {u : Tmp} (hg : o.guard = some (g, b)) (hu : (ops[g]?).bind (·.dst) = some u) : u ∈ o.looksAt ops := by
  unfold Oper.looksAt
  rw [hg]
  exact List.mem_append_right _ (by simp [hu])

theorem least_false : ∀ (p : Nat) (f : Nat → Bool), ¬ (∀ i, i < p → f i = true) → ∃ i, i < p ∧ f i = false ∧ ∀ j, j < i → f j = true
  | 0, f, h => absurd (fun i hi => absurd hi (by omega)) h
  | p + 1, f, h => by
    by_cases h' : ∀ i, i < p → f i = true
    · refine ⟨p, by omega, ?_, h'⟩
      cases hx : f p
      · rfl
      · exact absurd (fun i hi => by
          rcases Nat.lt_or_ge i p with g | g
          · exact h' i g
          · have : i = p := by omega
            subst this; exact hx) h
    · obtain ⟨i, h1, h2, h3⟩ := least_false p f h'
      exact ⟨i, by omega, h2, h3⟩

theorem tS_congr (ops : Array Oper) (t0 : List V) (xs : Nat → V) (S S' : Nat → Bool) : ∀ q, (∀ i, i < q → S i = S' i) → tS ops t0 xs S q = tS ops t0 xs S' q
  | 0, _ => rfl
  | q + 1, h => by
    simp only [tS]
    rw [h q (by omega), tS_congr ops t0 xs S S' q (fun i hi => h i (by omega))]

theorem gdA_congr {t t' : List V} {gd : Option (Nat × Bool)} {A A' B : Prop} (hg : ∀ g b, gd = some (g, b) → gv ops t g = gv ops t' g) (hA : A → A') (hq : gdA ops t gd A B) : gdA ops t' gd A' B := by
  unfold gdA at *
  cases gd with
  | none => exact hA hq
  | some jw =>
    obtain ⟨j, want⟩ := jw
    dsimp only at *
    rw [← hg j want rfl]
    unfold guardA at *
    split at hq
    · exact ⟨fun e => hA (hq.1 e), hq.2⟩
    · exact hq
    · exact hq.elim

/-- The quiet part, in whatever order. -/
theorem phase1 (D : DrawOk ops p B) {Q : Exit → Act → World → Prop} {K : St → Prop} (hk : ∀ s' a' w' m', K s' → Inv w0 m0 h0 av0 s' a' w' m' → Q .normal a' w') {s : St} {xs : Nat → V} {m : Nat → Nat}
    (hgo : ∀ i o, i < p → ops[i]? = some o → Go1 P ops s.h o (tS ops s.t xs all' i) (xs i)) (hend : dopsA P ops (ops.toList.drop p) { s with t := tS ops s.t xs all' p } K) :
    ∀ (fuel : Nat) (listed : Array Bool) (a : Act) (w : World), listed.size = ops.size → Closed B listed → (∀ i, p ≤ i → listed.getD i false = false) → left ops.size listed ≤ fuel →
      Inv w0 m0 h0 av0 { s with t := tS ops s.t xs (fun i => listed.getD i false) p } a w m → wpAny P .any ops Q fuel listed a w := by
  have done : ∀ (fuel : Nat) (listed : Array Bool) (a : Act) (w : World), listed.size = ops.size → (∀ i, p ≤ i → listed.getD i false = false) → left ops.size listed ≤ fuel →
      Inv w0 m0 h0 av0 { s with t := tS ops s.t xs (fun i => listed.getD i false) p } a w m → (∀ i, i < p → listed.getD i false = true) → wpAny P .any ops Q fuel listed a w := by
    intro fuel listed a w hl hpl hf I hall
    have e : tS ops s.t xs (fun i => listed.getD i false) p = tS ops s.t xs all' p := tS_congr ops s.t xs _ _ p (fun i hi => by rw [hall i hi]; rfl)
    rw [e] at I
    refine phase2 D hk fuel p listed _ a w m (Nat.le_refl _) D.le hl (fun i hi => ?_) hf I ?_
    · rcases Nat.lt_or_ge i p with h | h
      · simp [hall i h, h]
      · simp [hpl i h]; exact h
    · rcases Nat.lt_or_ge p ops.size with h | h
      · have hdrop : ops.toList.drop p = ops[p] :: ops.toList.drop (p + 1) := by
          rw [List.drop_eq_getElem_cons (by simpa using h)]
          simp
        rw [hdrop] at hend ⊢
        unfold dopsA at hend
        rw [if_neg (by simp [D.nq _ (Array.getElem?_eq_getElem h)])] at hend
        exact hend
      · rw [List.drop_of_length_le (by simpa using h)] at hend ⊢
        exact hend
  intro fuel
  induction fuel with
  | zero =>
    intro listed a w hl hc hpl hf I
    refine done 0 listed a w hl hpl hf I (fun i hi => ?_)
    cases hx : listed.getD i false
    · have hi' : i < ops.size := by have := D.le; omega
      have := left_pos (listed := listed) hi' (by rw [getD_tf (by omega)]; exact hx)
      omega
    · rfl
  | succ fuel ih =>
    intro listed a w hl hc hpl hf I
    by_cases hall : ∀ i, i < p → listed.getD i false = true
    · exact done (fuel + 1) listed a w hl hpl hf I hall
    · obtain ⟨k, hkp, hku, hkl⟩ := least_false p (fun i => listed.getD i false) hall
      have hkn : k < ops.size := by have := D.le; omega
      have hkr := progress D hkn (by rw [getD_tf (by omega)]; exact hku) hkl
      refine ⟨(fun hr => by rw [hr] at hkr; cases hkr), fun i hr => ?_⟩
      obtain ⟨hi, hu⟩ := ready_lt hr
      have hu' : listed.getD i false = false := by rw [← getD_tf (by omega)]; exact hu
      have hip : i < p := by
        rcases Nat.lt_or_ge i p with h | h
        · exact h
        · exfalso
          have := ready_B D hc hr (D.bar i k hi h (by omega))
          rw [hku] at this
          cases this
      have hget : ops[i]? = some ops[i] := Array.getElem?_eq_getElem hi
      -- the writers of what the operation looks at
      have hwr : ∀ u, (u ∈ ops[i].looksAt ops ∨ ops[i].dst = some u) → ∀ j, j < p → dstOf ops j = some u → (listed.getD j false = true ↔ j < i) := by
        intro u hmem j hj hd
        by_cases e : j = i
        · subst e; simp [hu']
        · have hjn : j < ops.size := by have := D.le; omega
          have hgj : ops[j]? = some ops[j] := Array.getElem?_eq_getElem hjn
          have hcl : clash ops j i = true := by
            have hd' : ops[j].dst = some u := by simpa [dstOf, hgj] using hd
            unfold clash
            simp only [hgj, hget, hd']
            rcases hmem with h | h
            · simp [h]
            · simp [h]
          obtain ⟨c1, c2⟩ := D.cl i j hip hj e hcl
          rcases Nat.lt_or_ge j i with h | h
          · exact ⟨fun _ => h, fun _ => ready_B D hc hr (c1 h)⟩
          · refine ⟨fun hx => ?_, fun hx => by omega⟩
            have := hc j i hx (c2 (by omega))
            rw [hu'] at this
            cases this
      have hat : ∀ u, (u ∈ ops[i].looksAt ops ∨ ops[i].dst = some u) → (tS ops s.t xs all' i).getD u .undef = (tS ops s.t xs (fun i => listed.getD i false) p).getD u .undef :=
        fun u hmem => (getD_tS_at ops s.t xs _ u i p (by omega) (hwr u hmem)).symm
      have hgo1 := hgo i _ hip hget
      have hgo2 : Go1 P ops s.h ops[i] (tS ops s.t xs (fun i => listed.getD i false) p) (xs i) := by
        unfold Go1 at hgo1 ⊢
        refine gdA_congr (fun g b hg => ?_) (fun h => kop_congr (fun x hx => ev_congr fun u hxu => hat u (.inl (mem_looksAt_operand (hxu ▸ hx)))) h) hgo1
        unfold gv
        cases hd : (ops[g]?).bind (·.dst) with
        | none => rfl
        | some d => exact hat d (.inl (mem_looksAt_guard hg hd))
      have hst : ∀ x, x = xs i → ({ s with t := tS ops s.t xs (fun i => listed.getD i false) p } : St).put ops[i].dst x = { s with t := tS ops s.t xs (fun j => (listed.setIfInBounds i true).getD j false) p } := by
        rintro x rfl
        rw [put_eq]
        congr 1
        refine list_ext_getD (by rw [length_setd, length_tS, length_tS]) (fun u hu2 => ?_)
        rw [length_setd, length_tS] at hu2
        rw [getD_setd _ _ _ _ (by rw [length_tS]; exact hu2)]
        have hdi : dstOf ops i = ops[i].dst := by simp [dstOf, hget]
        by_cases hd : ops[i].dst = some u
        · rw [if_pos hd]
          rw [getD_tS_at ops s.t xs _ u (i + 1) p (by omega) (fun j hj hdj => ?_), tS_all, getD_setd _ _ _ _ (by rw [length_tS]; exact hu2), hdi, if_pos hd]
          rw [getD_set_if (by omega)]
          by_cases e : i = j
          · subst e; simp
          · rw [if_neg e, hwr u (.inr hd) j hj hdj]; omega
        · rw [if_neg hd]
          refine getD_tS ops s.t xs _ _ u hu2 p (fun j hj hdj => ?_)
          rw [getD_set_if (by omega), if_neg]
          rintro rfl
          rw [hdi] at hdj
          exact hd hdj
      have next : ∀ (x : V) (a' : Act) (w' : World), x = xs i → Inv w0 m0 h0 av0 (({ s with t := tS ops s.t xs (fun i => listed.getD i false) p } : St).put ops[i].dst x) a' w' m → wpAny P .any ops Q fuel (listed.setIfInBounds i true) a' w' := by
        intro x a' w' hx I'
        rw [hst x hx] at I'
        refine ih _ a' w' (by simpa using hl) (fun i' j hl' hB => ?_) (fun j hj => ?_) (by have := left_set hi hl hu; omega) I'
        · rw [getD_set_if (by omega)] at hl' ⊢
          by_cases e : i = j
          · rw [if_pos e]
          · rw [if_neg e]
            by_cases e' : i = i'
            · subst e'
              exact ready_B D hc hr hB
            · rw [if_neg e'] at hl'
              exact hc i' j hl' hB
        · rw [getD_set_if (by omega), if_neg (by omega)]
          exact hpl j hj
      unfold wpOp
      simp only [hget]
      unfold Go1 at hgo2
      rcases gdA_ok I hgo2 with ⟨h1, h2⟩ | ⟨h1, h2⟩
      · rw [if_pos h1]
        exact .inl (kop_ok I h2 (fun x v w' hx I' => next x _ w' hx I'))
      · rw [if_neg (by simp [h1])]
        exact next .skip _ w h2.symm (I.put .skip)

/-- A region whose order is drawn. -/
theorem draw_region (hm : P.follows .mixedOrders = true) (hd : drawOk ops = true) {Q : Exit → Act → World → Prop} {K : St → Prop} (hk : ∀ s' a' w' m', K s' → Inv w0 m0 h0 av0 s' a' w' m' → Q .normal a' w')
    {s : St} {a : Act} {w : World} {m : Nat → Nat} (I : Inv w0 m0 h0 av0 s a w m) (hq : dopsA P ops ops.toList s K) {id : Nat} : (Code.region id ops true).wp P Q a w := by
  have D := drawOk_some hd
  obtain ⟨xs, h1, h2⟩ := dops_path D hq (quietLen ops) (Nat.le_refl _)
  refine wp_region_any hm ?_
  have hz : ∀ i, (Array.replicate ops.size false).getD i false = false := fun i => by simp [Array.getD]
  refine phase1 (m := m) D hk h1 h2 ops.size _ a _ (by simp) (fun i j hl => by rw [hz] at hl; cases hl) (fun i _ => hz i) ?_ ?_
  · unfold left
    exact Nat.le_trans (List.length_filter_le _ _) (by simp)
  · have e : tS ops s.t xs (fun i => (Array.replicate ops.size false).getD i false) (quietLen ops) = s.t := by
      rw [tS_congr ops s.t xs _ (fun _ => false) (quietLen ops) (fun i _ => hz i)]
      have : ∀ q, tS ops s.t xs (fun _ => false) q = s.t := by
        intro q
        induction q with
        | zero => rfl
        | succ q ih => simpa [tS] using ih
      exact this _
    rw [e]
    exact I.world (Ext.drew _ w)

end
end Go.Lv
