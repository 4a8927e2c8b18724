/-
  A region whose order is drawn, with chains of appends: all orders. Conditions: the program follows every order (every checked program does).
-/
import Derived.Test.YtfnlgojocgdmcaaDoorLvCh
set_option linter.unusedSimpArgs false
set_option linter.unusedVariables false
namespace Go.Lv

section
variable {P : Program} {ops : Array Oper} {z q tk : Nat → Bool} {B : Nat → Nat → Prop} {tab : List (Option CE)} {tips : List Tip} {w0 : World} {m0 : Nat → Nat} {h0 : Hp} {av0 : Nat → Prop}

theorem getD_tS_one (t0 : List V) (S : Nat → Bool) (X : Nat → V) (u j : Nat) (hu : u < t0.length) (hj : S j = true) (hd : dstOf ops j = some u) : ∀ p, j < p → (∀ k, k < p → k ≠ j → S k = true → dstOf ops k ≠ some u) → (tS ops t0 X S p).getD u .undef = X j
  | 0, h, _ => by omega
  | p + 1, h, hn => by
    simp only [tS]
    by_cases e : j = p
    · subst e
      rw [hj, if_pos rfl, getD_setd _ _ _ _ (by rw [length_tS]; exact hu), if_pos hd]
    · have ih := getD_tS_one t0 S X u j hu hj hd p (by omega) (fun k hk => hn k (by omega))
      cases hS : S p with
      | false => simpa using ih
      | true =>
        simp only [if_true]
        rw [getD_setd _ _ _ _ (by rw [length_tS]; exact hu), if_neg (hn p (by omega) (Ne.symm e) hS)]
        exact ih

theorem getD_out {l : List V} {u : Nat} (h : l.length ≤ u) : l.getD u .undef = .undef := by
  rw [List.getD_eq_getElem?_getD, List.getElem?_eq_none h]; rfl

theorem GI.quiet {he : Hp} {te : List V} {S S' : Nat → Bool} {H H' G : Hp} {γ : Nat → Nat} {X : Nat → V} (J : GI P tab he te S (H ++ G) γ X) {i : Nat} (hi : ceAt tab i = none) (hS : ∀ j, S' j = if i = j then true else S j) (h1 : H.length = he.length) (h2 : H'.length = he.length) :
    GI P tab he te S' (H' ++ G) γ X := by
  have hne : ∀ j e, ceAt tab j = some e → i ≠ j := fun j e hj e' => by subst e'; rw [hi] at hj; cases hj
  have hold : ∀ j e, ceAt tab j = some e → S' j = true → S j = true := fun j e hj h => by rw [hS, if_neg (hne j e hj)] at h; exact h
  have hsub : ∀ j, unsup tab S' j → unsup tab S j := fun j hu k ek g1 g2 => by
    have := hu k ek g1 g2
    rw [hS, if_neg (hne k ek g1)] at this
    exact this
  refine ⟨fun j e hj h => J.hx j e hj (hold j e hj h), fun j e hj h hu => ?_, fun j l ej el hj hl g1 g2 g3 g4 => J.hd j l ej el hj hl (hold j ej hj g1) (hold l el hl g2) (hsub j g3) (hsub l g4), fun j e hj h => J.hl j e hj (hold j e hj h)⟩
  have g1 := J.hb j e hj (hold j e hj h) (hsub j hu)
  have g2 := (J.hx j e hj (hold j e hj h)).2
  rw [List.getElem?_append_right (by omega)] at g1 ⊢
  rw [h2, ← h1]
  exact g1

/-- The quiet part and the chains, in whatever order. -/
theorem phase1C (D : DrawOk ops z B tk) (F : CF ops z q B tab tips) {Q : Exit → Act → World → Prop} {K : St → Prop} (hQp : ∀ c a a' w, Q (.panic c) a w → Q (.panic c) a' w) (hk : ∀ s' a' w' m', K s' → Inv w0 m0 h0 av0 s' a' w' m' → Q .normal a' w') {s : St} (hlen : h0.length ≤ s.h.length) (hsk : s.k = h0.length) {xs : Nat → V} {ns : Nat → Hp} {te : List V} {he : Hp}
    (hte : te = tS ops s.t xs q ops.size) (hhe : he = hS s.h ns q q ops.size)
    (hgo : ∀ i o, i < ops.size → q i = true → ops[i]? = some o → Go2 P ops (hS s.h ns q q i) o (tS ops s.t xs q i) (xs i) (ns i))
    (hcond : ∀ c ∈ tips, CondT P he te c.ty c.ys) (hund : ∀ i e, ceAt tab i = some e → e.d < s.t.length ∧ s.t.getD e.d .undef = .undef)
    (hend : fopsA P ops (restFrom ops z 0) (finS P he te tips ⟨te.map (Lv.ren (cutF he.length) 3), cutH he.length he, s.k⟩) K) :
    ∀ (fuel : Nat) (listed : Array Bool) (a : Act) (w : World) (m : Nat → Nat) (X : Nat → V) (γ : Nat → Nat) (G : Hp), listed.size = ops.size → Closed B listed → (∀ i, listed.getD i false = true → z i = true) → left ops.size listed ≤ fuel →
      (∀ i, q i = true → X i = xs i) → GI P tab he te (fun i => listed.getD i false) (hS s.h ns q (fun i => listed.getD i false) ops.size ++ G) γ X →
      Inv w0 m0 h0 av0 { s with t := tS ops s.t X (fun i => listed.getD i false) ops.size, h := hS s.h ns q (fun i => listed.getD i false) ops.size ++ G } a w m → wpAny P .any ops Q fuel listed a w := by
  have qn : ∀ i, q i = true → ceAt tab i = none := fun i hq => by
    cases hc : ceAt tab i with
    | none => rfl
    | some e => have := (F.ent i e hc).2.2.1; rw [hq] at this; cases this
  have qz : ∀ i, i < ops.size → q i = true → z i = true := fun i hi hq => by rw [← F.of i hi (qn i hq)]; exact hq
  have zq : ∀ i, i < ops.size → z i = true → q i = false → ∃ e, ceAt tab i = some e := fun i hi hz hq => by
    cases hc : ceAt tab i with
    | none => rw [F.of i hi hc, hz] at hq; cases hq
    | some e => exact ⟨e, rfl⟩
  have dst_at : ∀ i (hi : i < ops.size), dstOf ops i = ops[i].dst := fun i hi => by simp [dstOf, Array.getElem?_eq_getElem hi]
  have chd : ∀ i e, ceAt tab i = some e → dstOf ops i = some e.d := fun i e hc => by
    obtain ⟨_, _, _, o, ho, hd, _⟩ := F.ent i e hc
    simp [dstOf, ho, hd]
  have chn : ∀ i e, ceAt tab i = some e → ∀ k, k < ops.size → z k = true → k ≠ i → dstOf ops k ≠ some e.d := fun i e hc k hk hz hne hd => by
    have := (F.sl i e hc k ops[k] (Array.getElem?_eq_getElem hk) hz).1 hne
    rw [dst_at k hk] at hd
    exact this hd
  have hlenS : ∀ S, (hS s.h ns q S ops.size).length = he.length := fun S => by rw [hhe]; exact hS_len s.h ns q S q ops.size
  have hcmpE : ∀ (S : Nat → Bool) (G : Hp) (id : Nat) (cs cs' : List V), (hS s.h ns q S ops.size ++ G)[id]? = some (some cs) → he[id]? = some (some cs') → cs = cs' := fun S G id cs cs' h1 h2 => by
    rw [List.getElem?_append_left (by rw [hlenS]; exact id_lt h2)] at h1
    rw [hhe] at h2
    exact hS_same s.h ns q S (Nat.le_refl _) id cs cs' h1 h2
  -- slots that are no chain's
  have hT : ∀ (S : Nat → Bool) (X : Nat → V) (u i : Nat), (∀ i, q i = true → X i = xs i) → (∀ j, S j = true → z j = true) → i ≤ ops.size → (∀ j e, ceAt tab j = some e → S j = true → e.d ≠ u) → (∀ j, j < ops.size → dstOf ops j = some u → (S j = true ↔ j < i ∧ q j = true)) →
      (tS ops s.t X S ops.size).getD u .undef = (tS ops s.t xs q i).getD u .undef := by
    intro S X u i hX hz hi hu hw
    rw [getD_tS_X (ops := ops) s.t S X xs u ops.size (fun j hj hSj hd => hX j ((hw j hj hd).1 hSj).2)]
    exact getD_tS_at ops s.t xs S q u i ops.size hi hw
  have done : ∀ (fuel : Nat) (listed : Array Bool) (a : Act) (w : World) (m : Nat → Nat) (X : Nat → V) (γ : Nat → Nat) (G : Hp), listed.size = ops.size → (∀ i, listed.getD i false = true → z i = true) → left ops.size listed ≤ fuel →
      (∀ i, q i = true → X i = xs i) → GI P tab he te (fun i => listed.getD i false) (hS s.h ns q (fun i => listed.getD i false) ops.size ++ G) γ X →
      Inv w0 m0 h0 av0 { s with t := tS ops s.t X (fun i => listed.getD i false) ops.size, h := hS s.h ns q (fun i => listed.getD i false) ops.size ++ G } a w m → (∀ i, i < ops.size → z i = true → listed.getD i false = true) → wpAny P .any ops Q fuel listed a w := by
    intro fuel listed a w m X γ G hl hlz hf hX J I hall
    have hsz : ∀ i, i < ops.size → listed.getD i false = z i := fun i hi => by
      cases hz : z i
      · cases hx : listed.getD i false
        · rfl
        · rw [hlz i hx] at hz; cases hz
      · exact hall i hi hz
    have hS1 : hS s.h ns q (fun i => listed.getD i false) ops.size = he := by
      rw [hhe]; exact hS_congr s.h ns q ops.size (fun i hi hq => by rw [hsz i hi, qz i hi hq, hq])
    rw [hS1] at I J
    have hSc : ∀ i e, ceAt tab i = some e → listed.getD i false = true := fun i e hc => by
      obtain ⟨hi, hz, _⟩ := F.ent i e hc
      exact hall i hi hz
    have htd : (tips.map (·.d)).Nodup := by
      have key : ∀ l : List Tip, (∀ c ∈ l, c ∈ tips) → (l.map (·.i)).Nodup → (l.map (·.d)).Nodup := by
        intro l
        induction l with
        | nil => intro _ _; simp
        | cons c l ihl =>
          intro hm hn
          simp only [List.map_cons, List.nodup_cons] at hn ⊢
          refine ⟨fun h => ?_, ihl (fun c' hc' => hm c' (by simp [hc'])) hn.2⟩
          obtain ⟨c', hc', hd⟩ := List.mem_map.1 h
          obtain ⟨e, g1, g2, _⟩ := F.tp c (hm c (by simp))
          obtain ⟨e', g1', g2', _⟩ := F.tp c' (hm c' (by simp [hc']))
          have hne : c'.i ≠ c.i := fun h => hn.1 (List.mem_map.2 ⟨c', hc', h⟩)
          obtain ⟨hi', hz', _⟩ := F.ent c'.i e' g1'
          exact chn c.i e g1 c'.i hi' hz' hne (by rw [chd c'.i e' g1', g2', g2, hd])
      exact key tips (fun c hc => hc) F.nd
    have hk1 : s.k ≤ he.length := by rw [hsk, hhe]; exact Nat.le_trans hlen (hS_le s.h ns q q ops.size)
    have hfh := finS_h (P := P) (t := te) (h := he) tips ⟨te.map (Lv.ren (cutF he.length) 3), cutH he.length he, s.k⟩
    have hft := finS_t (P := P) (t := te) (h := he) tips ⟨te.map (Lv.ren (cutF he.length) 3), cutH he.length he, s.k⟩ htd
    have htl : te.length = s.t.length := by rw [hte, length_tS]
    have hcl : (cutH he.length he).length = he.length := by simp [cutH]
    obtain ⟨m', I'⟩ := Inv.close (t2 := (finS P he te tips ⟨te.map (Lv.ren (cutF he.length) 3), cutH he.length he, s.k⟩).t) I he.length hk1 (by simp) (tips.map fun c => (γ c.i, catC he te c.ys))
      (fun p hp => by
        obtain ⟨c, hc, rfl⟩ := List.mem_map.1 hp
        obtain ⟨e, g1, g2, g3, g4, g5⟩ := F.tp c hc
        have hSi := hSc c.i e g1
        have h1 := J.hb c.i e g1 hSi (fun k ek hk1 hk2 => absurd hk2 (g5 k ek hk1))
        obtain ⟨_, _, _, _, _, _, _, k4, _, _, k7⟩ := hcond c hc
        rw [g4] at h1
        exact ⟨(J.hx c.i e g1 hSi).2, h1, k7, isMb_ofCells (catC_cells _ k4)⟩)
      (fun i j p p' hi hj hne => by
        rw [List.getElem?_map] at hi hj
        cases h1 : tips[i]? with
        | none => simp [h1] at hi
        | some c =>
          cases h2 : tips[j]? with
          | none => simp [h2] at hj
          | some c' =>
            simp [h1] at hi; simp [h2] at hj
            subst hi hj
            obtain ⟨e, g1, _, _, _, g5⟩ := F.tp c (List.mem_of_getElem? h1)
            obtain ⟨e', g1', _, _, _, g5'⟩ := F.tp c' (List.mem_of_getElem? h2)
            refine J.hd c.i c'.i e e' g1 g1' (hSc _ e g1) (hSc _ e' g1') (fun k ek hk1 hk2 => absurd hk2 (g5 k ek hk1)) (fun k ek hk1 hk2 => absurd hk2 (g5' k ek hk1)) (fun hcc => ?_)
            have hn := F.nd
            have i1 : (tips.map (·.i))[i]? = some c.i := by rw [List.getElem?_map, h1]; rfl
            have i2 : (tips.map (·.i))[j]? = some c.i := by rw [List.getElem?_map, h2, hcc]; rfl
            have hil := (List.getElem?_eq_some_iff.1 i1).1
            exact hne ((List.getElem?_inj hil hn).1 (i1.trans i2.symm)))
      (by rw [hfh.2.2, List.length_map, htl, length_tS])
      (fun u hu hu' => by
        have hu2 : u < s.t.length := by simpa [length_tS] using hu
        have hu3 : u < (⟨te.map (Lv.ren (cutF he.length) 3), cutH he.length he, s.k⟩ : St).t.length := by simp; omega
        obtain ⟨f1, f2⟩ := hft u hu3
        have gl : ∀ (l : List V) (h : u < l.length), l[u] = l.getD u .undef := fun l h => by simp [List.getD, h]
        rw [gl _ hu, gl _ hu']
        by_cases ht : ∃ (j : Nat) (c : Tip), tips[j]? = some c ∧ c.d = u
        · obtain ⟨j, c, hj, hd⟩ := ht
          obtain ⟨e, g1, g2, g3, g4, _⟩ := F.tp c (List.mem_of_getElem? hj)
          obtain ⟨hi, hz, _⟩ := F.ent c.i e g1
          refine .inr ⟨j, (γ c.i, catC he te c.ys), _, _, by rw [List.getElem?_map, hj]; rfl, ?_, (f1 j c hj hd).trans (by dsimp only; rw [hcl])⟩
          have hone := getD_tS_one (ops := ops) s.t (fun i => listed.getD i false) X u c.i hu2 (hSc _ e g1) (by rw [chd _ e g1, g2, hd]) ops.size hi (fun k hk hne hSk => by rw [← hd, ← g2]; exact chn c.i e g1 k hk (hlz k hSk) hne)
          dsimp only
          rw [hone, (J.hx c.i e g1 (hSc _ e g1)).1, g3, g4]
        · have hnt : ∀ c ∈ tips, c.d ≠ u := fun c hc hd => by
            obtain ⟨j, hj, rfl⟩ := List.getElem_of_mem hc
            exact ht ⟨j, tips[j], List.getElem?_eq_getElem hj, hd⟩
          refine .inl ?_
          rw [f2 hnt]
          have hmap : (te.map (Lv.ren (cutF he.length) 3)).getD u .undef = Lv.ren (cutF he.length) 3 (te.getD u .undef) := by
            simp [List.getD, show u < te.length by omega]
          dsimp only
          rw [hmap]
          by_cases hch : ∃ i e, ceAt tab i = some e ∧ e.d = u
          · obtain ⟨i, e, hc, hd⟩ := hch
            have h1 : te.getD u .undef = s.t.getD u .undef := by
              rw [hte]
              exact getD_tS_stop ops s.t xs q u hu2 0 ops.size (Nat.zero_le _) (fun k _ hk hdk => by
                cases hqk : q k with
                | false => rfl
                | true =>
                  exfalso
                  by_cases hki : k = i
                  · subst hki; rw [qn k hqk] at hc; cases hc
                  · exact chn i e hc k hk (qz k hk hqk) hki (by rw [hdk, hd]))
            rw [h1, ← hd, (hund i e hc).2]
            exact .inr (.inl rfl)
          · have h1 : (tS ops s.t X (fun i => listed.getD i false) ops.size).getD u .undef = te.getD u .undef := by
              rw [hte]
              refine hT _ X u ops.size hX hlz (Nat.le_refl _) (fun j e hc _ hd => hch ⟨j, e, hc, hd⟩) (fun j hj hdj => ?_)
              skip
              rw [hsz j hj]
              refine ⟨fun hz => ⟨hj, ?_⟩, fun h => qz j hj h.2⟩
              cases hqj : q j with
              | true => rfl
              | false =>
                obtain ⟨e, hc⟩ := zq j hj hz hqj
                exact absurd ⟨j, e, hc, by have := chd j e hc; rw [hdj] at this; simpa using this.symm⟩ hch
            rw [h1]
            exact .inl rfl)
    rw [show cutH he.length (he ++ G) = cutH he.length he by simp [cutH], List.map_map] at I'
    generalize hF : finS P he te tips ⟨te.map (Lv.ren (cutF he.length) 3), cutH he.length he, s.k⟩ = Fs at *
    obtain ⟨t2, h2, k2⟩ := Fs
    dsimp only at hfh I'
    obtain ⟨e1, e2, _⟩ := hfh
    have I2 : Inv w0 m0 h0 av0 ⟨t2, h2, k2⟩ a w m' := by
      rw [e1, e2]
      exact I'
    exact phase2 D hk ops.size 0 (by omega) fuel listed _ a w m' hl (fun i hi => by rw [hsz i hi]; simp) hf I2 hend
  intro fuel
  induction fuel with
  | zero =>
    intro listed a w m X γ G hl hc hlz hf hX J I
    refine done 0 listed a w m X γ G hl hlz hf hX J I (fun i hi _ => ?_)
    cases hx : listed.getD i false
    · have := left_pos (listed := listed) hi (by rw [getD_tf (by omega)]; exact hx)
      omega
    · rfl
  | succ fuel ih =>
    intro listed a w m X γ G hl hc hlz hf hX J I
    by_cases hall : ∀ i, i < ops.size → (!(z i) || listed.getD i false) = true
    · exact done (fuel + 1) listed a w m X γ G hl hlz hf hX J I (fun i hi hz => by have := hall i hi; simpa [hz] using this)
    · obtain ⟨k, hkn, hku, hkl⟩ := least_false ops.size (fun i => !(z i) || listed.getD i false) hall
      simp only [Bool.or_eq_false_iff, Bool.not_eq_false'] at hku
      obtain ⟨hkz, hku⟩ := hku
      have hkr : k ∈ Region.ready .any ops listed := progress D hkn (by rw [getD_tf (by omega)]; exact hku) (fun j hj hz => by
        have := hkl j hj
        simpa [hz hkz] using this)
      have hset : ∀ i, i < ops.size → ∀ j, (listed.setIfInBounds i true).getD j false = if i = j then true else listed.getD j false := fun i hi j => getD_set_if (by omega)
      have common : ∀ i, i ∈ Region.ready .any ops listed → z i = true → i < ops.size ∧ listed.getD i false = false ∧ Closed B (listed.setIfInBounds i true) ∧ (∀ j, (listed.setIfInBounds i true).getD j false = true → z j = true) ∧ left ops.size (listed.setIfInBounds i true) ≤ fuel := by
        intro i hr hzi
        obtain ⟨hi, hu⟩ := ready_lt hr
        have hu' : listed.getD i false = false := by rw [← getD_tf (by omega)]; exact hu
        refine ⟨hi, hu', fun i' j hl' hB => ?_, fun j hj => ?_, by have := left_set hi hl hu; omega⟩
        · rw [hset i hi] at hl' ⊢
          by_cases e : i = j
          · rw [if_pos e]
          · rw [if_neg e]
            by_cases e' : i = i'
            · subst e'
              exact ready_B D hc hr hB
            · rw [if_neg e'] at hl'
              exact hc i' j hl' hB
        · rw [hset i hi] at hj
          by_cases e : i = j
          · subst e; exact hzi
          · rw [if_neg e] at hj
            exact hlz j hj
      -- one quiet operation, ready
      have main : ∀ i, i ∈ Region.ready .any ops listed → q i = true → z i = true → (∃ hi : i < ops.size, Go2 P ops (hS s.h ns q q i) ops[i] (tS ops s.t X (fun i => listed.getD i false) ops.size) (xs i) (ns i) ∧
          ∀ (v : Value) (w' : World) (m' : Nat → Nat), Inv w0 m0 h0 av0 (({ s with t := tS ops s.t X (fun i => listed.getD i false) ops.size, h := placeH (hS s.h ns q (fun i => listed.getD i false) ops.size ++ G) (hS s.h ns q q i).length (ns i) } : St).put ops[i].dst (xs i)) (a.put ops[i].dst v) w' m' →
            wpAny P .any ops Q fuel (listed.setIfInBounds i true) (a.put ops[i].dst v) w') := by
        intro i hr hqi hzi
        obtain ⟨hi, hu', c1, c2, c3⟩ := common i hr hzi
        have hget : ops[i]? = some ops[i] := Array.getElem?_eq_getElem hi
        have hni := qn i hqi
        have hch : ∀ u, (u ∈ ops[i].looksAt ops ∨ ops[i].dst = some u) → ∀ j e, ceAt tab j = some e → e.d ≠ u := fun u hmem j e hcj hd => by
          subst hd
          obtain ⟨s1, s2⟩ := F.sl j e hcj i ops[i] hget hzi
          rcases hmem with h | h
          · obtain ⟨e', h1, _⟩ := s2 h
            rw [hni] at h1; cases h1
          · refine s1 (fun hij => ?_) h
            subst hij
            rw [hni] at hcj; cases hcj
        have hwr : ∀ u, (u ∈ ops[i].looksAt ops ∨ ops[i].dst = some u) → ∀ j, j < ops.size → dstOf ops j = some u → (listed.getD j false = true ↔ j < i ∧ q j = true) := by
          intro u hmem j hj hd
          have hqj : z j = true → q j = true := fun hz => by
            cases hq : q j with
            | true => rfl
            | false =>
              obtain ⟨e, hcj⟩ := zq j hj hz hq
              exact absurd (by have := chd j e hcj; rw [hd] at this; simpa using this.symm) (hch u hmem j e hcj)
          by_cases e : j = i
          · subst e; simp [hu']
          · by_cases hzj : z j = true
            · have hgj : ops[j]? = some ops[j] := Array.getElem?_eq_getElem hj
              have hcl : clash ops j i = true := by
                have hd' : ops[j].dst = some u := by simpa [dstOf, hgj] using hd
                unfold clash
                simp only [hgj, hget, hd']
                rcases hmem with h | h
                · simp [h]
                · simp [h]
              obtain ⟨d1, d2⟩ := D.cl i j hi hj hzi hzj e hcl
              rcases Nat.lt_or_ge j i with h | h
              · exact ⟨fun _ => ⟨h, hqj hzj⟩, fun _ => ready_B D hc hr (d1 h)⟩
              · refine ⟨fun hx => ?_, fun hx => by omega⟩
                have := hc j i hx (d2 (by omega))
                rw [hu'] at this
                cases this
            · exact ⟨fun hx => absurd (hlz j hx) hzj, fun hx => absurd (qz j hj hx.2) hzj⟩
        have hat : ∀ u, (u ∈ ops[i].looksAt ops ∨ ops[i].dst = some u) → (tS ops s.t xs q i).getD u .undef = (tS ops s.t X (fun i => listed.getD i false) ops.size).getD u .undef :=
          fun u hmem => (hT _ X u i hX hlz (by omega) (fun j e hcj _ => hch u hmem j e hcj) (hwr u hmem)).symm
        have hgo1 := hgo i _ hi hqi hget
        refine ⟨hi, ?_, ?_⟩
        · unfold Go2 at hgo1 ⊢
          refine gdA_congr (fun g b hg => ?_) (fun h => gop_congr (fun x hx => ev_congr fun u hxu => hat u (.inl (mem_looksAt_operand (hxu ▸ hx)))) h) hgo1
          unfold gv
          cases hd : (ops[g]?).bind (·.dst) with
          | none => rfl
          | some d => exact hat d (.inl (mem_looksAt_guard hg hd))
        · intro v w' m' I'
          have hfit : ns i = [] ∨ (hS s.h ns q q i).length + (ns i).length ≤ (hS s.h ns q (fun i => listed.getD i false) ops.size).length := by
            cases hn : ns i with
            | nil => exact .inl rfl
            | cons b bs =>
              refine .inr ?_
              have := hS_none s.h ns q (fun i => listed.getD i false) hi hqi hu' bs.length (by rw [hn]; simp)
              have := (List.getElem?_eq_some_iff.1 this).1
              simp only [List.length_cons]
              omega
          have hst : ({ s with t := tS ops s.t X (fun i => listed.getD i false) ops.size, h := placeH (hS s.h ns q (fun i => listed.getD i false) ops.size ++ G) (hS s.h ns q q i).length (ns i) } : St).put ops[i].dst (xs i) =
              { s with t := tS ops s.t X (fun j => (listed.setIfInBounds i true).getD j false) ops.size, h := hS s.h ns q (fun j => (listed.setIfInBounds i true).getD j false) ops.size ++ G } := by
            rw [put_eq, placeH_app _ _ _ _ hfit]
            congr 1
            · rw [← dst_at i hi, ← hX i hqi]
              refine tS_ins s.t _ _ X X i (fun _ _ => rfl) hu' (fun j => hset i hi j) (fun u hd j hne hdj hSj => ?_) ops.size hi
              have hj : j < ops.size := by
                unfold dstOf at hdj
                cases hg : ops[j]? with
                | none => simp [hg] at hdj
                | some o => exact (Array.getElem?_eq_some_iff.1 hg).1
              exact ((hwr u (.inr (by rw [← dst_at i hi]; exact hd)) j hj hdj).1 hSj).1
            · rw [hS_place s.h ns q _ (fun j => (listed.setIfInBounds i true).getD j false) hi hqi hu' (by rw [hset i hi, if_pos rfl]) (fun j hj => by rw [hset i hi, if_neg (Ne.symm hj)])]
          rw [hst] at I'
          exact ih _ _ w' m' X γ G (by simpa using hl) c1 c2 c3 hX (J.quiet hni (fun j => hset i hi j) (hlenS _) (hlenS _)) I'
      -- one operation of a chain, ready
      have chain : ∀ i e, i ∈ Region.ready .any ops listed → ceAt tab i = some e → wpOp P ops Q i (wpAny P .any ops Q fuel (listed.setIfInBounds i true)) a w := by
        intro i e hr hce
        obtain ⟨hi, hzi, hqi, o, ho, hd, hgd, hkind⟩ := F.ent i e hce
        obtain ⟨_, hu', c1, c2, c3⟩ := common i hr hzi
        have hlt : ∀ j ej, ceAt tab j = some ej → listed.getD j false = true → unsup tab (fun i => listed.getD i false) j → γ j < (hS s.h ns q (fun i => listed.getD i false) ops.size ++ G).length := fun j ej h1 h2 h3 => id_lt (J.hb j ej h1 h2 h3)
        have hsub : ∀ j, unsup tab (fun j => (listed.setIfInBounds i true).getD j false) j → unsup tab (fun j => listed.getD j false) j := fun j hu k' ek g1 g2 => by
          have := hu k' ek g1 g2
          dsimp only at this ⊢
          rw [hset i hi] at this
          split at this
          · cases this
          · exact this
        have hSS : hS s.h ns q (fun j => (listed.setIfInBounds i true).getD j false) ops.size = hS s.h ns q (fun j => listed.getD j false) ops.size :=
          hS_congr s.h ns q ops.size (fun j hj hqj => by
            rw [hset i hi, if_neg (fun h => by subst h; rw [hqi] at hqj; cases hqj)])
        obtain ⟨c, hcm, hty, r, hr'⟩ := F.tip i e hce
        have C : CondT P he te e.ty e.ys := by
          have := hcond c hcm
          rw [hty, hr'] at this
          exact this.less
        obtain ⟨ee, sz, by_, zs, k1, k2, k3, k4, k5, k6, k7⟩ := C
        have hszO : szOf P e.ty = sz := by simp [szOf, k1]
        have next : ∀ (v : Value) (w' : World) (m' : Nat → Nat) (g : Nat) (x : V) (G' : Hp), GI P tab he te (fun j => (listed.setIfInBounds i true).getD j false) (hS s.h ns q (fun j => listed.getD j false) ops.size ++ G') (fun j => if j = i then g else γ j) (fun j => if j = i then x else X j) →
            Inv w0 m0 h0 av0 (({ s with t := tS ops s.t X (fun i => listed.getD i false) ops.size, h := hS s.h ns q (fun i => listed.getD i false) ops.size ++ G' } : St).put (some e.d) x) (a.put (some e.d) v) w' m' →
            wpAny P .any ops Q fuel (listed.setIfInBounds i true) (a.put (some e.d) v) w' := by
          intro v w' m' g x G' J' I'
          have hst : ({ s with t := tS ops s.t X (fun i => listed.getD i false) ops.size, h := hS s.h ns q (fun i => listed.getD i false) ops.size ++ G' } : St).put (some e.d) x =
              { s with t := tS ops s.t (fun j => if j = i then x else X j) (fun j => (listed.setIfInBounds i true).getD j false) ops.size, h := hS s.h ns q (fun j => (listed.setIfInBounds i true).getD j false) ops.size ++ G' } := by
            rw [put_eq, hSS]
            congr 1
            have := tS_ins (ops := ops) s.t (fun i => listed.getD i false) (fun j => (listed.setIfInBounds i true).getD j false) X (fun j => if j = i then x else X j) i (fun j hj => if_neg hj) hu' (fun j => hset i hi j) (fun u hdu j hne hdj hSj => by
              exfalso
              have hj : j < ops.size := by
                unfold dstOf at hdj
                cases hg : ops[j]? with
                | none => simp [hg] at hdj
                | some o => exact (Array.getElem?_eq_some_iff.1 hg).1
              rw [chd i e hce] at hdu
              exact chn i e hce j hj (hlz j hSj) hne (by rw [hdj, hdu])) ops.size hi
            rw [chd i e hce] at this
            simpa using this
          rw [hst] at I'
          rw [← hSS] at J'
          exact ih _ _ w' m' _ _ G' (by simpa using hl) c1 c2 c3 (fun j hqj => by
            rw [if_neg (fun h => by subst h; rw [hqi] at hqj; cases hqj)]
            exact hX j hqj) J' I'
        have hwant := gdA_ok I (show gdA ops (tS ops s.t X (fun i => listed.getD i false) ops.size) o.guard True False by rw [hgd]; trivial)
        have hw1 : Region.wanted o (yielded ops a.tmps) = true := by
          rcases hwant with ⟨h1, _⟩ | ⟨_, h1⟩
          · exact h1
          · exact h1.elim
        unfold wpOp
        simp only [ho]
        rw [if_pos hw1]
        refine .inl ?_
        rcases hkind with ⟨hpv, hys, hop⟩ | ⟨j, y, ej, hpv, hcj, hty', hys, hB, hop, hyw⟩
        · refine start_wp I hd hop k1 k2 (fun v w' m' I1 => ?_)
          dsimp only at I1
          rw [List.append_assoc] at I1
          refine next v w' m' (hS s.h ns q (fun j => listed.getD j false) ops.size ++ G).length _ (G ++ [some []]) ?_ I1
          refine J.step hce (fun j => hset i hi j) (fun j ej hne hcj hSj hun hbj => ?_) ?_ (fun j ej hne hcj hSj hun => ?_) ?_ ?_ ?_
          · rw [← List.append_assoc, List.getElem?_append_left (id_lt hbj)]
            exact hbj
          · rw [← List.append_assoc, List.getElem?_append_right (Nat.le_refl _), Nat.sub_self, hys]
            rfl
          · have := hlt j ej hcj hSj (hsub j hun)
            omega
          · rw [hys, hszO]; rfl
          · rw [List.length_append, hlenS]; omega
          · rw [hys]; simp [catC, sumN]
        · have hSj : listed.getD j false = true := ready_B D hc hr hB
          have hunj : unsup tab (fun i => listed.getD i false) j := fun k' ek g1 g2 => by
            have := F.nx j k' i ek e g1 g2 hce hpv
            subst this
            exact hu'
          have hszj : szOf P ej.ty = sz := by rw [hty', hszO]
          obtain ⟨hj, hzj, _⟩ := F.ent j ej hcj
          have hyT : (tS ops s.t X (fun i => listed.getD i false) ops.size).getD y .undef = te.getD y .undef := by
            rw [hte]
            refine hT _ X y ops.size hX hlz (Nat.le_refl _) (fun l el hcl hSl hdl => ?_) (fun l hl' hdl => ?_)
            · obtain ⟨hl2, hz2, hq2, _⟩ := F.ent l el hcl
              have := (hyw l hl2 hz2 (by rw [chd l el hcl, hdl])).2
              rw [hq2] at this; cases this
            · refine ⟨fun h => ⟨hl', (hyw l hl' (hlz l h) hdl).2⟩, fun h => ?_⟩
              have hzl := qz l hl' h.2
              have hli := (hyw l hl' hzl hdl).1
              have hgl : ops[l]? = some ops[l] := Array.getElem?_eq_getElem hl'
              have hcl : clash ops l i = true := by
                unfold clash
                simp only [hgl, ho]
                have hd' : ops[l].dst = some y := by simpa [dstOf, hgl] using hdl
                have hm : y ∈ o.looksAt ops := mem_looksAt_operand (by rw [hop]; simp [Op.operands, Call.operands])
                simp [hd', hm]
              exact ready_B D hc hr ((D.cl i l hi hl' hzi hzl (by omega) hcl).1 hli)
          have hxT : (tS ops s.t X (fun i => listed.getD i false) ops.size).getD ej.d .undef = .osl (γ j) 0 (sumN he te ej.ys) sz := by
            rw [getD_tS_one (ops := ops) s.t (fun i => listed.getD i false) X ej.d j (hund j ej hcj).1 hSj (chd j ej hcj) ops.size hj (fun k' hk' hne hSk => chn j ej hcj k' hk' (hlz k' hSk) hne), (J.hx j ej hcj hSj).1, hszj]
          have hsr : srcV (hS s.h ns q (fun i => listed.getD i false) ops.size ++ G) sz none ((tS ops s.t X (fun i => listed.getD i false) ops.size).getD y .undef) (fun k ys => k = (srcF he (te.getD y .undef)).1 ∧ ys = (srcF he (te.getD y .undef)).2) := by
            have hrv := I.ev (.tmp y)
            have h1 := k4 y (by rw [hys]; simp)
            rw [← hyT] at h1 ⊢
            exact srcV_cmp (hcmpE _ G) hrv h1
          have hsl : (srcF he (te.getD y .undef)).2.length = (srcF he (te.getD y .undef)).1 * sz := by
            have hrv := I.ev (.tmp y)
            have h1 := k4 y (by rw [hys]; simp)
            rw [← hyT] at h1 ⊢
            exact src_len (hcmpE _ G) hrv h1
          have hsum : sumN he te e.ys = sumN he te ej.ys + (srcF he (te.getD y .undef)).1 := by rw [hys, sumN_append]; rfl
          have hcat : catC he te e.ys = catC he te ej.ys ++ (srcF he (te.getD y .undef)).2 := by rw [hys, catC_append]; simp [catC]
          have hbj := J.hb j ej hcj hSj hunj
          have hlj := J.hl j ej hcj hSj
          rw [hszj] at hlj
          have hxj := (J.hx j ej hcj hSj).2
          refine link_wp I hd hop k1 k2 k3 (g := γ j) hxT hbj hlj.symm hsr (by rw [← hsum]; exact k5) (by rw [← hsum]; exact k6) (fun v w' m' g' H' hH I1 => ?_)
          rw [← hsum] at I1
          rw [← hcat] at hH
          have hp6 : (catC he te e.ys).length = sumN he te e.ys * szOf P e.ty := by rw [hcat, List.length_append, hlj, hsl, hsum, hszO, Nat.add_mul]
          have hnj : ∀ l el, ceAt tab l = some el → unsup tab (fun j => (listed.setIfInBounds i true).getD j false) l → l ≠ j := fun l el hcl hun hlj => by
            subst hlj
            have := hun i e hce hpv
            dsimp only at this
            rw [hset i hi, if_pos rfl] at this
            cases this
          rcases hH with ⟨rfl, rfl⟩ | ⟨rfl, rfl⟩
          · have hset2 : (hS s.h ns q (fun j => listed.getD j false) ops.size ++ G).set (γ j) (some (catC he te e.ys)) = hS s.h ns q (fun j => listed.getD j false) ops.size ++ G.set (γ j - (hS s.h ns q (fun j => listed.getD j false) ops.size).length) (some (catC he te e.ys)) :=
              List.set_append_right _ _ (by rw [hlenS]; exact hxj)
            dsimp only at I1
            rw [hset2] at I1
            refine next v w' m' (γ j) _ (G.set (γ j - (hS s.h ns q (fun j => listed.getD j false) ops.size).length) (some (catC he te e.ys))) ?_ I1
            rw [← hset2]
            refine J.step hce (fun j => hset i hi j) (fun l el hne hcl hSl hun hbl => ?_) ?_ (fun l el hne hcl hSl hun => ?_) (by rw [hszO]) hxj hp6
            · have := J.hd l j el ej hcl hcj hSl hSj (hsub l hun) hunj (hnj l el hcl hun)
              rw [List.getElem?_set_ne (Ne.symm this)]
              exact hbl
            · rw [List.getElem?_set_self (id_lt hbj)]
            · exact J.hd l j el ej hcl hcj hSl hSj (hsub l hun) hunj (hnj l el hcl hun)
          · dsimp only at I1
            rw [List.append_assoc] at I1
            refine next v w' m' (hS s.h ns q (fun j => listed.getD j false) ops.size ++ G).length _ (G ++ [some (catC he te e.ys)]) ?_ I1
            refine J.step hce (fun j => hset i hi j) (fun l el hne hcl hSl hun hbl => ?_) ?_ (fun l el hne hcl hSl hun => ?_) (by rw [hszO]) ?_ hp6
            · rw [← List.append_assoc, List.getElem?_append_left (id_lt hbl)]
              exact hbl
            · rw [← List.append_assoc, List.getElem?_append_right (Nat.le_refl _), Nat.sub_self]
              rfl
            · have := hlt l el hcl hSl (hsub l hun)
              omega
            · rw [List.length_append, hlenS]; omega
      by_cases ht : tk k = true
      · -- the operation goes first
        have hget : ops[k]? = some ops[k] := Array.getElem?_eq_getElem hkn
        obtain ⟨hto, hap⟩ := D.take k _ hget ht
        have hnk : ceAt tab k = none := by
          cases hck : ceAt tab k with
          | none => rfl
          | some e =>
            obtain ⟨_, _, _, o, ho, _, _, hkind⟩ := F.ent k e hck
            rw [hget] at ho; simp at ho; subst ho
            rcases hkind with ⟨_, _, hop⟩ | ⟨_, _, _, _, _, _, _, _, hop, _⟩ <;> simp [pureOp, pureK, hop] at hto
        have hqk : q k = true := by rw [F.of k hkn hnk]; exact hkz
        obtain ⟨hi, hg, next⟩ := main k hkr hqk hkz
        obtain ⟨v, hy, hrv, hn⟩ := pure_yields I hto hg
        refine wpAny_first hget D.sel (fun c a' w' h => hQp c _ _ w' h) fuel listed a w (fun j oj hj hne hun hno => hap j oj hj hne (fun hB => ?_) hno) hkr hy (next v w m ?_)
        · have := ready_B D hc hkr hB
          rw [getD_tf (by rw [hl]; exact (Array.getElem?_eq_some_iff.1 hj).1), this] at hun
          cases hun
        · rw [hn]
          exact I.put hrv
      · refine ⟨(fun hr => by rw [hr] at hkr; cases hkr), fun i hr => ?_⟩
        obtain ⟨hi, hu⟩ := ready_lt hr
        have hzi : z i = true := by
          cases hx : z i
          · exfalso
            rcases D.mix i k hi hkn hx hkz with h | h | h
            · have := ready_B D hc hr h
              rw [hku] at this
              cases this
            · exact ht h
            · cases h
          · rfl
        cases hci : ceAt tab i with
        | some e => exact chain i e hr hci
        | none =>
          have hqi : q i = true := by rw [F.of i hi hci]; exact hzi
          obtain ⟨_, hg, next⟩ := main i hr hqi hzi
          have hu' : listed.getD i false = false := by rw [← getD_tf (by omega)]; exact hu
          unfold wpOp
          simp only [Array.getElem?_eq_getElem hi]
          unfold Go2 at hg
          rcases gdA_ok I hg with ⟨h1, h2⟩ | ⟨h1, h2⟩
          · rw [if_pos h1]
            have hltq : (hS s.h ns q q i).length ≤ (hS s.h ns q (fun i => listed.getD i false) ops.size).length := by
              obtain ⟨Bq, hBq⟩ := hS_tail s.h ns q q i ops.size (by omega)
              rw [hS_len s.h ns q (fun i => listed.getD i false) q ops.size, hBq q (fun _ _ => rfl)]
              simp
            refine .inl (gop_ok I (fun id cs cs' g1 g2 => ?_) (Nat.le_trans hlen (hS_le s.h ns q q i)) (fun j hj => ?_) h2 (fun v w' m' I' => next v w' m' I'))
            · rw [List.getElem?_append_left (Nat.lt_of_lt_of_le (id_lt g2) hltq)] at g1
              exact hS_same s.h ns q _ (Nat.le_of_lt hi) id cs cs' g1 g2
            · have := hS_none s.h ns q (fun i => listed.getD i false) hi hqi hu' j hj
              dsimp only
              rw [List.getElem?_append_left (id_lt this)]
              exact this
          · rw [if_neg (by simp [h1])]
            refine next _ w m ?_
            rw [h2.1, h2.2]
            exact I.put .skip
end
end Go.Lv
