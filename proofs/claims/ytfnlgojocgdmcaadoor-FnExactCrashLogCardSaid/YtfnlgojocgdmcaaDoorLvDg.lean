/-
  A region whose order is drawn: the graph of what has been done, an assertion at each node. Conditions: the program follows every order (every checked program does).
-/
import Derived.Test.YtfnlgojocgdmcaaDoorLvTr
set_option linter.unusedSimpArgs false
set_option linter.unusedVariables false
namespace Go.Lv

/-- The state s2 says no more than s. -/
def Weak (s s2 : St) : Prop := ∀ (w0 : World) (m0 : Nat → Nat) (h0 : Hp) (av0 : Nat → Prop) (a : Act) (w : World) (m : Nat → Nat), Inv w0 m0 h0 av0 s a w m → ∃ m', Inv w0 m0 h0 av0 s2 a w m'

/-- A node: what has been done (bits), what may come next. -/
abbrev Nd := Nat × List Nat
def lstM (n m : Nat) : Array Bool := (Array.range n).map fun i => m.testBit i

def nodeOk (ops : Array Oper) (N : List Nd) (p : Nd) : Bool :=
  let l := lstM ops.size p.1
  let r := Region.ready .any ops l
  ((r.isEmpty && p.2.isEmpty) || (!r.isEmpty && ((match p.2 with
    | [i] => pureAt ops i && (r.contains i && Region.free .any ops l i)
    | _ => false) || r.all fun j => p.2.contains j))) &&
  p.2.all fun i => decide (i < ops.size) && (!p.1.testBit i && N.any fun q => q.1 == p.1 ||| 2 ^ i)

def dgOk (ops : Array Oper) (N : List Nd) : Bool := Region.noSelect ops && ((N.any fun q => q.1 == 0) && N.all (nodeOk ops N))

/-- What is to be shown at a node. -/
def nextA (P : Program) (ops : Array Oper) (A : Nat → St → Prop) (m : Nat) (s : St) : List Nat → Prop
  | [] => True
  | i :: l => stepA P ops i s (fun s' => ∃ s2, A (m ||| 2 ^ i) s2 ∧ Weak s' s2) ∧ nextA P ops A m s l
def nodesA (P : Program) (ops : Array Oper) (A : Nat → St → Prop) (K : St → Prop) : List Nd → Prop
  | [] => True
  | (m, []) :: l => (∀ s, A m s → K s) ∧ nodesA P ops A K l
  | (m, i :: is) :: l => (∀ s, A m s → nextA P ops A m s (i :: is)) ∧ nodesA P ops A K l

def dgT (P : Program) (ops : Array Oper) (s : St) (K : St → Prop) : Prop :=
  ∃ (N : List Nd) (A : Nat → St → Prop), dgOk ops N = true ∧ A 0 s ∧ nodesA P ops A K N

theorem lstM_size (n m : Nat) : (lstM n m).size = n := by simp [lstM]
theorem lstM_get {n m i : Nat} (hi : i < n) : (lstM n m)[i]? = some (m.testBit i) := by simp [lstM, hi]
theorem testBit_add {m i j : Nat} : (m ||| 2 ^ i).testBit j = (if i = j then true else m.testBit j) := by
  rw [Nat.testBit_or, Nat.testBit_two_pow]
  by_cases h1 : i = j
  · simp [h1]
  · simp [h1]
theorem lstM_set {n m i : Nat} : (lstM n m).setIfInBounds i true = lstM n (m ||| 2 ^ i) := by
  apply Array.ext
  · simp [lstM]
  · intro j h1 h2
    have hj : j < n := by simpa [lstM] using h2
    rw [Array.getElem_setIfInBounds]
    · simp only [lstM, Array.getElem_map, Array.getElem_range, testBit_add]
    · simpa [lstM] using hj

theorem nextA_get {P : Program} {ops : Array Oper} {A : Nat → St → Prop} {m : Nat} {s : St} : ∀ {l : List Nat}, nextA P ops A m s l → ∀ i ∈ l, stepA P ops i s (fun s' => ∃ s2, A (m ||| 2 ^ i) s2 ∧ Weak s' s2)
  | [], _, i, hi => by cases hi
  | j :: l, h, i, hi => by
    rcases List.mem_cons.1 hi with rfl | hi
    · exact h.1
    · exact nextA_get h.2 i hi
theorem nodesA_get {P : Program} {ops : Array Oper} {A : Nat → St → Prop} {K : St → Prop} : ∀ {N : List Nd}, nodesA P ops A K N → ∀ p ∈ N, ∀ s, A p.1 s → (p.2 = [] → K s) ∧ nextA P ops A p.1 s p.2
  | [], _, p, hp => by cases hp
  | (m, []) :: l, h, p, hp => by
    rcases List.mem_cons.1 hp with rfl | hp
    · exact fun s hs => ⟨fun _ => h.1 s hs, trivial⟩
    · exact nodesA_get h.2 p hp
  | (m, i :: is) :: l, h, p, hp => by
    rcases List.mem_cons.1 hp with rfl | hp
    · exact fun s hs => ⟨fun e => (by simp at e), h.1 s hs⟩
    · exact nodesA_get h.2 p hp

section
variable {P : Program} {ops : Array Oper} {w0 : World} {m0 : Nat → Nat} {h0 : Hp} {av0 : Nat → Prop} {s : St} {a : Act} {w : World} {m : Nat → Nat}

/-- All orders, node by node. -/
theorem dg_ok {Q : Exit → Act → World → Prop} {K : St → Prop} {N : List Nd} {A : Nat → St → Prop} (hok : dgOk ops N = true) (hA : nodesA P ops A K N) (hQp : ∀ c a a' w, Q (.panic c) a w → Q (.panic c) a' w)
    (hk : ∀ s' a' w' m', K s' → Inv w0 m0 h0 av0 s' a' w' m' → Q .normal a' w') :
    ∀ (fuel : Nat) (p : Nd), p ∈ N → left ops.size (lstM ops.size p.1) ≤ fuel → ∀ (s : St) (a : Act) (w : World) (m : Nat → Nat), A p.1 s → Inv w0 m0 h0 av0 s a w m → wpAny P .any ops Q fuel (lstM ops.size p.1) a w := by
  simp only [dgOk, Bool.and_eq_true] at hok
  obtain ⟨hs, _, hN⟩ := hok
  have hnode := fun p hp => List.all_eq_true.1 hN p hp
  intro fuel
  induction fuel with
  | zero =>
    intro p hp hl s a w m hAs I
    have h := hnode p hp
    simp only [nodeOk, Bool.and_eq_true] at h
    obtain ⟨h1, h2⟩ := h
    have hr : Region.ready .any ops (lstM ops.size p.1) = [] := by
      cases hr : Region.ready .any ops (lstM ops.size p.1) with
      | nil => rfl
      | cons j l =>
        have hj : j ∈ Region.ready .any ops (lstM ops.size p.1) := by rw [hr]; simp
        obtain ⟨hi, hun⟩ := ready_lt hj
        have := left_set hi (lstM_size _ _) hun
        omega
    have hp2 : p.2 = [] := by
      rw [hr] at h1
      simpa using h1
    exact wpAny_done hr (hk s a w m ((nodesA_get hA p hp s hAs).1 hp2) I) 0
  | succ fuel ih =>
    intro p hp hl s a w m hAs I
    have h := hnode p hp
    simp only [nodeOk, Bool.and_eq_true] at h
    obtain ⟨h1, h2⟩ := h
    obtain ⟨hK, hnx⟩ := nodesA_get hA p hp s hAs
    have goon : ∀ i ∈ p.2, ∃ q ∈ N, q.1 = p.1 ||| 2 ^ i ∧ i < ops.size ∧ (lstM ops.size p.1).setIfInBounds i true = lstM ops.size q.1 ∧ left ops.size (lstM ops.size q.1) ≤ fuel := by
      intro i hi
      have := List.all_eq_true.1 h2 i hi
      simp only [Bool.and_eq_true, decide_eq_true_eq, Bool.not_eq_true', List.any_eq_true, beq_iff_eq] at this
      obtain ⟨hlt, hb, q, hq, e⟩ := this
      have e2 := lstM_set (n := ops.size) (m := p.1) (i := i)
      have hlt2 := left_set (listed := lstM ops.size p.1) hlt (lstM_size _ _) (by simp [Array.getD, lstM_size, hlt, lstM, hb])
      refine ⟨q, hq, e, hlt, by rw [e]; exact e2, ?_⟩
      rw [e, ← e2]
      omega
    have after : ∀ i ∈ p.2, ∀ s' a' w' m', (∃ s2, A (p.1 ||| 2 ^ i) s2 ∧ Weak s' s2) → Inv w0 m0 h0 av0 s' a' w' m' → wpAny P .any ops Q fuel ((lstM ops.size p.1).setIfInBounds i true) a' w' := by
      intro i hi s' a' w' m' hs' I'
      obtain ⟨q, hq, e, _, e2, hlf⟩ := goon i hi
      obtain ⟨s2, hA2, hw⟩ := hs'
      obtain ⟨m2, I2⟩ := hw _ _ _ _ _ _ _ I'
      rw [e2]
      exact ih q hq hlf s2 a' w' m2 (by rw [e]; exact hA2) I2
    have stp : ∀ i ∈ p.2, ∃ o, ops[i]? = some o ∧ gdA ops s.t o.guard (fop P s o fun s' => ∃ s2, A (p.1 ||| 2 ^ i) s2 ∧ Weak s' s2) (∃ s2, A (p.1 ||| 2 ^ i) s2 ∧ Weak (s.put o.dst .skip) s2) := by
      intro i hi
      obtain ⟨_, _, _, hlt, _⟩ := goon i hi
      have hg : ops[i]? = some ops[i] := Array.getElem?_eq_getElem hlt
      have := nextA_get hnx i hi
      unfold stepA at this
      rw [hg] at this
      exact ⟨_, hg, this⟩
    simp only [Bool.or_eq_true, Bool.and_eq_true, List.isEmpty_iff, Bool.not_eq_true'] at h1
    rcases h1 with ⟨h1, hp2⟩ | ⟨hr0, h1 | h1⟩
    · exact wpAny_done h1 (hk s a w m (hK hp2) I) _
    · split at h1
      · rename_i i e
        simp only [Bool.and_eq_true] at h1
        obtain ⟨hpu, hrd, hfr⟩ := h1
        have hi : i ∈ p.2 := by rw [e]; simp
        obtain ⟨o, hget, hq⟩ := stp i hi
        have hpo : pureOp o = true := by simpa [pureAt, hget] using hpu
        have fin : ∃ v, Yields P ops o v a ∧ wpAny P .any ops Q fuel ((lstM ops.size p.1).setIfInBounds i true) (a.put o.dst v) w := by
          rcases gdA_ok I hq with ⟨hw, hq⟩ | ⟨hw, hq⟩
          · obtain ⟨v, x, g1, g2, g3⟩ := pure_ok I hpo hq
            exact ⟨v, .inl ⟨hw, g3⟩, after i hi _ _ _ _ g1 (I.put g2)⟩
          · exact ⟨Go.undef, .inr ⟨hw, rfl⟩, after i hi _ _ _ _ hq (I.put .skip)⟩
        obtain ⟨v, hy, hv⟩ := fin
        exact wpAny_take hget hs hfr (by simpa using hrd) (fun c a' w' h => hQp c _ _ w' h) hy hv
      · cases h1
    · refine wpAny_all rfl (fun e => by rw [e] at hr0; cases hr0) (fun j hj => ?_)
      have hj2 : j ∈ p.2 := by simpa using List.all_eq_true.1 h1 j hj
      obtain ⟨o, hget, hq⟩ := stp j hj2
      unfold wpOp
      simp only [hget]
      rcases gdA_ok I hq with ⟨g1, g2⟩ | ⟨g1, g2⟩
      · rw [if_pos g1]
        exact .inl (fop_ok I g2 (fun s' a' w' m' h3 h4 => after j hj2 s' a' w' m' h3 h4))
      · rw [if_neg (by simp [g1])]
        exact after j hj2 _ _ _ _ g2 (I.put .skip)

theorem drawG_region (hm : P.follows .mixedOrders = true) {Q : Exit → Act → World → Prop} {K : St → Prop} (hk : ∀ s' a' w' m', K s' → Inv w0 m0 h0 av0 s' a' w' m' → Q .normal a' w')
    (I : Inv w0 m0 h0 av0 s a w m) (hq : dgT P ops s K) {id : Nat} : (Code.region id ops true).wp P Q a w := by
  obtain ⟨N, A, h1, h2, h3⟩ := hq
  refine wp_mono (Q := fun e a w => e = .normal ∧ Q .normal a w) ?_ (fun e a w h => by rw [h.1]; exact h.2)
  refine wp_region_any hm ?_
  have h1' := h1
  simp only [dgOk, Bool.and_eq_true, List.any_eq_true, beq_iff_eq] at h1'
  obtain ⟨_, ⟨q, hq, e⟩, _⟩ := h1'
  have hl0 : lstM ops.size 0 = Array.replicate ops.size false := by
    apply Array.ext
    · simp [lstM]
    · intro i h1 h2; simp [lstM]
  have := dg_ok (Q := fun e a w => e = .normal ∧ Q .normal a w) h1 h3 (fun c a a' w h => by cases h.1) (fun s' a' w' m' g1 g2 => ⟨rfl, hk s' a' w' m' g1 g2⟩) ops.size q hq (by
    unfold left
    exact Nat.le_trans (List.length_filter_le _ _) (by simp)) s a _ m (by rw [e]; exact h2) (I.world (Ext.drew _ w))
  rw [e, hl0] at this
  exact this

end
end Go.Lv
