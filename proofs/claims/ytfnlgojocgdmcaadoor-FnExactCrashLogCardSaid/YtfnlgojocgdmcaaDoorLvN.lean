/-
  A region whose order is drawn, in the world: the two phases. Conditions: the program follows every order (every checked program does).
-/
import Derived.Test.YtfnlgojocgdmcaaDoorLvM
import Derived.Control
set_option linter.unusedSimpArgs false
set_option linter.unusedVariables false
namespace Go.Lv

section
variable {P : Program} {ops : Array Oper} {z tk lt : Nat → Bool} {B : Nat → Nat → Prop}

theorem DrawOk.B_lt (D : DrawOk ops z B tk lt) : ∀ (i j : Nat), i < ops.size → B i j → j < i := by
  intro i
  induction i using Nat.strongRecOn with
  | _ i ih =>
    intro j hi hB
    have hget : ops[i]? = some ops[i] := Array.getElem?_eq_getElem hi
    obtain ⟨e, he, hb, h⟩ := D.clo i _ j hget hB
    have hlt := D.lt i _ hget e he hb
    rcases h with h | h
    · omega
    · have := ih e.on hlt j (by omega) h
      omega

theorem DrawOk.zB (D : DrawOk ops z B tk lt) : ∀ (i j : Nat), i < ops.size → z i = true → B i j → z j = true := by
  intro i
  induction i using Nat.strongRecOn with
  | _ i ih =>
    intro j hi hz hB
    have hget : ops[i]? = some ops[i] := Array.getElem?_eq_getElem hi
    obtain ⟨e, he, hb, h⟩ := D.clo i _ j hget hB
    have hlt := D.lt i _ hget e he hb
    have hze := D.noq i _ hget hz e he hb
    rcases h with h | h
    · rw [← h]; exact hze
    · exact ih e.on hlt j (by omega) hze h

/-- What has run is closed under what comes before. -/
def Closed (B : Nat → Nat → Prop) (listed : Array Bool) : Prop := ∀ i j, listed.getD i false = true → B i j → listed.getD j false = true

theorem ready_B (D : DrawOk ops z B tk lt) {listed : Array Bool} (hc : Closed B listed) {i : Nat} (hr : i ∈ Region.ready .any ops listed) {j : Nat} (hB : B i j) : listed.getD j false = true := by
  obtain ⟨_, o, ho, hall⟩ := mem_ready.1 hr
  obtain ⟨e, he, hb, h⟩ := D.clo i o j ho hB
  have h1 := hall e he hb
  rcases h with h | h
  · rw [← h]; exact h1
  · exact hc _ _ h1 h

theorem ready_lt {listed : Array Bool} {i : Nat} (hr : i ∈ Region.ready .any ops listed) : i < ops.size ∧ listed.getD i true = false := by
  obtain ⟨h0, o, ho, _⟩ := mem_ready.1 hr
  exact ⟨(Array.getElem?_eq_some_iff.1 ho).1, h0⟩

theorem progress (D : DrawOk ops z B tk lt) {listed : Array Bool} {i : Nat} (hi : i < ops.size) (hu : listed.getD i true = false) (hall : ∀ j, j < i → (z i = true → z j = true) → listed.getD j false = true) : i ∈ Region.ready .any ops listed := by
  have hget : ops[i]? = some ops[i] := Array.getElem?_eq_getElem hi
  exact mem_ready.2 ⟨hu, _, hget, fun e he hb => hall _ (D.lt i _ hget e he hb) (fun hz => D.noq i _ hget hz e he hb)⟩

theorem left_pos {n : Nat} {listed : Array Bool} {i : Nat} (hi : i < n) (hu : listed.getD i true = false) : 0 < left n listed := by
  unfold left
  exact List.length_pos_of_mem (List.mem_filter.2 ⟨List.mem_range.2 hi, by simp [hu]⟩)

variable {w0 : World} {m0 : Nat → Nat} {h0 : Hp} {av0 : Nat → Prop}

theorem getD_set_if {listed : Array Bool} {i j : Nat} (hi : i < listed.size) : (listed.setIfInBounds i true).getD j false = if i = j then true else listed.getD j false := by
  by_cases e : i = j
  · subst e; simp [hi]
  · rw [getD_set_ne false e, if_neg e]

theorem restFrom_cons {q : Nat} (hq : q < ops.size) : restFrom ops z q = if z q then restFrom ops z (q + 1) else ops[q] :: restFrom ops z (q + 1) := by
  unfold restFrom
  rw [List.drop_eq_getElem_cons (by simpa using hq), List.filterMap_cons]
  simp only [List.getElem_range, Array.getElem?_eq_getElem hq]
  cases z q <;> rfl

/-- The put-off operations come one by one. -/
theorem phase2 (D : DrawOk ops z B tk lt) {Q : Exit → Act → World → Prop} {K : St → Prop} (hk : ∀ s' a' w' m', K s' → Inv w0 m0 h0 av0 s' a' w' m' → Q .normal a' w') :
    ∀ (d q : Nat), q + d = ops.size → ∀ (fuel : Nat) (listed : Array Bool) (s : St) (a : Act) (w : World) (m : Nat → Nat), listed.size = ops.size → (∀ i, i < ops.size → (listed.getD i false = true ↔ z i = true ∨ i < q)) → left ops.size listed ≤ fuel →
      Inv w0 m0 h0 av0 s a w m → fopsA P ops (restFrom ops z q) s K → wpAny P .any ops Q fuel listed a w := by
  intro d
  induction d with
  | zero =>
    intro q hq fuel listed s a w m hl hli hf I hops
    have e : restFrom ops z q = [] := by unfold restFrom; rw [List.drop_of_length_le (by simp; omega)]; rfl
    rw [e] at hops
    refine wpAny_done (List.eq_nil_iff_forall_not_mem.2 fun i hr => ?_) (hk s a w m hops I) fuel
    obtain ⟨h1, h2⟩ := ready_lt hr
    have := (hli i h1).2 (.inr (by omega))
    rw [getD_tf (by omega)] at h2
    rw [this] at h2
    cases h2
  | succ d ih =>
    intro q hq fuel listed s a w m hl hli hf I hops
    have hqn : q < ops.size := by omega
    rw [restFrom_cons hqn] at hops
    by_cases hzq : z q = true
    · rw [if_pos hzq] at hops
      refine ih (q + 1) (by omega) fuel listed s a w m hl (fun i hi => ?_) hf I hops
      rw [hli i hi]
      by_cases e : i = q
      · subst e; simp [hzq]
      · constructor <;> rintro (h | h) <;> first | exact .inl h | exact .inr (by omega)
    · rw [if_neg hzq] at hops
      have hu : listed.getD q true = false := by
        rw [getD_tf (by omega)]
        cases hx : listed.getD q false
        · rfl
        · rcases (hli q hqn).1 hx with h | h
          · exact absurd h hzq
          · omega
      cases fuel with
      | zero => have := left_pos hqn hu; omega
      | succ fuel =>
        have hpr : q ∈ Region.ready .any ops listed := progress D hqn hu (fun j hj _ => (hli j (by omega)).2 (.inr hj))
        refine ⟨(fun hr => by rw [hr] at hpr; cases hpr), fun i hr => ?_⟩
        obtain ⟨hi, hui⟩ := ready_lt hr
        have hni : ¬ (z i = true ∨ i < q) := by
          intro h
          have := (hli i hi).2 h
          rw [getD_tf (by omega), this] at hui
          cases hui
        have hiq : i = q := by
          rcases Nat.lt_or_ge q i with h | h
          · exfalso
            have hzi : z i = false := by cases hx : z i
                                         · rfl
                                         · exact absurd (.inl hx) hni
            have hB := D.bar i q hi hzi h (by simpa using hzq)
            obtain ⟨_, o, ho, hall⟩ := mem_ready.1 hr
            obtain ⟨e, he, hb, hh⟩ := D.clo i o q ho hB
            have h1 := hall e he hb
            have h2 := D.lt i o ho e he hb
            have h3 := (hli e.on (by omega)).1 h1
            rcases hh with hh | hh
            · rw [hh] at h3
              rcases h3 with h3 | h3
              · exact hzq h3
              · omega
            · rcases h3 with h3 | h3
              · exact hzq (D.zB e.on q (by omega) h3 hh)
              · have := D.B_lt e.on q (by omega) hh
                omega
          · omega
        subst hiq
        have hget : ops[i]? = some ops[i] := Array.getElem?_eq_getElem hi
        have next : ∀ (s' : St) (a' : Act) (w' : World) (m' : Nat → Nat), Inv w0 m0 h0 av0 s' a' w' m' → fopsA P ops (restFrom ops z (i + 1)) s' K → wpAny P .any ops Q fuel (listed.setIfInBounds i true) a' w' := by
          intro s' a' w' m' I' h'
          refine ih (i + 1) (by omega) fuel _ s' a' w' m' (by simpa using hl) (fun j hj => ?_) (by have := left_set hi hl hu; omega) I' h'
          rw [getD_set_if (by omega)]
          by_cases e : i = j
          · subst e; simp
          · rw [if_neg e, hli j hj]
            constructor <;> rintro (h | h) <;> first | exact .inl h | exact .inr (by omega)
        unfold wpOp
        simp only [hget]
        unfold fopsA at hops
        rcases gdA_ok I hops with ⟨h1, h2⟩ | ⟨h1, h2⟩
        · rw [if_pos h1]
          exact .inl (fop_ok I h2 (fun s' a' w' m' h3 h4 => next s' a' w' m' h4 h3))
        · rw [if_neg (by simp [h1])]
          exact next _ _ w m (I.put .skip) h2

theorem mem_looksAt_operand {o : Oper} {u : Tmp} (h : Operand.tmp u ∈ o.op.operands) : u ∈ o.looksAt ops := by
  unfold Oper.looksAt
  exact List.mem_append_left _ (List.mem_filterMap.2 ⟨.tmp u, by simpa using h, rfl⟩)

theorem mem_looksAt_guard {o : Oper} {g : Nat} {b : Bool} {u : Tmp} (hg : o.guard = some (g, b)) (hu : (ops[g]?).bind (·.dst) = some u) : u ∈ o.looksAt ops := by
  unfold Oper.looksAt
  rw [hg]
  exact List.mem_append_right _ (by simp [hu])

theorem least_false : ∀ (p : Nat) (f : Nat → Bool), ¬ (∀ i, i < p → f i = true) → ∃ i, i < p ∧ f i = false ∧ ∀ j, j < i → f j = true
  | 0, f, h => absurd (fun i hi => absurd hi (by omega)) h
  | p + 1, f, h => by
    by_cases h' : ∀ i, i < p → f i = true
    · refine ⟨p, by omega, ?_, h'⟩
      cases hx : f p
      · rfl
      · exact absurd (fun i hi => by
          rcases Nat.lt_or_ge i p with g | g
          · exact h' i g
          · have : i = p := by omega
            subst this; exact hx) h
    · obtain ⟨i, h1, h2, h3⟩ := least_false p f h'
      exact ⟨i, by omega, h2, h3⟩

theorem tS_congr (ops : Array Oper) (t0 : List V) (xs : Nat → V) (S S' : Nat → Bool) : ∀ q, (∀ i, i < q → S i = S' i) → tS ops t0 xs S q = tS ops t0 xs S' q
  | 0, _ => rfl
  | q + 1, h => by
    simp only [tS]
    rw [h q (by omega), tS_congr ops t0 xs S S' q (fun i hi => h i (by omega))]

theorem gdA_congr {t t' : List V} {gd : Option (Nat × Bool)} {A A' B : Prop} (hg : ∀ g b, gd = some (g, b) → gv ops t g = gv ops t' g) (hA : A → A') (hq : gdA ops t gd A B) : gdA ops t' gd A' B := by
  unfold gdA at *
  cases gd with
  | none => exact hA hq
  | some jw =>
    obtain ⟨j, want⟩ := jw
    dsimp only at *
    rw [← hg j want rfl]
    unfold guardA at *
    split at hq
    · exact ⟨fun e => hA (hq.1 e), hq.2⟩
    · exact hq
    · exact hq.elim

theorem take_ok {w : World} {m : Nat → Nat} {h : Hp} {av : Nat → Prop} {u : Value} {x : V} {s : TypeId} {f : Nat} {K : V → Prop} (hx : RV w m h av true u x) (hq : fieldAddrV P s f x K) :
    ∃ v y, K y ∧ RV w m h av true v y ∧ ∀ w', (Instr.fieldAt s u f).run P w' = .ok v w' := by
  unfold fieldAddrV at hq
  split at hq
  · rename_i off sz ag ht
    obtain ⟨fs, fd, i, d, h1, h2, rfl, h4, h5, rfl, h7⟩ := fdOf_some ht
    obtain ⟨hpos, hq⟩ := hq
    have hne : ¬ i.size = 0 := by omega
    have run : ∀ b o w', (Instr.fieldAt s (.pointer (some ⟨b, o, none⟩)) f).run P w' = .ok (.pointer (some ⟨b, o + fd.offset, none⟩)) w' := by
      intro b o w'
      simp [Instr.fieldAt, run_underlying h1, h2, Instr.sureAddr, fieldPlace, sizeOf, typeInfo, h4, hne, Addr.add_lit]
    cases hx with
    | pt b o cs vals ha hv hr =>
      refine ⟨_, _, hq, .pt b (o + fd.offset) _ (fun j => vals (fd.offset + j)) (fun hne => ha (by rintro rfl; simp at hne)) (fun j hj => ?_) (fun j hj => ?_), run b o⟩
      · rw [Nat.add_assoc]; exact hv _ (by simp at hj; omega)
      · rw [List.getElem_drop]; exact hr _ _
    | ptr id o cs hid => exact ⟨_, _, hq, .ptr id _ cs hid, run _ o⟩
    | _ => exact False.elim hq
  · exact hq.elim

def isLit : V → Bool
  | .int _ _ => true
  | .str _ => true
  | .bool _ => true
  | _ => false
def litV : V → Value
  | .int k n => .int k n
  | .str s => .string s
  | .bool b => .bool b
  | _ => Go.undef
theorem rv_lit {w : World} {m : Nat → Nat} {h : Hp} {av : Nat → Prop} {o : Bool} {v : Value} {x : V} (hl : isLit x = true) (hx : RV w m h av o v x) : v = litV x := by
  cases hx <;> first | rfl | (cases hl; done)
theorem lit_rv {w : World} {m : Nat → Nat} {h : Hp} {av : Nat → Prop} {o : Bool} {x : V} (hl : isLit x = true) : RV w m h av o (litV x) x := by
  cases x <;> first | exact .int _ _ | exact .str _ | exact .bool _ | (cases hl; done)
theorem bin_lit {op : BinOp} {t : TypeId} {x y : V} {K : V → Prop} (hq : bin P op t x y K) : bin P op t x y (fun z => K z ∧ isLit z = true) := by
  unfold bin at hq ⊢
  split at hq
  · refine ⟨hq.1, ?_⟩
    have h := hq.2
    cases op <;> simp only [intBin] at h ⊢ <;> first | exact ⟨h, rfl⟩ | exact ⟨h.1, h.2, rfl⟩ | exact h
  · cases op <;> simp only [strBin] at hq ⊢ <;> first | exact ⟨hq, rfl⟩ | exact ⟨hq.1, hq.2, rfl⟩ | exact hq
  · refine ⟨hq.1, ?_⟩
    have h := hq.2
    split at h
    · exact ⟨h, rfl⟩
    · exact ⟨h, rfl⟩
    · exact h.elim
  · split at hq
    · split at hq
      · split at hq
        · exact ⟨hq, rfl⟩
        · exact ⟨hq, rfl⟩
        · exact hq.elim
      · exact hq.elim
    · exact hq.elim
  · exact hq.elim
theorem eqL_lit : ∀ {ds : List TypeDesc} {a b : List V} {r : Bool}, eqL ds a b = some r → (∀ x ∈ a, isLit x = true) ∧ ∀ x ∈ b, isLit x = true
  | [], [], [], _, _ => ⟨fun x h => by simp at h, fun x h => by simp at h⟩
  | d :: ds, u :: a, v :: b, r, h => by
    unfold eqL at h
    split at h
    · rename_i x1 x2 h1 h2
      have ih := eqL_lit h2
      have hu : isLit u = true ∧ isLit v = true := by
        unfold eqV at h1
        split at h1 <;> first | exact ⟨rfl, rfl⟩ | (cases h1; done)
      exact ⟨fun x hx => by rcases List.mem_cons.1 hx with rfl | hx; exact hu.1; exact ih.1 x hx, fun x hx => by rcases List.mem_cons.1 hx with rfl | hx; exact hu.2; exact ih.2 x hx⟩
    · cases h
  | [], _ :: _, _, _, h => by simp [eqL] at h
  | [], [], _ :: _, _, h => by simp [eqL] at h
  | _ :: _, [], _, _, h => by simp [eqL] at h
  | _ :: _, _ :: _, [], _, h => by simp [eqL] at h
theorem agg_any {w w' : World} {m : Nat → Nat} {h : Hp} {av : Nat → Prop} {v : Value} {cs : List V} (hl : ∀ x ∈ cs, isLit x = true) (hx : RV w m h av true v (.agg cs)) : RV w' m h av true v (.agg cs) := by
  cases hx with
  | agg a a' ha hra =>
    refine .agg a _ ha (fun i hi => ?_)
    have h1 := hl _ (List.getElem_mem hi)
    rw [rv_lit h1 (hra i hi)]
    exact lit_rv h1
theorem opnd_any {w w' : World} {m : Nat → Nat} {h : Hp} {av : Nat → Prop} {u v : Value} {op : BinOp} {t : TypeId} {x y : V} {K : V → Prop} (hx : RV w m h av true u x) (hy : RV w m h av true v y) (hq : bin P op t x y K) :
    RV w' m h av true u x ∧ RV w' m h av true v y := by
  unfold bin at hq
  split at hq
  · cases hx; cases hy; exact ⟨.int _ _, .int _ _⟩
  · cases hx; cases hy; exact ⟨.str _, .str _⟩
  · cases hx; cases hy; exact ⟨.bool _, .bool _⟩
  · split at hq
    · split at hq
      · rename_i r he
        obtain ⟨h1, h2⟩ := eqL_lit he
        exact ⟨agg_any h1 hx, agg_any h2 hy⟩
      · exact hq.elim
    · exact hq.elim
  · exact hq.elim
theorem bin_all {w : World} {m : Nat → Nat} {h : Hp} {av : Nat → Prop} {u v : Value} {op : BinOp} {t : TypeId} {x y : V} {K : V → Prop} (hx : RV w m h av true u x) (hy : RV w m h av true v y) (hq : bin P op t x y K) :
    ∃ z, K z ∧ isLit z = true ∧ ∀ w' ox oy, (do eqGuard op t ox oy u v; binOp op t u v : Sem Value).run P w' = .ok (litV z) w' := by
  obtain ⟨z, hz, hq'⟩ := det_bin P op t x y _ (bin_lit hq)
  refine ⟨z, hz.1, hz.2, fun w' ox oy => ?_⟩
  obtain ⟨g1, g2⟩ := opnd_any (w' := w') hx hy hq'
  obtain ⟨v', x', h1, h2, h3⟩ := bin_ok (ox := ox) (oy := oy) g1 g2 hq'
  subst h1
  rw [rv_lit hz.2 h2] at h3
  exact h3

theorem takeI_ok {w : World} {m : Nat → Nat} {h : Hp} {av : Nat → Prop} {u v : Value} {x : V} {k : IntKind} {z : Int} {t : TypeId} {K : V → Prop} (hx : RV w m h av true u x) (hv : v = .int k z) (hq : indexAddrV P t x z K) :
    ∃ v' y, K y ∧ RV w m h av true v' y ∧ ∀ w', (Instr.indexAt t u v).run P w' = .ok v' w' := by
  unfold indexAddrV at hq
  subst hv
  cases hx with
  | sl b off n cap wd cs vals hl ha hc hcell hr =>
    dsimp only at hq
    split at hq
    · rename_i e sz by_ he
      obtain ⟨i, h1, h2, rfl, h4⟩ := elOf_some he
      obtain ⟨⟨h5, h6⟩, rfl, hk⟩ := hq
      have hzn : z.toNat < n := by omega
      have hroom : z.toNat * i.size + i.size ≤ cs.length := mul_room hzn hl
      refine ⟨_, _, hk, .pt b (off + z.toNat * i.size) _ (fun j => vals (z.toNat * i.size + j)) (fun hne => ha (by rintro rfl; simp at hne)) (fun j hj => ?_) (fun j hj => ?_), fun w' => run_indexAt_sl t e i h1 h2 b off n cap k z h5 h6⟩
      · rw [Nat.add_assoc]; exact hcell _ (by simp at hj; omega)
      · simp only [List.getElem_take, List.getElem_drop]; exact hr _ _
    · exact hq.elim
  | slz a c wd =>
    dsimp only at hq
    split at hq
    · exact absurd hq.1 (by omega)
    · exact hq.elim
  | osl id off n cap wd cs hid hl hc hs =>
    dsimp only at hq
    split at hq
    · rename_i e sz by_ he
      obtain ⟨i, h1, h2, rfl, h4⟩ := elOf_some he
      obtain ⟨⟨h5, h6⟩, rfl, hk⟩ := hq
      exact ⟨_, _, hk, .ptr id _ cs hid, fun w' => run_indexAt_sl t e i h1 h2 _ off n cap k z h5 h6⟩
    · exact hq.elim
  | ptr id off cs hid =>
    dsimp only at hq
    split at hq
    · rename_i n sz ag he
      obtain ⟨e, i, d, h1, h2, h3, rfl, rfl⟩ := arOf_some he
      obtain ⟨⟨h5, h6⟩, hk⟩ := hq
      exact ⟨_, _, hk, .ptr id _ cs hid, fun w' => run_indexAt_ar t e n i h1 h2 _ off k z h5 h6⟩
    · exact hq.elim
  | pt b off cs vals ha hcell hr =>
    dsimp only at hq
    split at hq
    · rename_i n sz ag he
      obtain ⟨e, i, d, h1, h2, h3, rfl, rfl⟩ := arOf_some he
      obtain ⟨⟨h5, h6⟩, hk⟩ := hq
      refine ⟨_, _, hk, .pt b (off + z.toNat * i.size) _ (fun j => vals (z.toNat * i.size + j)) (fun hne => ha (by rintro rfl; simp at hne)) (fun j hj => ?_) (fun j hj => ?_), fun w' => run_indexAt_ar t e n i h1 h2 b off k z h5 h6⟩
      · rw [Nat.add_assoc]; exact hcell _ (by simp at hj; omega)
      · simp only [List.getElem_drop]; exact hr _ _
    · exact hq.elim
  | _ => exact False.elim hq

theorem Inv.pad {s : St} {a : Act} {w : World} {m : Nat → Nat} (I : Inv w0 m0 h0 av0 s a w m) (k : Nat) : Inv w0 m0 h0 av0 { s with h := s.h ++ List.replicate k none } a w m := by
  have hcase : ∀ (j : Nat) (c : List V), (s.h ++ List.replicate k none)[j]? = some (some c) → s.h[j]? = some (some c) := by
    intro j c h
    rcases Nat.lt_or_ge j s.h.length with h1 | h1
    · rw [List.getElem?_append_left h1] at h; exact h
    · rw [List.getElem?_append_right h1, List.getElem?_replicate] at h
      split at h <;> cases h
  have hold : ∀ (j : Nat) (c : List V), s.h[j]? = some (some c) → (s.h ++ List.replicate k none)[j]? = some (some c) := fun j c h => by
    rw [List.getElem?_append_left (id_lt h)]; exact h
  have hown : ∀ b, own m (s.h ++ List.replicate k none) b → own m s.h b := by
    rintro b ⟨j, c, h1, rfl⟩
    exact ⟨j, c, hcase j c h1, rfl⟩
  have hstep : ∀ {o : Bool} {v : Value} {x : V}, RV w m s.h (avm av0 m s.h) o v x → RV w m (s.h ++ List.replicate k none) (avm av0 m (s.h ++ List.replicate k none)) o v x :=
    fun hx => hx.step (fun b off' v hb hc => ⟨fun h => hb (h.imp (fun h => h) (hown b)), hc⟩) (fun id c hid => ⟨c, hold id c hid, Nat.le_refl _, rfl, Nat.le_refl _, rfl⟩)
  refine ⟨⟨fun i j ci cj h1 h2 he => I.rh.inj i j ci cj (hcase i ci h1) (hcase j cj h2) he, fun j c h1 => .inr ⟨j, c, h1, rfl⟩, fun j c h1 => (I.rh.blk j c (hcase j c h1)).step rfl (fun v x => hstep)⟩, I.size, fun i hi => hstep (I.slots i hi), I.defers, I.ext, fun j c h1 => I.ids j c (hcase j c h1), I.lt, I.lent, I.gl, I.k, by
    have := I.len
    simp only [List.length_append]; omega⟩

/-- The quiet part, in whatever order. -/
theorem phase1 (D : DrawOk ops z B tk) {Q : Exit → Act → World → Prop} {K : St → Prop} (hQp : ∀ c a a' w, Q (.panic c) a w → Q (.panic c) a' w) (hk : ∀ s' a' w' m', K s' → Inv w0 m0 h0 av0 s' a' w' m' → Q .normal a' w') {s : St} (hlen : h0.length ≤ s.h.length) {xs : Nat → V} {ns : Nat → Hp}
    (hgo : ∀ i o, i < ops.size → z i = true → ops[i]? = some o → Go2 P ops (hS s.h ns z z i) o (tS ops s.t xs z i) (xs i) (ns i)) (hend : fopsA P ops (restFrom ops z 0) { s with t := tS ops s.t xs z ops.size, h := hS s.h ns z z ops.size } K) :
    ∀ (fuel : Nat) (listed : Array Bool) (a : Act) (w : World) (m : Nat → Nat), listed.size = ops.size → Closed B listed → (∀ i, listed.getD i false = true → z i = true) → left ops.size listed ≤ fuel →
      Inv w0 m0 h0 av0 { s with t := tS ops s.t xs (fun i => listed.getD i false) ops.size, h := hS s.h ns z (fun i => listed.getD i false) ops.size } a w m → wpAny P .any ops Q fuel listed a w := by
  have done : ∀ (fuel : Nat) (listed : Array Bool) (a : Act) (w : World) (m : Nat → Nat), listed.size = ops.size → (∀ i, listed.getD i false = true → z i = true) → left ops.size listed ≤ fuel →
      Inv w0 m0 h0 av0 { s with t := tS ops s.t xs (fun i => listed.getD i false) ops.size, h := hS s.h ns z (fun i => listed.getD i false) ops.size } a w m → (∀ i, i < ops.size → z i = true → listed.getD i false = true) → wpAny P .any ops Q fuel listed a w := by
    intro fuel listed a w m hl hlz hf I hall
    have hsz : ∀ i, i < ops.size → listed.getD i false = z i := fun i hi => by
      cases hz : z i
      · cases hx : listed.getD i false
        · rfl
        · rw [hlz i hx] at hz; cases hz
      · exact hall i hi hz
    rw [tS_congr ops s.t xs _ z ops.size hsz, hS_congr s.h ns z ops.size (fun i hi _ => hsz i hi)] at I
    refine phase2 D hk ops.size 0 (by omega) fuel listed _ a w m hl (fun i hi => ?_) hf I hend
    rw [hsz i hi]; simp
  intro fuel
  induction fuel with
  | zero =>
    intro listed a w m hl hc hlz hf I
    refine done 0 listed a w m hl hlz hf I (fun i hi _ => ?_)
    cases hx : listed.getD i false
    · have := left_pos (listed := listed) hi (by rw [getD_tf (by omega)]; exact hx)
      omega
    · rfl
  | succ fuel ih =>
    intro listed a w m hl hc hlz hf I
    by_cases hall : ∀ i, i < ops.size → (!(z i) || listed.getD i false) = true
    · exact done (fuel + 1) listed a w m hl hlz hf I (fun i hi hz => by have := hall i hi; simpa [hz] using this)
    · obtain ⟨k, hkn, hku, hkl⟩ := least_false ops.size (fun i => !(z i) || listed.getD i false) hall
      simp only [Bool.or_eq_false_iff, Bool.not_eq_false'] at hku
      obtain ⟨hkz, hku⟩ := hku
      have hkr : k ∈ Region.ready .any ops listed := progress D hkn (by rw [getD_tf (by omega)]; exact hku) (fun j hj hz => by
        have := hkl j hj
        simpa [hz hkz] using this)
      -- one quiet operation, ready
      have main : ∀ i, i ∈ Region.ready .any ops listed → z i = true → (∃ hi : i < ops.size, Go2 P ops (hS s.h ns z z i) ops[i] (tS ops s.t xs (fun i => listed.getD i false) ops.size) (xs i) (ns i) ∧
          ∀ (v : Value) (w' : World) (m' : Nat → Nat), Inv w0 m0 h0 av0 (({ s with t := tS ops s.t xs (fun i => listed.getD i false) ops.size, h := placeH (hS s.h ns z (fun i => listed.getD i false) ops.size) (hS s.h ns z z i).length (ns i) } : St).put ops[i].dst (xs i)) (a.put ops[i].dst v) w' m' →
            wpAny P .any ops Q fuel (listed.setIfInBounds i true) (a.put ops[i].dst v) w') := by
        intro i hr hzi
        obtain ⟨hi, hu⟩ := ready_lt hr
        have hu' : listed.getD i false = false := by rw [← getD_tf (by omega)]; exact hu
        have hget : ops[i]? = some ops[i] := Array.getElem?_eq_getElem hi
        have hwr : ∀ u, (u ∈ ops[i].looksAt ops ∨ ops[i].dst = some u) → ∀ j, j < ops.size → dstOf ops j = some u → (listed.getD j false = true ↔ j < i ∧ z j = true) := by
          intro u hmem j hj hd
          by_cases e : j = i
          · subst e; simp [hu']
          · by_cases hzj : z j = true
            · have hgj : ops[j]? = some ops[j] := Array.getElem?_eq_getElem hj
              have hcl : clash ops j i = true := by
                have hd' : ops[j].dst = some u := by simpa [dstOf, hgj] using hd
                unfold clash
                simp only [hgj, hget, hd']
                rcases hmem with h | h
                · simp [h]
                · simp [h]
              obtain ⟨c1, c2⟩ := D.cl i j hi hj hzi hzj e hcl
              rcases Nat.lt_or_ge j i with h | h
              · exact ⟨fun _ => ⟨h, hzj⟩, fun _ => ready_B D hc hr (c1 h)⟩
              · refine ⟨fun hx => ?_, fun hx => by omega⟩
                have := hc j i hx (c2 (by omega))
                rw [hu'] at this
                cases this
            · exact ⟨fun hx => absurd (hlz j hx) hzj, fun hx => absurd hx.2 hzj⟩
        have hat : ∀ u, (u ∈ ops[i].looksAt ops ∨ ops[i].dst = some u) → (tS ops s.t xs z i).getD u .undef = (tS ops s.t xs (fun i => listed.getD i false) ops.size).getD u .undef :=
          fun u hmem => (getD_tS_at ops s.t xs _ z u i ops.size (by omega) (hwr u hmem)).symm
        have hgo1 := hgo i _ hi hzi hget
        refine ⟨hi, ?_, ?_⟩
        · unfold Go2 at hgo1 ⊢
          refine gdA_congr (fun g b hg => ?_) (fun h => gop_congr (fun x hx => ev_congr fun u hxu => hat u (.inl (mem_looksAt_operand (hxu ▸ hx)))) h) hgo1
          unfold gv
          cases hd : (ops[g]?).bind (·.dst) with
          | none => rfl
          | some d => exact hat d (.inl (mem_looksAt_guard hg hd))
        · intro v w' m' I'
          have hst : ({ s with t := tS ops s.t xs (fun i => listed.getD i false) ops.size, h := placeH (hS s.h ns z (fun i => listed.getD i false) ops.size) (hS s.h ns z z i).length (ns i) } : St).put ops[i].dst (xs i) =
              { s with t := tS ops s.t xs (fun j => (listed.setIfInBounds i true).getD j false) ops.size, h := hS s.h ns z (fun j => (listed.setIfInBounds i true).getD j false) ops.size } := by
            rw [put_eq]
            congr 1
            · refine list_ext_getD (by rw [length_setd, length_tS, length_tS]) (fun u hu2 => ?_)
              rw [length_setd, length_tS] at hu2
              rw [getD_setd _ _ _ _ (by rw [length_tS]; exact hu2)]
              have hdi : dstOf ops i = ops[i].dst := by simp [dstOf, hget]
              by_cases hd : ops[i].dst = some u
              · rw [if_pos hd]
                rw [getD_tS_at ops s.t xs _ z u (i + 1) ops.size (by omega) (fun j hj hdj => ?_)]
                · simp only [tS, hzi, if_true]
                  rw [getD_setd _ _ _ _ (by rw [length_tS]; exact hu2), hdi, if_pos hd]
                · rw [getD_set_if (by omega)]
                  by_cases e : i = j
                  · subst e; simp [hzi]
                  · rw [if_neg e, hwr u (.inr hd) j hj hdj]
                    constructor <;> rintro ⟨h, h'⟩ <;> exact ⟨by omega, h'⟩
              · rw [if_neg hd]
                refine getD_tS ops s.t xs _ _ u hu2 ops.size (fun j hj hdj => ?_)
                rw [getD_set_if (by omega), if_neg]
                rintro rfl
                rw [hdi] at hdj
                exact hd hdj
            · refine hS_place s.h ns z _ _ hi hzi hu' ?_ (fun j hj => ?_)
              · rw [getD_set_if (by omega), if_pos rfl]
              · rw [getD_set_if (by omega), if_neg (Ne.symm hj)]
          rw [hst] at I'
          refine ih _ _ w' m' (by simpa using hl) (fun i' j hl' hB => ?_) (fun j hj => ?_) (by have := left_set hi hl hu; omega) I'
          · rw [getD_set_if (by omega)] at hl' ⊢
            by_cases e : i = j
            · rw [if_pos e]
            · rw [if_neg e]
              by_cases e' : i = i'
              · subst e'
                exact ready_B D hc hr hB
              · rw [if_neg e'] at hl'
                exact hc i' j hl' hB
          · rw [getD_set_if (by omega)] at hj
            by_cases e : i = j
            · subst e; exact hzi
            · rw [if_neg e] at hj
              exact hlz j hj
      by_cases ht : tk k = true
      · -- the operation goes first
        obtain ⟨hi, hg, next⟩ := main k hkr hkz
        have hget : ops[k]? = some ops[k] := Array.getElem?_eq_getElem hi
        obtain ⟨hto, hap⟩ := D.take k _ hget ht
        have hyn : ∃ v, Yields P ops ops[k] v a ∧ RV w m (hS s.h ns z (fun i => listed.getD i false) ops.size) (avm av0 m (hS s.h ns z (fun i => listed.getD i false) ops.size)) true v (xs k) ∧ ns k = [] := by
          unfold Go2 at hg
          rcases gdA_ok I hg with ⟨hw, hg⟩ | ⟨hw, hg⟩
          rotate_left
          · exact ⟨Go.undef, .inr ⟨hw, rfl⟩, by rw [hg.1]; exact .skip, hg.2⟩
          unfold pureOp at hto
          unfold pureK at hto
          split at hto
          · rename_i T u f hop
            rw [hop] at hg
            obtain ⟨v, y, ⟨rfl, h2⟩, h3, h4⟩ := take_ok (P := P) (I.ev (.tmp u)) (K := fun y => y = xs k ∧ [] = ns k) hg
            refine ⟨v, .inl ⟨hw, fun w' => ?_⟩, h3, h2.symm⟩
            have := h4 w'
            generalize ops[k] = o at *
            obtain ⟨dst, op, ty, pos, after, guard⟩ := o
            subst hop
            simp [execOp, this]
          · rename_i T u1 u2 hop
            rw [hop] at hg
            obtain ⟨kd, n, e1, _, hg⟩ := at_int (I.ev (.tmp u2)) (K := fun _ n => indexAddrV P T (ev _ (.tmp u1)) n fun y => y = xs k ∧ [] = ns k) hg
            obtain ⟨v, y, ⟨rfl, h2⟩, h3, h4⟩ := takeI_ok (P := P) (t := T) (I.ev (.tmp u1)) e1 hg
            refine ⟨v, .inl ⟨hw, fun w' => ?_⟩, h3, h2.symm⟩
            have := h4 w'
            generalize ops[k] = o at *
            obtain ⟨dst, op, ty, pos, after, guard⟩ := o
            subst hop
            simp [execOp, this]
          · rename_i u hop
            rw [hop] at hg
            obtain ⟨e1, h2⟩ : ev (tS ops s.t xs (fun i => listed.getD i false) ops.size) (.tmp u) = xs k ∧ [] = ns k := hg
            refine ⟨a.eval (.tmp u), .inl ⟨hw, fun w' => ?_⟩, ?_, h2.symm⟩
            · generalize ops[k] = o at *
              obtain ⟨dst, op, ty, pos, after, guard⟩ := o
              subst hop
              simp [execOp]
            · have := I.ev (.tmp u)
              rw [e1] at this
              exact this
          · rename_i u x1 x2 hop
            rw [hop] at hg
            obtain ⟨b, e1, _, e2, h2⟩ := at_bool (I.ev (.tmp u)) (K := fun b => (if b then ev (tS ops s.t xs (fun i => listed.getD i false) ops.size) x1 else ev (tS ops s.t xs (fun i => listed.getD i false) ops.size) x2) = xs k ∧ [] = ns k) hg
            refine ⟨if b then a.eval x1 else a.eval x2, .inl ⟨hw, fun w' => ?_⟩, ?_, h2.symm⟩
            · generalize ops[k] = o at *
              obtain ⟨dst, op, ty, pos, after, guard⟩ := o
              subst hop
              cases b <;> simp [execOp, e1, asBool]
            · rw [← e2]
              cases b
              · exact I.ev x2
              · exact I.ev x1
          · rename_i bop T x1 x2 t' hop
            rw [hop] at hg
            obtain ⟨z, ⟨e1, h2⟩, hl, h4⟩ := bin_all (P := P) (t := T) (K := fun y => y = xs k ∧ [] = ns k) (I.ev x1) (I.ev x2) hg
            refine ⟨litV z, .inl ⟨hw, fun w' => ?_⟩, by rw [← e1]; exact lit_rv hl, h2.symm⟩
            have := h4 w' x1 x2
            generalize ops[k] = o at *
            obtain ⟨dst, op, ty, pos, after, guard⟩ := o
            subst hop
            simp only [execOp]
            rw [Sem.run_bind, this]
            rfl
          · rename_i u j hop
            rw [hop] at hg
            change atTup (ev (tS ops s.t xs (fun i => listed.getD i false) ops.size) (.tmp u)) j (fun y => y = xs k ∧ [] = ns k) at hg
            have hx := I.ev (.tmp u)
            generalize hue : a.eval (.tmp u) = uv at hx
            dsimp only at hx
            generalize ev (tS ops s.t xs (fun i => listed.getD i false) ops.size) (.tmp u) = xv at hx hg
            cases hx with
            | tup ar vs ha hra =>
              unfold atTup at hg
              dsimp only at hg
              split at hg
              · rename_i v hv
                have hlt : j < vs.length := (List.getElem?_eq_some_iff.1 hv).1
                have hr := hra j hlt
                rw [(List.getElem?_eq_some_iff.1 hv).2] at hr
                have hlt' : j < ar.size := by omega
                refine ⟨ar.getD j Go.undef, .inl ⟨hw, fun w' => ?_⟩, by rw [← hg.1]; exact hr, hg.2.symm⟩
                generalize ops[k] = o at *
                obtain ⟨dst, op, ty, pos, after, guard⟩ := o
                subst hop
                simp [execOp, hue, Instr.extract, Array.getD, hlt']
              · exact hg.elim
            | _ => exact hg.elim
          · rename_i T x hop
            rw [hop] at hg
            obtain ⟨b, e1, _, e2, h2⟩ := at_bool (I.ev x) (K := fun b => V.bool (!b) = xs k ∧ [] = ns k) hg
            refine ⟨.bool (!b), .inl ⟨hw, fun w' => ?_⟩, by rw [← e2]; exact .bool _, h2.symm⟩
            generalize ops[k] = o at *
            obtain ⟨dst, op, ty, pos, after, guard⟩ := o
            subst hop
            simp [execOp, Op.unary, e1]
          · rename_i u hop
            rw [hop] at hg
            have hnil : nilV (ev (tS ops s.t xs (fun i => listed.getD i false) ops.size) (.tmp u)) (fun y => y = xs k ∧ [] = ns k) := hg
            have hx := I.ev (.tmp u)
            refine ⟨a.eval (.tmp u), .inl ⟨hw, fun w' => ?_⟩, ?_, ?_⟩
            · generalize ops[k] = o at *
              obtain ⟨dst, op, ty, pos, after, guard⟩ := o
              subst hop
              dsimp only at hx
              generalize hue : a.eval (.tmp u) = uv at hx
              generalize ev (tS ops s.t xs (fun i => listed.getD i false) ops.size) (.tmp u) = xv at hx hnil
              cases hx with
              | ptr id off cs hid => simp [execOp, hue]
              | pt b off cs vals ha hv hr => simp [execOp, hue]
              | fn f a1 c1 a' c' ha hc hra hrc =>
                cases f with
                | func f => simp [execOp, hue]
                | _ => exact False.elim hnil
              | _ => exact False.elim hnil
            · have he : ev (tS ops s.t xs (fun i => listed.getD i false) ops.size) (.tmp u) = xs k := by
                unfold nilV at hnil
                split at hnil <;> first | (rename_i hh; rw [hh]; exact hnil.1) | exact hnil.1 | exact hnil.elim
              dsimp only at hx
              rw [he] at hx
              exact hx
            · unfold nilV at hnil
              split at hnil <;> first | exact hnil.2.symm | exact hnil.elim
          · cases hto
        obtain ⟨v, hy, hrv, hn⟩ := hyn
        refine wpAny_first hget D.sel (fun c a' w' h => hQp c _ _ w' h) fuel listed a w (fun j oj hj hne hun hno => hap j oj hj hne (fun hB => ?_) hno) hkr hy (next v w m ?_)
        · have := ready_B D hc hkr hB
          rw [getD_tf (by rw [hl]; exact (Array.getElem?_eq_some_iff.1 hj).1), this] at hun
          cases hun
        · rw [hn]
          exact I.put hrv
      · refine ⟨(fun hr => by rw [hr] at hkr; cases hkr), fun i hr => ?_⟩
        obtain ⟨hi, hu⟩ := ready_lt hr
        have hzi : z i = true := by
          cases hx : z i
          · exfalso
            rcases D.mix i k hi hkn hx hkz with h | h | h
            · have := ready_B D hc hr h
              rw [hku] at this
              cases this
            · exact ht h
            · cases h
          · rfl
        obtain ⟨_, hg, next⟩ := main i hr hzi
        have hu' : listed.getD i false = false := by rw [← getD_tf (by omega)]; exact hu
        unfold wpOp
        simp only [Array.getElem?_eq_getElem hi]
        unfold Go2 at hg
        rcases gdA_ok I hg with ⟨h1, h2⟩ | ⟨h1, h2⟩
        · rw [if_pos h1]
          refine .inl (gop_ok I (fun id cs cs' g1 g2 => hS_same s.h ns z _ (Nat.le_of_lt hi) id cs cs' g1 g2) (Nat.le_trans hlen (hS_le s.h ns z z i)) (fun j hj => hS_none s.h ns z _ hi hzi hu' j hj) h2 (fun v w' m' I' => next v w' m' I'))
        · rw [if_neg (by simp [h1])]
          refine next _ w m ?_
          rw [h2.1, h2.2]
          exact I.put .skip

/-- A region whose order is drawn. -/
theorem draw_region (hm : P.follows .mixedOrders = true) (hd : drawOk ops = true) {Q : Exit → Act → World → Prop} {K : St → Prop} (hk : ∀ s' a' w' m', K s' → Inv w0 m0 h0 av0 s' a' w' m' → Q .normal a' w')
    {s : St} {a : Act} {w : World} {m : Nat → Nat} (I : Inv w0 m0 h0 av0 s a w m) (hq : dopsG P ops ops.toList 0 [] s K) {id : Nat} : (Code.region id ops true).wp P Q a w := by
  have D := drawOk_some hd
  obtain ⟨xs, ns, _, h1, _, h2⟩ := dops_path hq ops.size (Nat.le_refl _)
  rw [List.drop_of_length_le (by simp)] at h2
  refine wp_mono (Q := fun e a w => e = .normal ∧ Q .normal a w) ?_ (fun e a w h => by rw [h.1]; exact h.2)
  refine wp_region_any hm ?_
  have hz : ∀ i, (Array.replicate ops.size false).getD i false = false := fun i => by simp [Array.getD]
  refine phase1 D (fun c a a' w h => by cases h.1) (fun s' a' w' m' g1 g2 => ⟨rfl, hk s' a' w' m' g1 g2⟩) I.len (fun i o hi hzi ho => h1 i o hi hzi ho) h2 ops.size _ a _ m (by simp) (fun i j hl => by rw [hz] at hl; cases hl) (fun i hl => by rw [hz] at hl; cases hl) ?_ ?_
  · unfold left
    exact Nat.le_trans (List.length_filter_le _ _) (by simp)
  · have e : tS ops s.t xs (fun i => (Array.replicate ops.size false).getD i false) ops.size = s.t := by
      rw [tS_congr ops s.t xs _ (fun _ => false) ops.size (fun i _ => hz i)]
      have : ∀ q, tS ops s.t xs (fun _ => false) q = s.t := by
        intro q
        induction q with
        | zero => rfl
        | succ q ih => simpa [tS] using ih
      exact this _
    rw [e, hS_congr s.h ns (zOf ops) (S' := fun _ => false) ops.size (fun i _ _ => hz i)]
    obtain ⟨k, hk'⟩ := hS_start s.h ns (zOf ops) ops.size
    rw [hk']
    exact (I.world (Ext.drew _ w)).pad k

end
end Go.Lv
