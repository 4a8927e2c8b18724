/-
  Blocks that are lent to a callee, kept or frozen. Conditions: none.
-/
import Derived.Test.YtfnlgojocgdmcaaDoorLvG
set_option linter.unusedSimpArgs false
set_option linter.unusedVariables false
namespace Go.Lv

def elemT : List Nat → Nat → Bool
  | [], _ => false
  | a :: l, t => decide (t = a) || elemT l t
def posOf : List Nat → Nat → Option Nat
  | [], _ => none
  | i :: l, id => if id = i then some 0 else (posOf l id).map (· + 1)

theorem posOf_some : ∀ {l : List Nat} {id p : Nat}, posOf l id = some p → l[p]? = some id
  | [], _, _, h => by simp [posOf] at h
  | i :: l, id, p, h => by
    unfold posOf at h
    split at h
    · rename_i e; simp at h; subst h; simp [e]
    · cases hp : posOf l id with
      | none => simp [hp] at h
      | some q => simp [hp] at h; subst h; simpa using posOf_some hp

theorem posOf_none : ∀ {l : List Nat} {id p : Nat}, posOf l id = none → l[p]? ≠ some id
  | [], _, _, _ => by simp
  | i :: l, id, p, h => by
    unfold posOf at h
    split at h
    · simp at h
    · rename_i e
      simp at h
      cases p with
      | zero => simpa using fun h => e h.symm
      | succ p => simpa using posOf_none h

theorem get_nodup : ∀ {l : List Nat} {p q id : Nat}, l.Nodup → l[p]? = some id → l[q]? = some id → p = q
  | [], _, _, _, _, h, _ => by simp at h
  | i :: l, p, q, id, hn, h1, h2 => by
    obtain ⟨h3, h4⟩ := List.nodup_cons.1 hn
    cases p with
    | zero => cases q with
      | zero => rfl
      | succ q =>
        simp at h1 h2; subst h1
        exact absurd (List.mem_of_getElem? h2) h3
    | succ p => cases q with
      | zero =>
        simp at h1 h2; subst h2
        exact absurd (List.mem_of_getElem? h1) h3
      | succ q => simp at h1 h2; rw [get_nodup h4 h1 h2]

theorem posOf_get {l : List Nat} {p id : Nat} (hn : l.Nodup) (h : l[p]? = some id) : posOf l id = some p := by
  cases hp : posOf l id with
  | none => exact absurd h (posOf_none hp)
  | some q => rw [get_nodup hn h (posOf_some hp)]

/-- A block that is frozen, as it reads; what it holds of the kept blocks is forgotten. -/
def frzR (sel : List Nat) (h : Hp) : Nat → Nat → R
  | 0, _ => .kill
  | d + 1, id => if (posOf sel id).isSome then .kill else match h[id]? with
    | some (some cs) => .frz (cs.map (ren (frzR sel h d) 2))
    | _ => .kill

def pickF (sel : List Nat) (h : Hp) (fz : Bool) (id : Nat) : R :=
  match posOf sel id with
  | some p => .to p
  | none => if fz then frzR sel h 2 id else .kill

def pickB (sel : List Nat) (h : Hp) (fz : Bool) (id : Nat) : Option (List V) :=
  match h[id]? with
  | some (some cs) => some (cs.map (ren (pickF sel h fz) 2))
  | _ => none
def pickH (sel : List Nat) (h : Hp) (fz : Bool) : Hp := sel.map (pickB sel h fz)
def pickM (sel : List Nat) (m : Nat → Nat) (p : Nat) : Nat := m (sel.getD p 0)

theorem pickM_get {sel : List Nat} {m : Nat → Nat} {p id : Nat} (h : sel[p]? = some id) : pickM sel m p = m id := by simp [pickM, List.getD, h]

theorem pickH_get {sel : List Nat} {h : Hp} {fz : Bool} {p : Nat} {cs : List V} (hp : (pickH sel h fz)[p]? = some (some cs)) :
    ∃ id c0, sel[p]? = some id ∧ h[id]? = some (some c0) ∧ cs = c0.map (ren (pickF sel h fz) 2) := by
  simp only [pickH, List.getElem?_map] at hp
  cases h1 : sel[p]? with
  | none => simp [h1] at hp
  | some id =>
    simp [h1, pickB] at hp
    split at hp
    · rename_i c0 h2; simp at hp; exact ⟨id, c0, rfl, h2, hp.symm⟩
    · cases hp

theorem pickH_of {sel : List Nat} {h : Hp} {fz : Bool} {p id : Nat} {c0 : List V} (h1 : sel[p]? = some id) (h2 : h[id]? = some (some c0)) :
    (pickH sel h fz)[p]? = some (some (c0.map (ren (pickF sel h fz) 2))) := by
  simp [pickH, h1, pickB, h2]

section
variable {w : World} {m : Nat → Nat} {h : Hp} {av av' : Nat → Prop} {sel : List Nat}

theorem frz_ren (H : RH w m h av) (hro : ∀ b, ¬ av b → ¬ av' b) (hfz : ∀ id cs, h[id]? = some (some cs) → posOf sel id = none → ¬ av' (m id)) (d : Nat) : Ren w w m m h [] av av' (frzR sel h d) := by
  induction d with
  | zero => exact ⟨fun _ _ _ hb hc => ⟨hro _ hb, hc⟩, fun _ _ _ _ hf => by simp [frzR] at hf, fun _ _ _ _ hf => by simp [frzR] at hf⟩
  | succ d ih =>
    refine ⟨fun _ _ _ hb hc => ⟨hro _ hb, hc⟩, fun id cs j hid hf => ?_, fun id cs cs' hid hf hn => ?_⟩
    · unfold frzR at hf
      split at hf
      · cases hf
      · simp [hid] at hf
    · unfold frzR at hf
      split at hf
      · cases hf
      · rename_i hp
        simp [hid] at hf; subst hf
        refine ⟨by simp, hfz id cs hid (by simpa using hp), fun i hi => ?_⟩
        obtain ⟨v, hv, hr⟩ := H.cell ⟨hid, hn⟩ (i := i) (by simpa using hi)
        refine ⟨v, hv, ?_⟩
        rw [getD_map hi]
        exact (hr.ren ih 2).nilH

theorem pick_ren (H : RH w m h av) {fz : Bool} (hro : ∀ b, ¬ av b → ¬ av' b) (hfz : fz = true → ∀ id cs, h[id]? = some (some cs) → posOf sel id = none → ¬ av' (m id)) :
    Ren w w m (pickM sel m) h (pickH sel h fz) av av' (pickF sel h fz) := by
  refine ⟨fun _ _ _ hb hc => ⟨hro _ hb, hc⟩, fun id cs j hid hf => ?_, fun id cs cs' hid hf hn => ?_⟩
  · unfold pickF at hf
    split at hf
    · rename_i p hp
      simp at hf; subst hf
      have := posOf_some hp
      exact ⟨_, pickH_of this hid, by simp, pickM_get this, Nat.le_refl _, isMb_ren _ _ _⟩
    · split at hf
      · unfold frzR at hf
        split at hf
        · cases hf
        · simp [hid] at hf
      · cases hf
  · unfold pickF at hf
    split at hf
    · cases hf
    · split at hf
      · rename_i hf1 hfz1
        have hR := frz_ren (sel := sel) H hro (hfz hfz1) 1
        have h2 : frzR sel h 2 id = .frz (cs.map (ren (frzR sel h 1) 2)) := by
          have : (posOf sel id).isSome = false := by simp [hf1]
          simp [frzR, hid, this]
        rw [h2] at hf
        simp at hf; subst hf
        refine ⟨by simp, hfz hfz1 id cs hid hf1, fun i hi => ?_⟩
        obtain ⟨v, hv, hr⟩ := H.cell ⟨hid, hn⟩ (i := i) (by simpa using hi)
        refine ⟨v, hv, ?_⟩
        rw [getD_map hi]
        exact ((hr.ren hR 2).nilH).free
      · cases hf

/-- The kept blocks under new numbers, the others frozen. -/
theorem pick_core {m0 : Nat → Nat} {h0 : Hp} {av0 : Nat → Prop} {n : Nat} (H : RH w m h (avm av0 m h)) (hI : Ids n m0 m h0 h) (hlt : ∀ b, av0 b → b < n) (hn : sel.Nodup) (hk : ∀ j, j < h0.length → sel[j]? = some j) :
    RH w (pickM sel m) (pickH sel h true) (avm av0 (pickM sel m) (pickH sel h true)) ∧ Ids n m0 (pickM sel m) h0 (pickH sel h true) ∧
    ∀ d v x, RV w m h (avm av0 m h) true v x → RV w (pickM sel m) (pickH sel h true) (avm av0 (pickM sel m) (pickH sel h true)) true v (ren (pickF sel h true) d x) := by
  have hown : ∀ b, own (pickM sel m) (pickH sel h true) b → own m h b := by
    rintro b ⟨p, c, h1, rfl⟩
    obtain ⟨id, c0, h2, h3, _⟩ := pickH_get h1
    exact ⟨id, c0, h3, (pickM_get h2).symm⟩
  have hro : ∀ b, ¬ avm av0 m h b → ¬ avm av0 (pickM sel m) (pickH sel h true) b := fun b hb h => hb (h.imp (fun x => x) (hown b))
  have hfz : ∀ id cs, h[id]? = some (some cs) → posOf sel id = none → ¬ avm av0 (pickM sel m) (pickH sel h true) (m id) := by
    intro id cs hid hp hav
    rcases hav with hav | ⟨p, c, h1, h2⟩
    · rcases hI id cs hid with ⟨h1, _⟩ | ⟨_, h1⟩
      · exact posOf_none hp (hk id h1)
      · have := hlt _ hav; omega
    · obtain ⟨id', c0, h3, h4, _⟩ := pickH_get h1
      rw [pickM_get h3] at h2
      have := H.inj id' id c0 cs h4 hid h2
      subst this
      exact posOf_none hp h3
  have hR := pick_ren (sel := sel) H (fz := true) hro (fun _ => hfz)
  refine ⟨⟨fun i j ci cj h1 h2 he => ?_, fun p c h1 => .inr ⟨p, c, h1, rfl⟩, fun p c h1 => ?_⟩, fun p c h1 => ?_, fun d v x hx => hx.ren hR d⟩
  · obtain ⟨i', c0, h3, h4, _⟩ := pickH_get h1
    obtain ⟨j', c1, h5, h6, _⟩ := pickH_get h2
    rw [pickM_get h3, pickM_get h5] at he
    have := H.inj i' j' c0 c1 h4 h6 he
    subst this
    exact get_nodup hn h3 h5
  · obtain ⟨id, c0, h2, h3, rfl⟩ := pickH_get h1
    rw [pickM_get h2]
    exact (H.blk id c0 h3).map rfl (ren_mb _ 2) (fun v x hx => hx.ren hR 2)
  · obtain ⟨id, c0, h2, h3, rfl⟩ := pickH_get h1
    rw [pickM_get h2, List.length_map]
    rcases hI id c0 h3 with ⟨h4, h5⟩ | ⟨h4, h5⟩
    · have := get_nodup hn h2 (hk id h4)
      subst this
      exact .inl ⟨h4, h5⟩
    · refine .inr ⟨?_, h5⟩
      rcases Nat.lt_or_ge p h0.length with hp | hp
      · have := hk p hp
        rw [h2] at this; simp at this
        omega
      · exact hp
end

def putB : Hp → List Nat → Hp → Hp
  | h, id :: sel, b :: bs => putB (h.set id b) sel bs
  | h, _, _ => h

theorem putB_length : ∀ (sel : List Nat) (h bs : Hp), (putB h sel bs).length = h.length
  | [], h, bs => by cases bs <;> rfl
  | id :: sel, h, [] => rfl
  | id :: sel, h, b :: bs => by
    show (putB (h.set id b) sel bs).length = _
    rw [putB_length sel]; simp

theorem putB_other : ∀ (sel : List Nat) (h bs : Hp) (j : Nat), j ∉ sel → (putB h sel bs)[j]? = h[j]?
  | [], h, bs, j, _ => by cases bs <;> rfl
  | id :: sel, h, [], j, _ => rfl
  | id :: sel, h, b :: bs, j, hj => by
    show (putB (h.set id b) sel bs)[j]? = _
    simp at hj
    rw [putB_other sel _ _ j hj.2, List.getElem?_set_ne (Ne.symm hj.1)]

theorem putB_get : ∀ (sel : List Nat) (h bs : Hp) (p j : Nat) (b : Option (List V)), sel.Nodup → sel[p]? = some j → bs[p]? = some b → j < h.length → (putB h sel bs)[j]? = some b
  | [], h, bs, p, j, b, _, h1, _, _ => by simp at h1
  | id :: sel, h, [], p, j, b, _, _, h2, _ => by simp at h2
  | id :: sel, h, b' :: bs, p, j, b, hn, h1, h2, hlt => by
    obtain ⟨h3, h4⟩ := List.nodup_cons.1 hn
    show (putB (h.set id b') sel bs)[j]? = _
    cases p with
    | zero =>
      simp at h1 h2; subst h1 h2
      rw [putB_other sel _ _ _ h3, List.getElem?_set_self hlt]
    | succ p => exact putB_get sel _ bs p j b h4 (by simpa using h1) (by simpa using h2) (by simpa using hlt)

/-- The blocks that were lent are as long as they were. -/
def grown : Hp → Hp → Prop
  | [], _ => True
  | some a :: l, some b :: l' => (a.length = b.length ∧ isMb b = isMb a) ∧ grown l l'
  | _, _ => False

theorem grown_get : ∀ {l l' : Hp}, grown l l' → ∀ p, p < l.length → ∃ a b, l[p]? = some (some a) ∧ l'[p]? = some (some b) ∧ a.length = b.length ∧ isMb b = isMb a
  | [], _, _, p, hp => by simp at hp
  | some a :: l, some b :: l', h, p, hp => by
    cases p with
    | zero => exact ⟨a, b, rfl, rfl, h.1.1, h.1.2⟩
    | succ p => simpa using grown_get h.2 p (by simpa using hp)
  | some a :: l, [], h, _, _ => h.elim
  | some a :: l, none :: _, h, _, _ => h.elim
  | none :: l, [], h, _, _ => h.elim
  | none :: l, _ :: _, h, _, _ => h.elim

def backF (sel : List Nat) (n : Nat) (p : Nat) : R :=
  match sel[p]? with
  | some id => .to id
  | none => .to (n + p - sel.length)
def renB (f : Nat → R) (b : Option (List V)) : Option (List V) := b.map (List.map (ren f 2))

/-- The state behind a call that blocks were lent to. -/
def afterM (s : St) (dst : Option Tmp) (sel : List Nat) (r : V) (hout : Hp) : St :=
  ({ s with h := putB s.h sel ((hout.take sel.length).map (renB (backF sel s.h.length))) ++ (hout.drop sel.length).map (renB (backF sel s.h.length)) } : St).put dst (ren (backF sel s.h.length) 3 r)

/-- A call of a function by its contract, blocks lent to it. -/
def callM (P : Program) (s : St) (dst : Option Tmp) (fv : V) (args : List V) (K : St → Prop) : Prop :=
  match fv with
  | .fn (.func g) a c => ∃ (sel : List Nat) (fz : Bool) (as' : List V) (r : V) (hout : Hp), sel.Nodup ∧ LeL ((a ++ args ++ c).map (ren (pickF sel s.h fz) 3)) as' ∧ Ctr P g as' (pickH sel s.h fz) r hout ∧
      grown (pickH sel s.h fz) hout ∧ (fz = false ∨ NoRo r ∧ NoRoH hout) ∧ K (afterM s dst sel r hout)
  | _ => False

section
variable {P : Program} {w0 : World} {m0 : Nat → Nat} {h0 : Hp} {av0 : Nat → Prop} {s : St} {a : Act} {w : World} {m : Nat → Nat}

theorem callM_ok (I : Inv w0 m0 h0 av0 s a w m) {dst : Option Tmp} {fv : V} {u : Value} (hf : RV w m s.h (avm av0 m s.h) true u fv) {xs : Array Value} {xs' : List V} (hs : xs.size = xs'.length)
    (hx : ∀ i (hi : i < xs'.length), RV w m s.h (avm av0 m s.h) true (xs.getD i Go.undef) xs'[i]) {K : St → Prop} (hq : callM P s dst fv xs' K) :
    ∃ g first cap s', u = .func (.func g) first cap ∧ okF P g = true ∧ K s' ∧
      Calls P g (first ++ xs ++ cap) w fun e w' => ∃ v m', e = .returned v ∧ Inv w0 m0 h0 av0 s' (a.put dst v) w' m' := by
  cases hf with
  | fn f first cap a' c' ha hc hra hrc =>
    cases f with
    | func g =>
      obtain ⟨sel, fz, as', r, hout, hnd, hle, hspec, hgr, hro, hk⟩ := hq
      obtain ⟨hokf, hspec⟩ := hspec
      obtain ⟨hlen, hget⟩ := hle.get
      have h1 := rows_append ha hs hra hx
      have h2 := rows_append h1.1 hc h1.2 hrc
      refine ⟨g, first, cap, _, rfl, hokf, hk, ?_⟩
      have hsz : (first ++ xs ++ cap).size = as'.length := by rw [h2.1, ← hlen]; simp
      have H := I.rh
      have hplen : (pickH sel s.h fz).length = sel.length := by simp [pickH]
      have hsel : ∀ (p id : Nat), sel[p]? = some id → ∃ c0, s.h[id]? = some (some c0) := by
        intro p id hp
        have hlt : p < (pickH sel s.h fz).length := by rw [hplen]; exact (List.getElem?_eq_some_iff.1 hp).1
        obtain ⟨x, y, h3, _⟩ := grown_get hgr p hlt
        obtain ⟨id', c0, h4, h5, _⟩ := pickH_get h3
        rw [hp] at h4; simp at h4; subst h4
        exact ⟨c0, h5⟩
      have hownL : ∀ b, own (pickM sel m) (pickH sel s.h fz) b → own m s.h b := by
        rintro b ⟨p, c, h1, rfl⟩
        obtain ⟨id, c0, h2, h3, _⟩ := pickH_get h1
        exact ⟨id, c0, h3, (pickM_get h2).symm⟩
      have hnl : ∀ (id : Nat) (c : List V), s.h[id]? = some (some c) → id ∉ sel → ¬ own (pickM sel m) (pickH sel s.h fz) (m id) := by
        rintro id c hid hns ⟨p, c', h1, h2⟩
        obtain ⟨id', c0, h3, h4, _⟩ := pickH_get h1
        rw [pickM_get h3] at h2
        have := H.inj id' id c0 c h4 hid h2
        subst this
        exact hns (List.mem_of_getElem? h3)
      -- the common part: what the callee sees
      have main : ∀ avL : Nat → Prop, Ren w w m (pickM sel m) s.h (pickH sel s.h fz) (avm av0 m s.h) avL (pickF sel s.h fz) → (∀ b, own (pickM sel m) (pickH sel s.h fz) b → avL b) → (∀ b, avL b → avm av0 m s.h b) →
          ((∀ b, avm av0 m s.h b → avL b) ∨ NoRo r ∧ NoRoH hout) →
          Calls P g (first ++ xs ++ cap) w fun e w' => ∃ v m', e = .returned v ∧ Inv w0 m0 h0 av0 (afterM s dst sel r hout) (a.put dst v) w' m' := by
        intro avL hR hL1 hL2 hL3
        have hRH : RH w (pickM sel m) (pickH sel s.h fz) avL := by
          refine ⟨fun i j ci cj h1 h2 he => ?_, fun p c h1 => hL1 _ ⟨p, c, h1, rfl⟩, fun p c h1 => ?_⟩
          · obtain ⟨i', c0, h3, h4, _⟩ := pickH_get h1
            obtain ⟨j', c1, h5, h6, _⟩ := pickH_get h2
            rw [pickM_get h3, pickM_get h5] at he
            have := H.inj i' j' c0 c1 h4 h6 he
            subst this
            exact get_nodup hnd h3 h5
          · obtain ⟨id, c0, h2, h3, rfl⟩ := pickH_get h1
            rw [pickM_get h2]
            exact (H.blk id c0 h3).map rfl (ren_mb _ 2) (fun v x hx => hx.ren hR 2)
        have hargs : ∀ i (hi : i < as'.length), RV w (pickM sel m) (pickH sel s.h fz) avL true ((first ++ xs ++ cap).getD i Go.undef) as'[i] := by
          intro i hi
          have hi2 : i < (a' ++ xs' ++ c').length := by have := hi; rw [← hlen] at this; simpa using this
          have hle := hget i (by simpa using hi2) hi
          rw [getD_map (f := ren (pickF sel s.h fz) 3) (l := a' ++ xs' ++ c') (by simpa using hi2)] at hle
          exact ((h2.2 i hi2).ren hR 3).le hle
        refine (hspec w (first ++ xs ++ cap) (pickM sel m) avL hRH (fun b hb => I.avlt (hL2 b hb)) (I.glw.mono hL2) hsz hargs).mono ?_
        rintro e w' ⟨v, m1, rfl, hE, hH, hV, hI⟩
        -- what is avoided by the values that come back
        obtain ⟨avX, hX1, hXblk, hXres⟩ : ∃ avX : Nat → Prop, (∀ b, avm av0 m s.h b ∨ own m1 hout b → avX b) ∧
            (∀ id cs, hout[id]? = some (some cs) → BlkOk w' m1 hout avX (m1 id) cs) ∧ RV w' m1 hout avX true v r := by
          rcases hL3 with hL3 | ⟨hn1, hn2⟩
          · exact ⟨avm avL m1 hout, fun b hb => hb.imp (hL3 b) (fun h => h), hH.blk, hV⟩
          · refine ⟨fun _ => True, fun b _ => trivial, fun id cs hid => ?_, hn1 _ _ _ _ _ hV⟩
            rcases hH.blk id cs hid with ⟨C, T, fr, h3, hfr, h4, h5⟩ | h3
            · exact .inl ⟨C, T, fr, h3, hfr, h4, fun i hi => hn2 id cs hid _ (List.getElem_mem _) _ _ _ _ _ (h5 i hi)⟩
            · exact .inr h3
        have hm1 : ∀ (p : Nat) (c : List V), hout[p]? = some (some c) → (∃ id, sel[p]? = some id ∧ m1 p = m id) ∨ (sel.length ≤ p ∧ w.heap.size ≤ m1 p) := by
          intro p c hp
          rcases hI p c hp with ⟨h3, c0, h5, h6, h4⟩ | ⟨h3, h4⟩
          · obtain ⟨x, y, g1, g2, g3, _⟩ := grown_get hgr p h3
            rw [h5] at g1; simp at g1; subst g1
            rw [hp] at g2; simp at g2; subst g2
            have h4 := h4.resolve_right (fun h => by omega)
            rw [hplen] at h3
            exact .inl ⟨sel[p], by simp [h3], by rw [h4]; exact pickM_get (by simp [h3])⟩
          · rw [hplen] at h3
            exact .inr ⟨h3, h4⟩
        let n := s.h.length
        let f := backF sel n
        let h2 : Hp := putB s.h sel ((hout.take sel.length).map (renB f)) ++ (hout.drop sel.length).map (renB f)
        let m2 : Nat → Nat := fun id => if id < n then m id else m1 (id - n + sel.length)
        have hm2o : ∀ (id : Nat) (c : List V), s.h[id]? = some (some c) → m2 id = m id := fun id c hid => if_pos (id_lt hid)
        have hm2n : ∀ p, sel.length ≤ p → m2 (n + p - sel.length) = m1 p := fun p hp => by
          show (if n + p - sel.length < n then _ else m1 (n + p - sel.length - n + sel.length)) = _
          rw [if_neg (by omega)]; congr 1; omega
        have hpl : (putB s.h sel ((hout.take sel.length).map (renB f))).length = n := putB_length _ _ _
        have hlent : ∀ (p id : Nat), sel[p]? = some id → ∃ c c0, hout[p]? = some (some c) ∧ s.h[id]? = some (some c0) ∧ c0.length = c.length ∧ h2[id]? = some (some (c.map (ren f 2))) ∧ isMb c = isMb c0 := by
          intro p id hp
          have hlt : p < sel.length := (List.getElem?_eq_some_iff.1 hp).1
          obtain ⟨x, y, h3, h4, h5, hmb⟩ := grown_get hgr p (by rw [hplen]; exact hlt)
          obtain ⟨id', c0, h6, h7, rfl⟩ := pickH_get h3
          rw [hp] at h6; simp at h6; subst h6
          refine ⟨y, c0, h4, h7, by simpa using h5, ?_, by rw [hmb, isMb_ren]⟩
          show (putB s.h sel _ ++ _)[id]? = _
          rw [List.getElem?_append_left (by rw [hpl]; exact id_lt h7)]
          refine putB_get sel s.h _ p id _ hnd hp ?_ (id_lt h7)
          simp [List.getElem?_take_of_lt hlt, h4, renB]
        have hother : ∀ id : Nat, id < n → id ∉ sel → h2[id]? = s.h[id]? := by
          intro id hid hns
          show (putB s.h sel _ ++ _)[id]? = _
          rw [List.getElem?_append_left (by rw [hpl]; exact hid), putB_other sel _ _ _ hns]
        have hnew : ∀ (p : Nat) (c : List V), sel.length ≤ p → hout[p]? = some (some c) → h2[n + p - sel.length]? = some (some (c.map (ren f 2))) := by
          intro p c hp h3
          show (putB s.h sel _ ++ _)[n + p - sel.length]? = _
          rw [List.getElem?_append_right (by rw [hpl]; omega), hpl]
          have : sel.length + (n + p - sel.length - n) = p := by omega
          simp [this, h3, renB]
        have hcase : ∀ (j : Nat) (c : List V), h2[j]? = some (some c) → (j ∉ sel ∧ s.h[j]? = some (some c)) ∨ (∃ p c1, sel[p]? = some j ∧ hout[p]? = some (some c1) ∧ c = c1.map (ren f 2) ∧ m2 j = m1 p) ∨
            (∃ p c1, sel.length ≤ p ∧ j = n + p - sel.length ∧ hout[p]? = some (some c1) ∧ c = c1.map (ren f 2) ∧ m2 j = m1 p ∧ w.heap.size ≤ m1 p) := by
          intro j c hj
          by_cases hlt : j < n
          · by_cases hs : j ∈ sel
            · obtain ⟨p, hp⟩ := List.getElem?_of_mem hs
              obtain ⟨c1, c0, h3, h4, _, h5, _⟩ := hlent p j hp
              rw [h5] at hj; simp at hj
              refine .inr (.inl ⟨p, c1, hp, h3, hj.symm, ?_⟩)
              rcases hm1 p c1 h3 with ⟨id, h6, h7⟩ | ⟨h6, _⟩
              · rw [hp] at h6; simp at h6; subst h6
                rw [h7]; exact hm2o _ _ h4
              · have := (List.getElem?_eq_some_iff.1 hp).1; omega
            · rw [hother j hlt hs] at hj
              exact .inl ⟨hs, hj⟩
          · have hj' := hj
            change (putB s.h sel _ ++ _)[j]? = _ at hj'
            rw [List.getElem?_append_right (by rw [hpl]; omega), hpl] at hj'
            simp only [List.getElem?_map, List.getElem?_drop] at hj'
            cases h3 : hout[sel.length + (j - n)]? with
            | none => simp [h3] at hj'
            | some b =>
              cases b with
              | none => simp [h3, renB] at hj'
              | some c1 =>
                simp [h3, renB] at hj'
                have hp : sel.length ≤ sel.length + (j - n) := by omega
                have e : j = n + (sel.length + (j - n)) - sel.length := by omega
                refine .inr (.inr ⟨sel.length + (j - n), c1, hp, e, h3, hj'.symm, ?_, ?_⟩)
                · have := hm2n _ hp; rw [← e] at this; exact this
                · rcases hm1 _ c1 h3 with ⟨id, h6, _⟩ | ⟨_, h6⟩
                  · have := (List.getElem?_eq_some_iff.1 h6).1; omega
                  · exact h6
        have hown2 : ∀ b, own m2 h2 b → own m s.h b ∨ own m1 hout b := by
          rintro b ⟨j, c, h3, rfl⟩
          rcases hcase j c h3 with ⟨_, h4⟩ | ⟨p, c1, h4, h5, _, h6⟩ | ⟨p, c1, _, _, h5, _, h6, _⟩
          · exact .inl ⟨j, c, h4, (hm2o j c h4).symm⟩
          · exact .inr ⟨p, c1, h5, h6.symm⟩
          · exact .inr ⟨p, c1, h5, h6.symm⟩
        have hown1 : ∀ b, own m1 hout b → b < w.heap.size → own m s.h b := by
          rintro b ⟨p, c, h3, rfl⟩ hb
          rcases hm1 p c h3 with ⟨id, h4, h5⟩ | ⟨_, h5⟩
          · obtain ⟨c0, h6⟩ := hsel p id h4
            exact ⟨id, c0, h6, h5.symm⟩
          · omega
        have hrow : ∀ k, k < w.heap.size → rowSize w k ≤ rowSize w' k := fun k hk => hE.row k hk
        have hstep : ∀ {o : Bool} {v : Value} {x : V}, RV w m s.h (avm av0 m s.h) o v x → RV w' m2 h2 (avm av0 m2 h2) o v x :=
          fun hx => hx.step (fun b off v hb hc => ⟨fun h => by
              rcases h with h | h
              · exact hb (.inl h)
              · rcases hown2 b h with h3 | h3
                · exact hb (.inr h3)
                · exact hb (.inr (hown1 b h3 (World.block_lt_of_cell? w _ hc))), hE.cell hc (fun h => hb (.inr (hownL b h)))⟩)
            (fun id c hid => by
              have hrw := hrow _ (H.lt hid)
              by_cases hs : id ∈ sel
              · obtain ⟨p, hp⟩ := List.getElem?_of_mem hs
                obtain ⟨c1, c0, h3, h4, h5, h6, h7⟩ := hlent p id hp
                rw [hid] at h4; simp at h4; subst h4
                exact ⟨_, h6, by simp [h5], hm2o id _ hid, hrw, by rw [isMb_ren, h7]⟩
              · exact ⟨c, by rw [hother id (id_lt hid) hs]; exact hid, Nat.le_refl _, hm2o id c hid, hrw, rfl⟩)
        have hR2 : Ren w' w' m1 m2 hout h2 avX (avm av0 m2 h2) f := by
          refine ⟨fun b off v hb hc => ⟨fun h => hb (hX1 b ?_), hc⟩, fun p c j hp hf => ?_, fun p c c' hp hf => ?_⟩
          · rcases h with h | h
            · exact .inl (.inl h)
            · rcases hown2 b h with h3 | h3
              · exact .inl (.inr h3)
              · exact .inr h3
          · rcases hm1 p c hp with ⟨id, h3, h4⟩ | ⟨h3, h4⟩
            · have : f p = .to id := by show backF sel n p = _; simp [backF, h3]
              rw [this] at hf; simp at hf; subst hf
              obtain ⟨c1, c0, h5, h6, h7, h8, h9⟩ := hlent p id h3
              rw [hp] at h5; simp at h5; subst h5
              exact ⟨_, h8, by simp, by rw [hm2o id c0 h6, h4], Nat.le_refl _, isMb_ren _ _ _⟩
            · have h5 : sel[p]? = none := List.getElem?_eq_none h3
              have : f p = .to (n + p - sel.length) := by show backF sel n p = _; simp [backF, h5]
              rw [this] at hf; simp at hf; subst hf
              exact ⟨_, hnew p c h3 hp, by simp, hm2n p h3, Nat.le_refl _, isMb_ren _ _ _⟩
          · have : f p = .frz c' := hf
            change backF sel n p = _ at this
            unfold backF at this
            split at this <;> cases this
        refine ⟨v, m2, rfl, ?_⟩
        have J : Inv w0 m0 h0 av0 { s with h := h2 } a w' m2 := by
          refine ⟨⟨?_, fun j c h3 => .inr ⟨j, c, h3, rfl⟩, ?_⟩, I.size, fun i hi => hstep (I.slots i hi), I.defers, I.ext.trans' hE ?_, ?_, I.lt, I.lent, I.gl, I.k, ?_⟩
          · -- the blocks are apart
            have key : ∀ (j : Nat) (c : List V), h2[j]? = some (some c) → (∃ c0, s.h[j]? = some (some c0) ∧ m2 j = m j) ∨ ∃ p c1, sel.length ≤ p ∧ j = n + p - sel.length ∧ hout[p]? = some (some c1) ∧ m2 j = m1 p ∧ w.heap.size ≤ m1 p := by
              intro j c hj
              rcases hcase j c hj with ⟨_, h4⟩ | ⟨p, c1, h4, h5, _, h6⟩ | ⟨p, c1, h3, h4, h5, _, h6, h7⟩
              · exact .inl ⟨c, h4, hm2o j c h4⟩
              · obtain ⟨c0, h7⟩ := hsel p j h4
                exact .inl ⟨c0, h7, hm2o j c0 h7⟩
              · exact .inr ⟨p, c1, h3, h4, h5, h6, h7⟩
            intro i j ci cj hi hj he
            rcases key i ci hi with ⟨c1, h3, h4⟩ | ⟨p, c1, h3, h4, h5, h6, h7⟩ <;> rcases key j cj hj with ⟨d1, g3, g4⟩ | ⟨q, d1, g3, g4, g5, g6, g7⟩
            · rw [h4, g4] at he
              exact H.inj i j c1 d1 h3 g3 he
            · rw [h4, g6] at he
              have := H.lt h3; omega
            · rw [h6, g4] at he
              have := H.lt g3; omega
            · rw [h6, g6] at he
              have := hH.inj p q c1 d1 h5 g5 he
              omega
          · intro j c hj
            rcases hcase j c hj with ⟨h3, h4⟩ | ⟨p, c1, h4, h5, rfl, h6⟩ | ⟨p, c1, h3, h4, h5, rfl, h6, h7⟩
            · rw [hm2o j c h4]
              exact (H.blk j c h4).step (hE.block _ (H.lt h4) (hnl j c h4 h3)) (fun v x => hstep)
            · rw [h6]
              exact (hXblk p c1 h5).map rfl (ren_mb _ 2) (fun v x hx => hx.ren hR2 2)
            · rw [h6]
              exact (hXblk p c1 h5).map rfl (ren_mb _ 2) (fun v x hx => hx.ren hR2 2)
          · intro b hb ho
            obtain ⟨id, c, h3, h4⟩ := hownL b ho
            rcases I.ids id c h3 with ⟨h5, c0, h7, _, h6 | ⟨_, h6⟩⟩ | ⟨h5, h6⟩
            · exact ⟨id, c0, h7, by rw [← h6]; exact h4⟩
            · omega
            · omega
          · intro j c hj
            rcases hcase j c hj with ⟨h3, h4⟩ | ⟨p, c1, h4, h5, rfl, h6⟩ | ⟨p, c1, h3, h4, h5, rfl, h6, h7⟩
            · rw [hm2o j c h4]; exact I.ids j c h4
            · obtain ⟨c2, c0, g1, h7, g2, _, _⟩ := hlent p j h4
              rw [h5] at g1; simp at g1; subst g1
              rw [hm2o j c0 h7, List.length_map, ← g2]; exact I.ids j c0 h7
            · rw [h6]
              exact .inr ⟨by have := I.len; omega, Nat.le_trans I.ext.size h7⟩
          · show h0.length ≤ h2.length
            have : n ≤ h2.length := by
              show n ≤ (putB s.h sel _ ++ _).length
              rw [List.length_append, hpl]; omega
            exact Nat.le_trans I.len this
        exact J.put (hXres.ren hR2 3)
      cases fz with
      | false =>
        exact main (avm av0 m s.h) (pick_ren H (fun b hb => hb) (fun h => by cases h)) (fun b hb => .inr (hownL b hb)) (fun b hb => hb) (.inl fun b hb => hb)
      | true =>
        have hn := hro.resolve_left (by simp)
        refine main (own (pickM sel m) (pickH sel s.h true)) (pick_ren H (fun b hb h => hb (.inr (hownL b h))) (fun _ id cs hid hp => ?_)) (fun b hb => hb) (fun b hb => .inr (hownL b hb)) (.inr hn)
        refine hnl id cs hid (fun hm => ?_)
        obtain ⟨p, hp'⟩ := List.getElem?_of_mem hm
        exact posOf_none hp hp'
    | _ => exact False.elim hq
  | _ => exact False.elim hq
end

/-- A contract that tells of the result only that it is one of some. -/
def CtrP (P : Program) (f : FuncId) (args : List V) (hin : Hp) (Φ : V → Hp → Prop) : Prop :=
  okF P f = true ∧ ∀ (w : World) (vs : Array Value) (m : Nat → Nat) (av : Nat → Prop),
    RH w m hin av → (∀ b, av b → b < w.heap.size) → GL w av → vs.size = args.length → (∀ i (hi : i < args.length), RV w m hin av true (vs.getD i Go.undef) args[i]) →
    Calls P f vs w fun e w' => ∃ v m' r hout, Φ r hout ∧ e = .returned v ∧ Ext (own m hin) w w' ∧ RH w' m' hout (avm av m' hout) ∧ RV w' m' hout (avm av m' hout) true v r ∧ Ids w.heap.size m m' hin hout

theorem Ctr.rel {P : Program} {f : FuncId} {args : List V} {hin : Hp} {r : V} {hout : Hp} (h : Ctr P f args hin r hout) {Φ : V → Hp → Prop} (hφ : Φ r hout) : CtrP P f args hin Φ :=
  ⟨h.1, fun w vs m av h1 h2 h3 h4 h5 => (h.2 w vs m av h1 h2 h3 h4 h5).mono fun e w' ⟨v, m', g1, g2, g3, g4, g5⟩ => ⟨v, m', r, hout, hφ, g1, g2, g3, g4, g5⟩⟩
theorem CtrP.mono {P : Program} {f : FuncId} {args : List V} {hin : Hp} {Φ Ψ : V → Hp → Prop} (h : CtrP P f args hin Φ) (hm : ∀ r hout, Φ r hout → Ψ r hout) : CtrP P f args hin Ψ :=
  ⟨h.1, fun w vs m av h1 h2 h3 h4 h5 => (h.2 w vs m av h1 h2 h3 h4 h5).mono fun e w' ⟨v, m', r, hout, g0, g1, g2, g3, g4, g5⟩ => ⟨v, m', r, hout, hm r hout g0, g1, g2, g3, g4, g5⟩⟩

/-- A call by such a contract; the blocks of sel are lent. -/
def callR (P : Program) (s : St) (dst : Option Tmp) (fv : V) (args : List V) (K : St → Prop) : Prop :=
  match fv with
  | .fn (.func g) a c => ∃ (sel : List Nat) (as' : List V) (Φ : V → Hp → Prop), sel.Nodup ∧ LeL ((a ++ args ++ c).map (ren (pickF sel s.h false) 3)) as' ∧ CtrP P g as' (pickH sel s.h false) Φ ∧
      (pickH sel s.h false).all Option.isSome = true ∧ ∀ r hout, Φ r hout → grown (pickH sel s.h false) hout ∧ K (afterM s dst sel r hout)
  | _ => False

section
variable {P : Program} {w0 : World} {m0 : Nat → Nat} {h0 : Hp} {av0 : Nat → Prop} {s : St} {a : Act} {w : World} {m : Nat → Nat}

theorem callR_ok (I : Inv w0 m0 h0 av0 s a w m) {dst : Option Tmp} {fv : V} {u : Value} (hf : RV w m s.h (avm av0 m s.h) true u fv) {xs : Array Value} {xs' : List V} (hs : xs.size = xs'.length)
    (hx : ∀ i (hi : i < xs'.length), RV w m s.h (avm av0 m s.h) true (xs.getD i Go.undef) xs'[i]) {K : St → Prop} (hq : callR P s dst fv xs' K) :
    ∃ g first cap, u = .func (.func g) first cap ∧ okF P g = true ∧
      Calls P g (first ++ xs ++ cap) w fun e w' => ∃ v m' s', e = .returned v ∧ K s' ∧ Inv w0 m0 h0 av0 s' (a.put dst v) w' m' := by
  cases hf with
  | fn f first cap a' c' ha hc hra hrc =>
    cases f with
    | func g =>
      obtain ⟨sel, as', Φ, hnd, hle, hspec, hall, hk⟩ := hq
      obtain ⟨hokf, hspec⟩ := hspec
      obtain ⟨hlen, hget⟩ := hle.get
      have h1 := rows_append ha hs hra hx
      have h2 := rows_append h1.1 hc h1.2 hrc
      refine ⟨g, first, cap, rfl, hokf, ?_⟩
      have hsz : (first ++ xs ++ cap).size = as'.length := by rw [h2.1, ← hlen]; simp
      have H := I.rh
      have hplen : (pickH sel s.h false).length = sel.length := by simp [pickH]
      have hsel : ∀ (p id : Nat), sel[p]? = some id → ∃ c0, s.h[id]? = some (some c0) := by
        intro p id hp
        have hlt : p < (pickH sel s.h false).length := by rw [hplen]; exact (List.getElem?_eq_some_iff.1 hp).1
        have h8 := List.all_eq_true.1 hall _ (List.getElem_mem hlt)
        obtain ⟨x, h9⟩ := Option.isSome_iff_exists.1 h8
        have h3 : (pickH sel s.h false)[p]? = some (some x) := by rw [List.getElem?_eq_getElem hlt, h9]
        obtain ⟨id', c0, h4, h5, _⟩ := pickH_get h3
        rw [hp] at h4; simp at h4; subst h4
        exact ⟨c0, h5⟩
      have hownL : ∀ b, own (pickM sel m) (pickH sel s.h false) b → own m s.h b := by
        rintro b ⟨p, c, h1, rfl⟩
        obtain ⟨id, c0, h2, h3, _⟩ := pickH_get h1
        exact ⟨id, c0, h3, (pickM_get h2).symm⟩
      have hnl : ∀ (id : Nat) (c : List V), s.h[id]? = some (some c) → id ∉ sel → ¬ own (pickM sel m) (pickH sel s.h false) (m id) := by
        rintro id c hid hns ⟨p, c', h1, h2⟩
        obtain ⟨id', c0, h3, h4, _⟩ := pickH_get h1
        rw [pickM_get h3] at h2
        have := H.inj id' id c0 c h4 hid h2
        subst this
        exact hns (List.mem_of_getElem? h3)
      -- the common part: what the callee sees
      have main : ∀ avL : Nat → Prop, Ren w w m (pickM sel m) s.h (pickH sel s.h false) (avm av0 m s.h) avL (pickF sel s.h false) → (∀ b, own (pickM sel m) (pickH sel s.h false) b → avL b) → (∀ b, avL b → avm av0 m s.h b) →
          (∀ b, avm av0 m s.h b → avL b) →
          Calls P g (first ++ xs ++ cap) w fun e w' => ∃ v m' s', e = .returned v ∧ K s' ∧ Inv w0 m0 h0 av0 s' (a.put dst v) w' m' := by
        intro avL hR hL1 hL2 hL3
        have hRH : RH w (pickM sel m) (pickH sel s.h false) avL := by
          refine ⟨fun i j ci cj h1 h2 he => ?_, fun p c h1 => hL1 _ ⟨p, c, h1, rfl⟩, fun p c h1 => ?_⟩
          · obtain ⟨i', c0, h3, h4, _⟩ := pickH_get h1
            obtain ⟨j', c1, h5, h6, _⟩ := pickH_get h2
            rw [pickM_get h3, pickM_get h5] at he
            have := H.inj i' j' c0 c1 h4 h6 he
            subst this
            exact get_nodup hnd h3 h5
          · obtain ⟨id, c0, h2, h3, rfl⟩ := pickH_get h1
            rw [pickM_get h2]
            exact (H.blk id c0 h3).map rfl (ren_mb _ 2) (fun v x hx => hx.ren hR 2)
        have hargs : ∀ i (hi : i < as'.length), RV w (pickM sel m) (pickH sel s.h false) avL true ((first ++ xs ++ cap).getD i Go.undef) as'[i] := by
          intro i hi
          have hi2 : i < (a' ++ xs' ++ c').length := by have := hi; rw [← hlen] at this; simpa using this
          have hle := hget i (by simpa using hi2) hi
          rw [getD_map (f := ren (pickF sel s.h false) 3) (l := a' ++ xs' ++ c') (by simpa using hi2)] at hle
          exact ((h2.2 i hi2).ren hR 3).le hle
        refine (hspec w (first ++ xs ++ cap) (pickM sel m) avL hRH (fun b hb => I.avlt (hL2 b hb)) (I.glw.mono hL2) hsz hargs).mono ?_
        rintro e w' ⟨v, m1, r, hout, hφ, rfl, hE, hH, hV, hI⟩
        obtain ⟨hgr, hk⟩ := hk r hout hφ
        -- what is avoided by the values that come back
        obtain ⟨avX, hX1, hXblk, hXres⟩ : ∃ avX : Nat → Prop, (∀ b, avm av0 m s.h b ∨ own m1 hout b → avX b) ∧
            (∀ id cs, hout[id]? = some (some cs) → BlkOk w' m1 hout avX (m1 id) cs) ∧ RV w' m1 hout avX true v r := by
          exact ⟨avm avL m1 hout, fun b hb => hb.imp (hL3 b) (fun h => h), hH.blk, hV⟩
        have hm1 : ∀ (p : Nat) (c : List V), hout[p]? = some (some c) → (∃ id, sel[p]? = some id ∧ m1 p = m id) ∨ (sel.length ≤ p ∧ w.heap.size ≤ m1 p) := by
          intro p c hp
          rcases hI p c hp with ⟨h3, c0, h5, h6, h4⟩ | ⟨h3, h4⟩
          · obtain ⟨x, y, g1, g2, g3, _⟩ := grown_get hgr p h3
            rw [h5] at g1; simp at g1; subst g1
            rw [hp] at g2; simp at g2; subst g2
            have h4 := h4.resolve_right (fun h => by omega)
            rw [hplen] at h3
            exact .inl ⟨sel[p], by simp [h3], by rw [h4]; exact pickM_get (by simp [h3])⟩
          · rw [hplen] at h3
            exact .inr ⟨h3, h4⟩
        let n := s.h.length
        let f := backF sel n
        let h2 : Hp := putB s.h sel ((hout.take sel.length).map (renB f)) ++ (hout.drop sel.length).map (renB f)
        let m2 : Nat → Nat := fun id => if id < n then m id else m1 (id - n + sel.length)
        have hm2o : ∀ (id : Nat) (c : List V), s.h[id]? = some (some c) → m2 id = m id := fun id c hid => if_pos (id_lt hid)
        have hm2n : ∀ p, sel.length ≤ p → m2 (n + p - sel.length) = m1 p := fun p hp => by
          show (if n + p - sel.length < n then _ else m1 (n + p - sel.length - n + sel.length)) = _
          rw [if_neg (by omega)]; congr 1; omega
        have hpl : (putB s.h sel ((hout.take sel.length).map (renB f))).length = n := putB_length _ _ _
        have hlent : ∀ (p id : Nat), sel[p]? = some id → ∃ c c0, hout[p]? = some (some c) ∧ s.h[id]? = some (some c0) ∧ c0.length = c.length ∧ h2[id]? = some (some (c.map (ren f 2))) ∧ isMb c = isMb c0 := by
          intro p id hp
          have hlt : p < sel.length := (List.getElem?_eq_some_iff.1 hp).1
          obtain ⟨x, y, h3, h4, h5, hmb⟩ := grown_get hgr p (by rw [hplen]; exact hlt)
          obtain ⟨id', c0, h6, h7, rfl⟩ := pickH_get h3
          rw [hp] at h6; simp at h6; subst h6
          refine ⟨y, c0, h4, h7, by simpa using h5, ?_, by rw [hmb, isMb_ren]⟩
          show (putB s.h sel _ ++ _)[id]? = _
          rw [List.getElem?_append_left (by rw [hpl]; exact id_lt h7)]
          refine putB_get sel s.h _ p id _ hnd hp ?_ (id_lt h7)
          simp [List.getElem?_take_of_lt hlt, h4, renB]
        have hother : ∀ id : Nat, id < n → id ∉ sel → h2[id]? = s.h[id]? := by
          intro id hid hns
          show (putB s.h sel _ ++ _)[id]? = _
          rw [List.getElem?_append_left (by rw [hpl]; exact hid), putB_other sel _ _ _ hns]
        have hnew : ∀ (p : Nat) (c : List V), sel.length ≤ p → hout[p]? = some (some c) → h2[n + p - sel.length]? = some (some (c.map (ren f 2))) := by
          intro p c hp h3
          show (putB s.h sel _ ++ _)[n + p - sel.length]? = _
          rw [List.getElem?_append_right (by rw [hpl]; omega), hpl]
          have : sel.length + (n + p - sel.length - n) = p := by omega
          simp [this, h3, renB]
        have hcase : ∀ (j : Nat) (c : List V), h2[j]? = some (some c) → (j ∉ sel ∧ s.h[j]? = some (some c)) ∨ (∃ p c1, sel[p]? = some j ∧ hout[p]? = some (some c1) ∧ c = c1.map (ren f 2) ∧ m2 j = m1 p) ∨
            (∃ p c1, sel.length ≤ p ∧ j = n + p - sel.length ∧ hout[p]? = some (some c1) ∧ c = c1.map (ren f 2) ∧ m2 j = m1 p ∧ w.heap.size ≤ m1 p) := by
          intro j c hj
          by_cases hlt : j < n
          · by_cases hs : j ∈ sel
            · obtain ⟨p, hp⟩ := List.getElem?_of_mem hs
              obtain ⟨c1, c0, h3, h4, _, h5, _⟩ := hlent p j hp
              rw [h5] at hj; simp at hj
              refine .inr (.inl ⟨p, c1, hp, h3, hj.symm, ?_⟩)
              rcases hm1 p c1 h3 with ⟨id, h6, h7⟩ | ⟨h6, _⟩
              · rw [hp] at h6; simp at h6; subst h6
                rw [h7]; exact hm2o _ _ h4
              · have := (List.getElem?_eq_some_iff.1 hp).1; omega
            · rw [hother j hlt hs] at hj
              exact .inl ⟨hs, hj⟩
          · have hj' := hj
            change (putB s.h sel _ ++ _)[j]? = _ at hj'
            rw [List.getElem?_append_right (by rw [hpl]; omega), hpl] at hj'
            simp only [List.getElem?_map, List.getElem?_drop] at hj'
            cases h3 : hout[sel.length + (j - n)]? with
            | none => simp [h3] at hj'
            | some b =>
              cases b with
              | none => simp [h3, renB] at hj'
              | some c1 =>
                simp [h3, renB] at hj'
                have hp : sel.length ≤ sel.length + (j - n) := by omega
                have e : j = n + (sel.length + (j - n)) - sel.length := by omega
                refine .inr (.inr ⟨sel.length + (j - n), c1, hp, e, h3, hj'.symm, ?_, ?_⟩)
                · have := hm2n _ hp; rw [← e] at this; exact this
                · rcases hm1 _ c1 h3 with ⟨id, h6, _⟩ | ⟨_, h6⟩
                  · have := (List.getElem?_eq_some_iff.1 h6).1; omega
                  · exact h6
        have hown2 : ∀ b, own m2 h2 b → own m s.h b ∨ own m1 hout b := by
          rintro b ⟨j, c, h3, rfl⟩
          rcases hcase j c h3 with ⟨_, h4⟩ | ⟨p, c1, h4, h5, _, h6⟩ | ⟨p, c1, _, _, h5, _, h6, _⟩
          · exact .inl ⟨j, c, h4, (hm2o j c h4).symm⟩
          · exact .inr ⟨p, c1, h5, h6.symm⟩
          · exact .inr ⟨p, c1, h5, h6.symm⟩
        have hown1 : ∀ b, own m1 hout b → b < w.heap.size → own m s.h b := by
          rintro b ⟨p, c, h3, rfl⟩ hb
          rcases hm1 p c h3 with ⟨id, h4, h5⟩ | ⟨_, h5⟩
          · obtain ⟨c0, h6⟩ := hsel p id h4
            exact ⟨id, c0, h6, h5.symm⟩
          · omega
        have hrow : ∀ k, k < w.heap.size → rowSize w k ≤ rowSize w' k := fun k hk => hE.row k hk
        have hstep : ∀ {o : Bool} {v : Value} {x : V}, RV w m s.h (avm av0 m s.h) o v x → RV w' m2 h2 (avm av0 m2 h2) o v x :=
          fun hx => hx.step (fun b off v hb hc => ⟨fun h => by
              rcases h with h | h
              · exact hb (.inl h)
              · rcases hown2 b h with h3 | h3
                · exact hb (.inr h3)
                · exact hb (.inr (hown1 b h3 (World.block_lt_of_cell? w _ hc))), hE.cell hc (fun h => hb (.inr (hownL b h)))⟩)
            (fun id c hid => by
              have hrw := hrow _ (H.lt hid)
              by_cases hs : id ∈ sel
              · obtain ⟨p, hp⟩ := List.getElem?_of_mem hs
                obtain ⟨c1, c0, h3, h4, h5, h6, h7⟩ := hlent p id hp
                rw [hid] at h4; simp at h4; subst h4
                exact ⟨_, h6, by simp [h5], hm2o id _ hid, hrw, by rw [isMb_ren, h7]⟩
              · exact ⟨c, by rw [hother id (id_lt hid) hs]; exact hid, Nat.le_refl _, hm2o id c hid, hrw, rfl⟩)
        have hR2 : Ren w' w' m1 m2 hout h2 avX (avm av0 m2 h2) f := by
          refine ⟨fun b off v hb hc => ⟨fun h => hb (hX1 b ?_), hc⟩, fun p c j hp hf => ?_, fun p c c' hp hf => ?_⟩
          · rcases h with h | h
            · exact .inl (.inl h)
            · rcases hown2 b h with h3 | h3
              · exact .inl (.inr h3)
              · exact .inr h3
          · rcases hm1 p c hp with ⟨id, h3, h4⟩ | ⟨h3, h4⟩
            · have : f p = .to id := by show backF sel n p = _; simp [backF, h3]
              rw [this] at hf; simp at hf; subst hf
              obtain ⟨c1, c0, h5, h6, h7, h8, h9⟩ := hlent p id h3
              rw [hp] at h5; simp at h5; subst h5
              exact ⟨_, h8, by simp, by rw [hm2o id c0 h6, h4], Nat.le_refl _, isMb_ren _ _ _⟩
            · have h5 : sel[p]? = none := List.getElem?_eq_none h3
              have : f p = .to (n + p - sel.length) := by show backF sel n p = _; simp [backF, h5]
              rw [this] at hf; simp at hf; subst hf
              exact ⟨_, hnew p c h3 hp, by simp, hm2n p h3, Nat.le_refl _, isMb_ren _ _ _⟩
          · have : f p = .frz c' := hf
            change backF sel n p = _ at this
            unfold backF at this
            split at this <;> cases this
        refine ⟨v, m2, _, rfl, hk, ?_⟩
        have J : Inv w0 m0 h0 av0 { s with h := h2 } a w' m2 := by
          refine ⟨⟨?_, fun j c h3 => .inr ⟨j, c, h3, rfl⟩, ?_⟩, I.size, fun i hi => hstep (I.slots i hi), I.defers, I.ext.trans' hE ?_, ?_, I.lt, I.lent, I.gl, I.k, ?_⟩
          · -- the blocks are apart
            have key : ∀ (j : Nat) (c : List V), h2[j]? = some (some c) → (∃ c0, s.h[j]? = some (some c0) ∧ m2 j = m j) ∨ ∃ p c1, sel.length ≤ p ∧ j = n + p - sel.length ∧ hout[p]? = some (some c1) ∧ m2 j = m1 p ∧ w.heap.size ≤ m1 p := by
              intro j c hj
              rcases hcase j c hj with ⟨_, h4⟩ | ⟨p, c1, h4, h5, _, h6⟩ | ⟨p, c1, h3, h4, h5, _, h6, h7⟩
              · exact .inl ⟨c, h4, hm2o j c h4⟩
              · obtain ⟨c0, h7⟩ := hsel p j h4
                exact .inl ⟨c0, h7, hm2o j c0 h7⟩
              · exact .inr ⟨p, c1, h3, h4, h5, h6, h7⟩
            intro i j ci cj hi hj he
            rcases key i ci hi with ⟨c1, h3, h4⟩ | ⟨p, c1, h3, h4, h5, h6, h7⟩ <;> rcases key j cj hj with ⟨d1, g3, g4⟩ | ⟨q, d1, g3, g4, g5, g6, g7⟩
            · rw [h4, g4] at he
              exact H.inj i j c1 d1 h3 g3 he
            · rw [h4, g6] at he
              have := H.lt h3; omega
            · rw [h6, g4] at he
              have := H.lt g3; omega
            · rw [h6, g6] at he
              have := hH.inj p q c1 d1 h5 g5 he
              omega
          · intro j c hj
            rcases hcase j c hj with ⟨h3, h4⟩ | ⟨p, c1, h4, h5, rfl, h6⟩ | ⟨p, c1, h3, h4, h5, rfl, h6, h7⟩
            · rw [hm2o j c h4]
              exact (H.blk j c h4).step (hE.block _ (H.lt h4) (hnl j c h4 h3)) (fun v x => hstep)
            · rw [h6]
              exact (hXblk p c1 h5).map rfl (ren_mb _ 2) (fun v x hx => hx.ren hR2 2)
            · rw [h6]
              exact (hXblk p c1 h5).map rfl (ren_mb _ 2) (fun v x hx => hx.ren hR2 2)
          · intro b hb ho
            obtain ⟨id, c, h3, h4⟩ := hownL b ho
            rcases I.ids id c h3 with ⟨h5, c0, h7, _, h6 | ⟨_, h6⟩⟩ | ⟨h5, h6⟩
            · exact ⟨id, c0, h7, by rw [← h6]; exact h4⟩
            · omega
            · omega
          · intro j c hj
            rcases hcase j c hj with ⟨h3, h4⟩ | ⟨p, c1, h4, h5, rfl, h6⟩ | ⟨p, c1, h3, h4, h5, rfl, h6, h7⟩
            · rw [hm2o j c h4]; exact I.ids j c h4
            · obtain ⟨c2, c0, g1, h7, g2, _, _⟩ := hlent p j h4
              rw [h5] at g1; simp at g1; subst g1
              rw [hm2o j c0 h7, List.length_map, ← g2]; exact I.ids j c0 h7
            · rw [h6]
              exact .inr ⟨by have := I.len; omega, Nat.le_trans I.ext.size h7⟩
          · show h0.length ≤ h2.length
            have : n ≤ h2.length := by
              show n ≤ (putB s.h sel _ ++ _).length
              rw [List.length_append, hpl]; omega
            exact Nat.le_trans I.len this
        exact J.put (hXres.ren hR2 3)
      exact main (avm av0 m s.h) (pick_ren H (fun b hb => hb) (fun h => by cases h)) (fun b hb => .inr (hownL b hb)) (fun b hb => hb) (fun b hb => hb)
    | _ => exact False.elim hq
  | _ => exact False.elim hq
end

/-- References to some blocks are forgotten. -/
def killsF (mv : List Nat) (j : Nat) : R := if elemT mv j then .kill else .to j
def killsL (mv : List Nat) (l : List V) : List V := l.map (ren (killsF mv) 3)
def killsB (mv : List Nat) (b : Option (List V)) : Option (List V) := b.map (List.map (ren (killsF mv) 2))
/-- The blocks that were lent are as long as they were, or may have moved. -/
def grownK (mv : List Nat) : List Nat → Hp → Hp → Prop
  | _, [], _ => True
  | id :: sel, some a :: l, some b :: l' => ((a.length = b.length ∨ (elemT mv id = true ∧ a.length ≤ b.length)) ∧ isMb b = isMb a) ∧ grownK mv sel l l'
  | _, _, _ => False
theorem grownK_get {mv : List Nat} : ∀ {sel : List Nat} {l l' : Hp}, grownK mv sel l l' → ∀ p id, p < l.length → sel[p]? = some id → ∃ a b, l[p]? = some (some a) ∧ l'[p]? = some (some b) ∧ (a.length = b.length ∨ (elemT mv id = true ∧ a.length ≤ b.length)) ∧ isMb b = isMb a
  | _, [], _, _, p, id, hp, _ => by simp at hp
  | i :: sel, some a :: l, some b :: l', h, p, id, hp, hs => by
    cases p with
    | zero =>
      simp at hs; subst hs
      exact ⟨a, b, rfl, rfl, h.1.1, h.1.2⟩
    | succ p => simpa using grownK_get h.2 p id (by simpa using hp) (by simpa using hs)
  | [], b :: _, l', h, _, _, _, _ => by cases b <;> simp [grownK] at h
  | _ :: _, none :: _, l', h, _, _, _, _ => by simp [grownK] at h
  | _ :: _, some _ :: _, [], h, _, _, _, _ => by simp [grownK] at h
  | _ :: _, some _ :: _, none :: _, h, _, _, _, _ => by simp [grownK] at h

/-- The state behind a call that blocks were lent to, some of which may have moved. -/
def afterK (s : St) (dst : Option Tmp) (mv sel : List Nat) (r : V) (hout : Hp) : St :=
  afterM { s with t := killsL mv s.t, h := s.h.map (killsB mv) } dst sel r hout

/-- A call of a function by its contract, blocks lent to it; some of them may move. -/
def callK (P : Program) (s : St) (dst : Option Tmp) (fv : V) (args : List V) (K : St → Prop) : Prop :=
  match fv with
  | .fn (.func g) a c => ∃ (mv sel : List Nat) (fz : Bool) (as' : List V) (r : V) (hout : Hp), sel.Nodup ∧ LeL ((a ++ args ++ c).map (ren (pickF sel s.h fz) 3)) as' ∧ Ctr P g as' (pickH sel s.h fz) r hout ∧
      grownK mv sel (pickH sel s.h fz) hout ∧ (fz = false ∨ NoRo r ∧ NoRoH hout) ∧ K (afterK s dst mv sel r hout)
  | _ => False

section
variable {P : Program} {w0 : World} {m0 : Nat → Nat} {h0 : Hp} {av0 : Nat → Prop} {s : St} {a : Act} {w : World} {m : Nat → Nat}

theorem callK_ok (I : Inv w0 m0 h0 av0 s a w m) {dst : Option Tmp} {fv : V} {u : Value} (hf : RV w m s.h (avm av0 m s.h) true u fv) {xs : Array Value} {xs' : List V} (hs : xs.size = xs'.length)
    (hx : ∀ i (hi : i < xs'.length), RV w m s.h (avm av0 m s.h) true (xs.getD i Go.undef) xs'[i]) {K : St → Prop} (hq : callK P s dst fv xs' K) :
    ∃ g first cap s', u = .func (.func g) first cap ∧ okF P g = true ∧ K s' ∧
      Calls P g (first ++ xs ++ cap) w fun e w' => ∃ v m', e = .returned v ∧ Inv w0 m0 h0 av0 s' (a.put dst v) w' m' := by
  cases hf with
  | fn f first cap a' c' ha hc hra hrc =>
    cases f with
    | func g =>
      obtain ⟨mv, sel, fz, as', r, hout, hnd, hle, hspec, hgr, hro, hk⟩ := hq
      obtain ⟨hokf, hspec⟩ := hspec
      obtain ⟨hlen, hget⟩ := hle.get
      have h1 := rows_append ha hs hra hx
      have h2 := rows_append h1.1 hc h1.2 hrc
      refine ⟨g, first, cap, _, rfl, hokf, hk, ?_⟩
      have hsz : (first ++ xs ++ cap).size = as'.length := by rw [h2.1, ← hlen]; simp
      have H := I.rh
      have hplen : (pickH sel s.h fz).length = sel.length := by simp [pickH]
      have hsel : ∀ (p id : Nat), sel[p]? = some id → ∃ c0, s.h[id]? = some (some c0) := by
        intro p id hp
        have hlt : p < (pickH sel s.h fz).length := by rw [hplen]; exact (List.getElem?_eq_some_iff.1 hp).1
        obtain ⟨x, y, h3, _⟩ := grownK_get hgr p id hlt hp
        obtain ⟨id', c0, h4, h5, _⟩ := pickH_get h3
        rw [hp] at h4; simp at h4; subst h4
        exact ⟨c0, h5⟩
      have hownL : ∀ b, own (pickM sel m) (pickH sel s.h fz) b → own m s.h b := by
        rintro b ⟨p, c, h1, rfl⟩
        obtain ⟨id, c0, h2, h3, _⟩ := pickH_get h1
        exact ⟨id, c0, h3, (pickM_get h2).symm⟩
      have hnl : ∀ (id : Nat) (c : List V), s.h[id]? = some (some c) → id ∉ sel → ¬ own (pickM sel m) (pickH sel s.h fz) (m id) := by
        rintro id c hid hns ⟨p, c', h1, h2⟩
        obtain ⟨id', c0, h3, h4, _⟩ := pickH_get h1
        rw [pickM_get h3] at h2
        have := H.inj id' id c0 c h4 hid h2
        subst this
        exact hns (List.mem_of_getElem? h3)
      -- the common part: what the callee sees
      have main : ∀ avL : Nat → Prop, Ren w w m (pickM sel m) s.h (pickH sel s.h fz) (avm av0 m s.h) avL (pickF sel s.h fz) → (∀ b, own (pickM sel m) (pickH sel s.h fz) b → avL b) → (∀ b, avL b → avm av0 m s.h b) →
          ((∀ b, avm av0 m s.h b → avL b) ∨ NoRo r ∧ NoRoH hout) →
          Calls P g (first ++ xs ++ cap) w fun e w' => ∃ v m', e = .returned v ∧ Inv w0 m0 h0 av0 (afterK s dst mv sel r hout) (a.put dst v) w' m' := by
        intro avL hR hL1 hL2 hL3
        have hRH : RH w (pickM sel m) (pickH sel s.h fz) avL := by
          refine ⟨fun i j ci cj h1 h2 he => ?_, fun p c h1 => hL1 _ ⟨p, c, h1, rfl⟩, fun p c h1 => ?_⟩
          · obtain ⟨i', c0, h3, h4, _⟩ := pickH_get h1
            obtain ⟨j', c1, h5, h6, _⟩ := pickH_get h2
            rw [pickM_get h3, pickM_get h5] at he
            have := H.inj i' j' c0 c1 h4 h6 he
            subst this
            exact get_nodup hnd h3 h5
          · obtain ⟨id, c0, h2, h3, rfl⟩ := pickH_get h1
            rw [pickM_get h2]
            exact (H.blk id c0 h3).map rfl (ren_mb _ 2) (fun v x hx => hx.ren hR 2)
        have hargs : ∀ i (hi : i < as'.length), RV w (pickM sel m) (pickH sel s.h fz) avL true ((first ++ xs ++ cap).getD i Go.undef) as'[i] := by
          intro i hi
          have hi2 : i < (a' ++ xs' ++ c').length := by have := hi; rw [← hlen] at this; simpa using this
          have hle := hget i (by simpa using hi2) hi
          rw [getD_map (f := ren (pickF sel s.h fz) 3) (l := a' ++ xs' ++ c') (by simpa using hi2)] at hle
          exact ((h2.2 i hi2).ren hR 3).le hle
        refine (hspec w (first ++ xs ++ cap) (pickM sel m) avL hRH (fun b hb => I.avlt (hL2 b hb)) (I.glw.mono hL2) hsz hargs).mono ?_
        rintro e w' ⟨v, m1, rfl, hE, hH, hV, hI⟩
        -- what is avoided by the values that come back
        obtain ⟨avX, hX1, hXblk, hXres⟩ : ∃ avX : Nat → Prop, (∀ b, avm av0 m s.h b ∨ own m1 hout b → avX b) ∧
            (∀ id cs, hout[id]? = some (some cs) → BlkOk w' m1 hout avX (m1 id) cs) ∧ RV w' m1 hout avX true v r := by
          rcases hL3 with hL3 | ⟨hn1, hn2⟩
          · exact ⟨avm avL m1 hout, fun b hb => hb.imp (hL3 b) (fun h => h), hH.blk, hV⟩
          · refine ⟨fun _ => True, fun b _ => trivial, fun id cs hid => ?_, hn1 _ _ _ _ _ hV⟩
            rcases hH.blk id cs hid with ⟨C, T, fr, h3, hfr, h4, h5⟩ | h3
            · exact .inl ⟨C, T, fr, h3, hfr, h4, fun i hi => hn2 id cs hid _ (List.getElem_mem _) _ _ _ _ _ (h5 i hi)⟩
            · exact .inr h3
        have hm1 : ∀ (p : Nat) (c : List V), hout[p]? = some (some c) → (∃ id c0, sel[p]? = some id ∧ s.h[id]? = some (some c0) ∧ c0.length ≤ c.length ∧ (m1 p = m id ∨ (c0.length < c.length ∧ w.heap.size ≤ m1 p))) ∨ (sel.length ≤ p ∧ w.heap.size ≤ m1 p) := by
          intro p c hp
          rcases hI p c hp with ⟨h3, cp, h5, h6, h4⟩ | ⟨h3, h4⟩
          · obtain ⟨id, c0, g1, g2, rfl⟩ := pickH_get h5
            rw [pickM_get g1] at h4
            rw [List.length_map] at h4 h6
            exact .inl ⟨id, c0, g1, g2, h6, h4⟩
          · rw [hplen] at h3
            exact .inr ⟨h3, h4⟩
        obtain ⟨hq, hqe⟩ : ∃ hq : Hp, hq = s.h.map (killsB mv) := ⟨_, rfl⟩
        have hql : hq.length = s.h.length := by rw [hqe, List.length_map]
        obtain ⟨n, hn⟩ : ∃ n, n = hq.length := ⟨_, rfl⟩
        have hns : n = s.h.length := hn.trans hql
        obtain ⟨f, hfe⟩ : ∃ f, f = backF sel n := ⟨_, rfl⟩
        have hqget : ∀ (id : Nat) (c : List V), hq[id]? = some (some c) → ∃ c0, s.h[id]? = some (some c0) ∧ c = c0.map (ren (killsF mv) 2) := by
          intro id c h
          rw [hqe, List.getElem?_map] at h
          cases h2 : s.h[id]? with
          | none => simp [h2] at h
          | some b =>
            cases b with
            | none => simp [h2, killsB] at h
            | some c0 => simp [h2, killsB] at h; exact ⟨c0, rfl, h.symm⟩
        have hqput : ∀ (id : Nat) (c : List V), s.h[id]? = some (some c) → hq[id]? = some (some (c.map (ren (killsF mv) 2))) := by
          intro id c h
          rw [hqe, List.getElem?_map, h]; rfl
        obtain ⟨h2, hh2⟩ : ∃ h2 : Hp, h2 = putB hq sel ((hout.take sel.length).map (renB f)) ++ (hout.drop sel.length).map (renB f) := ⟨_, rfl⟩
        obtain ⟨m2, hm2⟩ : ∃ m2 : Nat → Nat, m2 = fun id => if id < n then (match posOf sel id with | some p => m1 p | none => m id) else m1 (id - n + sel.length) := ⟨_, rfl⟩
        have hm2l : ∀ (p id : Nat), sel[p]? = some id → m2 id = m1 p := fun p id hp => by
          obtain ⟨c0, h5⟩ := hsel p id hp
          have := id_lt h5
          rw [hm2]
          simp only [posOf_get hnd hp]
          rw [if_pos (by omega)]
        have hm2o : ∀ (id : Nat) (c : List V), s.h[id]? = some (some c) → id ∉ sel → m2 id = m id := fun id c hid hns' => by
          have := id_lt hid
          have hp : posOf sel id = none := by
            cases hp : posOf sel id with
            | none => rfl
            | some p => exact absurd (List.mem_of_getElem? (posOf_some hp)) hns'
          rw [hm2]
          simp only [hp]
          rw [if_pos (by omega)]
        have hm2n : ∀ p, sel.length ≤ p → m2 (n + p - sel.length) = m1 p := fun p hp => by
          rw [hm2]
          simp only []
          rw [if_neg (by omega)]; congr 1; omega
        have hpl : (putB hq sel ((hout.take sel.length).map (renB f))).length = n := by rw [putB_length, hn]
        have hlent : ∀ (p id : Nat), sel[p]? = some id → ∃ c c0, hout[p]? = some (some c) ∧ s.h[id]? = some (some c0) ∧ (c0.length = c.length ∨ (elemT mv id = true ∧ c0.length ≤ c.length)) ∧ h2[id]? = some (some (c.map (ren f 2))) ∧ isMb c = isMb c0 := by
          intro p id hp
          have hlt : p < sel.length := (List.getElem?_eq_some_iff.1 hp).1
          obtain ⟨x, y, h3, h4, h5, hmb⟩ := grownK_get hgr p id (by rw [hplen]; exact hlt) hp
          obtain ⟨id', c0, h6, h7, rfl⟩ := pickH_get h3
          rw [hp] at h6; simp at h6; subst h6
          have := id_lt h7
          refine ⟨y, c0, h4, h7, by simpa using h5, ?_, by rw [hmb, isMb_ren]⟩
          rw [hh2, List.getElem?_append_left (by rw [hpl]; omega)]
          refine putB_get sel hq _ p id _ hnd hp ?_ (by omega)
          simp [List.getElem?_take_of_lt hlt, h4, renB]
        have hother : ∀ id : Nat, id < n → id ∉ sel → h2[id]? = hq[id]? := by
          intro id hid hns
          rw [hh2, List.getElem?_append_left (by rw [hpl]; exact hid), putB_other sel _ _ _ hns]
        have hnew : ∀ (p : Nat) (c : List V), sel.length ≤ p → hout[p]? = some (some c) → h2[n + p - sel.length]? = some (some (c.map (ren f 2))) := by
          intro p c hp h3
          rw [hh2, List.getElem?_append_right (by rw [hpl]; omega), hpl]
          have : sel.length + (n + p - sel.length - n) = p := by omega
          simp [this, h3, renB]
        have hcase : ∀ (j : Nat) (c : List V), h2[j]? = some (some c) → (j ∉ sel ∧ ∃ c0, s.h[j]? = some (some c0) ∧ c = c0.map (ren (killsF mv) 2)) ∨ (∃ p c1, sel[p]? = some j ∧ hout[p]? = some (some c1) ∧ c = c1.map (ren f 2) ∧ m2 j = m1 p) ∨
            (∃ p c1, sel.length ≤ p ∧ j = n + p - sel.length ∧ hout[p]? = some (some c1) ∧ c = c1.map (ren f 2) ∧ m2 j = m1 p ∧ w.heap.size ≤ m1 p) := by
          intro j c hj
          by_cases hlt : j < n
          · by_cases hs : j ∈ sel
            · obtain ⟨p, hp⟩ := List.getElem?_of_mem hs
              obtain ⟨c1, c0, h3, h4, _, h5, _⟩ := hlent p j hp
              rw [h5] at hj; simp at hj
              exact .inr (.inl ⟨p, c1, hp, h3, hj.symm, hm2l p j hp⟩)
            · rw [hother j hlt hs] at hj
              exact .inl ⟨hs, hqget j c hj⟩
          · have hj' := hj
            rw [hh2, List.getElem?_append_right (by rw [hpl]; omega), hpl] at hj'
            simp only [List.getElem?_map, List.getElem?_drop] at hj'
            cases h3 : hout[sel.length + (j - n)]? with
            | none => simp [h3] at hj'
            | some b =>
              cases b with
              | none => simp [h3, renB] at hj'
              | some c1 =>
                simp [h3, renB] at hj'
                have hp : sel.length ≤ sel.length + (j - n) := by omega
                have e : j = n + (sel.length + (j - n)) - sel.length := by omega
                refine .inr (.inr ⟨sel.length + (j - n), c1, hp, e, h3, hj'.symm, ?_, ?_⟩)
                · have := hm2n _ hp; rw [← e] at this; exact this
                · rcases hm1 _ c1 h3 with ⟨id, _, h6, _⟩ | ⟨_, h6⟩
                  · have := (List.getElem?_eq_some_iff.1 h6).1; omega
                  · exact h6
        have hown2 : ∀ b, own m2 h2 b → own m s.h b ∨ own m1 hout b := by
          rintro b ⟨j, c, h3, rfl⟩
          rcases hcase j c h3 with ⟨h4, c0, h5, _⟩ | ⟨p, c1, h4, h5, _, h6⟩ | ⟨p, c1, _, _, h5, _, h6, _⟩
          · exact .inl ⟨j, c0, h5, (hm2o j c0 h5 h4).symm⟩
          · exact .inr ⟨p, c1, h5, h6.symm⟩
          · exact .inr ⟨p, c1, h5, h6.symm⟩
        have hown1 : ∀ b, own m1 hout b → b < w.heap.size → own m s.h b := by
          rintro b ⟨p, c, h3, rfl⟩ hb
          rcases hm1 p c h3 with ⟨id, c0, _, h6, _, h5 | ⟨_, h5⟩⟩ | ⟨_, h5⟩
          · exact ⟨id, c0, h6, h5.symm⟩
          · omega
          · omega
        have hrow : ∀ k, k < w.heap.size → rowSize w k ≤ rowSize w' k := fun k hk => hE.row k hk
        have hRk : Ren w w' m m2 s.h h2 (avm av0 m s.h) (avm av0 m2 h2) (killsF mv) := by
          refine ⟨fun b off v hb hc => ⟨fun h => ?_, hE.cell hc (fun h => hb (.inr (hownL b h)))⟩, fun id c j hid hf => ?_, fun id c c' hid hf => ?_⟩
          · rcases h with h | h
            · exact hb (.inl h)
            · rcases hown2 b h with h3 | h3
              · exact hb (.inr h3)
              · exact hb (.inr (hown1 b h3 (World.block_lt_of_cell? w _ hc)))
          · unfold killsF at hf
            split at hf
            · cases hf
            · rename_i hmv
              simp at hf; subst hf
              have hrw := hrow _ (H.lt hid)
              have hidl := id_lt hid
              by_cases hs : id ∈ sel
              · obtain ⟨p, hp⟩ := List.getElem?_of_mem hs
                obtain ⟨c1, c0, h3, h4, h5, h6, h7⟩ := hlent p id hp
                rw [hid] at h4; simp at h4; subst h4
                have h5 := h5.resolve_right (fun h => hmv h.1)
                refine ⟨_, h6, by simp [h5], ?_, hrw, by rw [isMb_ren, h7]⟩
                rw [hm2l p id hp]
                rcases hm1 p c1 h3 with ⟨id', c0', g1, g2, _, g4 | ⟨g4, _⟩⟩ | ⟨g1, _⟩
                · rw [hp] at g1; simp at g1; subst g1
                  exact g4
                · rw [hp] at g1; simp at g1; subst g1
                  rw [hid] at g2; simp at g2; subst g2
                  omega
                · have := (List.getElem?_eq_some_iff.1 hp).1; omega
              · exact ⟨_, by rw [hother id (by omega) hs]; exact hqput id c hid, by simp, hm2o id c hid hs, hrw, isMb_ren _ _ _⟩
          · unfold killsF at hf
            split at hf <;> cases hf
        have hR2 : Ren w' w' m1 m2 hout h2 avX (avm av0 m2 h2) f := by
          refine ⟨fun b off v hb hc => ⟨fun h => hb (hX1 b ?_), hc⟩, fun p c j hp hf => ?_, fun p c c' hp hf => ?_⟩
          · rcases h with h | h
            · exact .inl (.inl h)
            · rcases hown2 b h with h3 | h3
              · exact .inl (.inr h3)
              · exact .inr h3
          · rcases hm1 p c hp with ⟨id, c0, h3, _⟩ | ⟨h3, h4⟩
            · have : f p = .to id := by rw [hfe]; simp [backF, h3]
              rw [this] at hf; simp at hf; subst hf
              obtain ⟨c1, c0, h5, h6, h7, h8, h9⟩ := hlent p id h3
              rw [hp] at h5; simp at h5; subst h5
              exact ⟨_, h8, by simp, hm2l p id h3, Nat.le_refl _, isMb_ren _ _ _⟩
            · have h5 : sel[p]? = none := List.getElem?_eq_none h3
              have : f p = .to (n + p - sel.length) := by rw [hfe]; simp [backF, h5]
              rw [this] at hf; simp at hf; subst hf
              exact ⟨_, hnew p c h3 hp, by simp, hm2n p h3, Nat.le_refl _, isMb_ren _ _ _⟩
          · rw [hfe] at hf
            unfold backF at hf
            split at hf <;> cases hf
        refine ⟨v, m2, rfl, ?_⟩
        have J : Inv w0 m0 h0 av0 { s with t := killsL mv s.t, h := h2 } a w' m2 := by
          refine ⟨⟨?_, fun j c h3 => .inr ⟨j, c, h3, rfl⟩, ?_⟩, by simpa [killsL] using I.size, fun i hi => ?_, I.defers, I.ext.trans' hE ?_, ?_, I.lt, I.lent, I.gl, I.k, ?_⟩
          · -- the blocks are apart
            have key : ∀ (j : Nat) (c : List V), h2[j]? = some (some c) → (j ∉ sel ∧ ∃ c0, s.h[j]? = some (some c0) ∧ m2 j = m j) ∨ ∃ p c1, (sel[p]? = some j ∨ (sel.length ≤ p ∧ j = n + p - sel.length)) ∧ hout[p]? = some (some c1) ∧ m2 j = m1 p := by
              intro j c hj
              rcases hcase j c hj with ⟨h3, c0, h4, _⟩ | ⟨p, c1, h4, h5, _, h6⟩ | ⟨p, c1, h3, h4, h5, _, h6, h7⟩
              · exact .inl ⟨h3, c0, h4, hm2o j c0 h4 h3⟩
              · exact .inr ⟨p, c1, .inl h4, h5, h6⟩
              · exact .inr ⟨p, c1, .inr ⟨h3, h4⟩, h5, h6⟩
            have apart : ∀ (i j p : Nat) (ci c1 : List V), i ∉ sel → s.h[i]? = some (some ci) → hout[p]? = some (some c1) → m i ≠ m1 p := by
              intro i j p ci c1 hi h3 h4 he
              have hlt := H.lt h3
              rcases hm1 p c1 h4 with ⟨id, c0, g1, g2, _, g3 | ⟨_, g3⟩⟩ | ⟨_, g3⟩
              · rw [g3] at he
                have := H.inj i id ci c0 h3 g2 he
                subst this
                exact hi (List.mem_of_getElem? g1)
              · omega
              · omega
            intro i j ci cj hi hj he
            rcases key i ci hi with ⟨h3, c1, h4, h5⟩ | ⟨p, c1, h3, h4, h5⟩ <;> rcases key j cj hj with ⟨g3, d1, g4, g5⟩ | ⟨q, d1, g3, g4, g5⟩
            · rw [h5, g5] at he
              exact H.inj i j c1 d1 h4 g4 he
            · rw [h5, g5] at he
              exact absurd he (apart i j q c1 d1 h3 h4 g4)
            · rw [h5, g5] at he
              exact absurd he.symm (apart j i p d1 c1 g3 g4 h4)
            · rw [h5, g5] at he
              have := hH.inj p q c1 d1 h4 g4 he
              subst this
              rcases h3 with h3 | ⟨h3, h6⟩ <;> rcases g3 with g3 | ⟨g3, g6⟩
              · rw [h3] at g3; simpa using g3
              · have := (List.getElem?_eq_some_iff.1 h3).1; omega
              · have := (List.getElem?_eq_some_iff.1 g3).1; omega
              · omega
          · intro j c hj
            rcases hcase j c hj with ⟨h3, c0, h4, rfl⟩ | ⟨p, c1, h4, h5, rfl, h6⟩ | ⟨p, c1, h3, h4, h5, rfl, h6, h7⟩
            · rw [hm2o j c0 h4 h3]
              exact (H.blk j c0 h4).map (hE.block _ (H.lt h4) (hnl j c0 h4 h3)) (ren_mb _ 2) (fun v x hx => hx.ren hRk 2)
            · rw [h6]
              exact (hXblk p c1 h5).map rfl (ren_mb _ 2) (fun v x hx => hx.ren hR2 2)
            · rw [h6]
              exact (hXblk p c1 h5).map rfl (ren_mb _ 2) (fun v x hx => hx.ren hR2 2)
          · simp only [killsL, List.getElem_map]
            exact (I.slots i (by simpa [killsL] using hi)).ren hRk 3
          · intro b hb ho
            obtain ⟨id, c, h3, h4⟩ := hownL b ho
            rcases I.ids id c h3 with ⟨h5, c0, h7, _, h6 | ⟨_, h6⟩⟩ | ⟨h5, h6⟩
            · exact ⟨id, c0, h7, by rw [← h6]; exact h4⟩
            · omega
            · omega
          · intro j c hj
            rcases hcase j c hj with ⟨h3, c0, h4, rfl⟩ | ⟨p, c1, h4, h5, rfl, h6⟩ | ⟨p, c1, h3, h4, h5, rfl, h6, h7⟩
            · rw [hm2o j c0 h4 h3, List.length_map]; exact I.ids j c0 h4
            · rw [h6, List.length_map]
              have hlt := (List.getElem?_eq_some_iff.1 h4).1
              have hsize := I.ext.size
              rcases hm1 p c1 h5 with ⟨id, c0, g1, g2, g3, g4⟩ | ⟨g1, _⟩
              · rw [h4] at g1; simp at g1; subst g1
                rcases I.ids j c0 g2 with ⟨q1, c00, q2, q3, q4⟩ | ⟨q1, q2⟩
                · refine .inl ⟨q1, c00, q2, by omega, ?_⟩
                  rcases g4 with g4 | ⟨g4, g5⟩
                  · rcases q4 with q4 | ⟨q4, q5⟩
                    · exact .inl (g4.trans q4)
                    · exact .inr ⟨by omega, by omega⟩
                  · exact .inr ⟨by omega, by omega⟩
                · refine .inr ⟨q1, ?_⟩
                  rcases g4 with g4 | ⟨g4, g5⟩ <;> omega
              · omega
            · rw [h6]
              exact .inr ⟨by have := I.len; omega, Nat.le_trans I.ext.size h7⟩
          · show h0.length ≤ h2.length
            have : n ≤ h2.length := by
              rw [hh2, List.length_append, hpl]; omega
            have := I.len
            omega
        have hfin : afterK s dst mv sel r hout = ({ s with t := killsL mv s.t, h := h2 } : St).put dst (ren f 3 r) := by
          rw [hh2, hfe, hn, hqe]; rfl
        rw [hfin]
        exact J.put (hXres.ren hR2 3)
      cases fz with
      | false =>
        exact main (avm av0 m s.h) (pick_ren H (fun b hb => hb) (fun h => by cases h)) (fun b hb => .inr (hownL b hb)) (fun b hb => hb) (.inl fun b hb => hb)
      | true =>
        have hn := hro.resolve_left (by simp)
        refine main (own (pickM sel m) (pickH sel s.h true)) (pick_ren H (fun b hb h => hb (.inr (hownL b h))) (fun _ id cs hid hp => ?_)) (fun b hb => hb) (fun b hb => .inr (hownL b hb)) (.inr hn)
        refine hnl id cs hid (fun hm => ?_)
        obtain ⟨p, hp'⟩ := List.getElem?_of_mem hm
        exact posOf_none hp hp'
    | _ => exact False.elim hq
  | _ => exact False.elim hq
end
end Go.Lv
