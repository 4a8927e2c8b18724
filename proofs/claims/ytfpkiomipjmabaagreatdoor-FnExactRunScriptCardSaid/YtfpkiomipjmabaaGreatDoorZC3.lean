/-
  A part of the proof: texts put together by a program of the prover. Conditions: none.
-/
import Derived.Test.YtfpkiomipjmabaaGreatDoorZC2
import Derived.Laws.Tables
set_option linter.unusedSimpArgs false
set_option linter.unusedVariables false
section
namespace Go.Lv

def wx : List Nat → Nat → Bool
 | [], _ => false
 | a :: l, t => decide (t = a) || wx l t
def posOf : List Nat → Nat → Option Nat
 | [], _ => none
 | i :: l, id => if id = i then some 0 else (posOf l id).map (· + 1)

theorem sq : ∀ {l : List Nat} {id p : Nat}, posOf l id = some p → l[p]? = some id
 | [], _, _, h => by simp [posOf] at h
 | i :: l, id, p, h => by
   unfold posOf at h
   split at h
   · rename_i e; simp at h; subst h; simp [e]
   · cases hp : posOf l id with
     | none => simp [hp] at h
     | some q => simp [hp] at h; subst h; simpa using sq hp

theorem ml : ∀ {l : List Nat} {id p : Nat}, posOf l id = none → l[p]? ≠ some id
 | [], _, _, _ => by simp
 | i :: l, id, p, h => by
   unfold posOf at h
   split at h
   · simp at h
   · rename_i e
     simp at h
     cases p with
     | zero => simpa using fun h => e h.symm
     | succ p => simpa using ml h

theorem mr : ∀ {l : List Nat} {p q id : Nat}, l.Nodup → l[p]? = some id → l[q]? = some id → p = q
 | [], _, _, _, _, h, _ => by simp at h
 | i :: l, p, q, id, hn, h1, h2 => by
   obtain ⟨h3, h4⟩ := List.nodup_cons.1 hn
   cases p with
   | zero => cases q with
     | zero => rfl
     | succ q =>
       simp at h1 h2; subst h1
       exact absurd (List.mem_of_getElem? h2) h3
   | succ p => cases q with
     | zero =>
       simp at h1 h2; subst h2
       exact absurd (List.mem_of_getElem? h1) h3
     | succ q => simp at h1 h2; rw [mr h4 h1 h2]

theorem ani {l : List Nat} {p id : Nat} (hn : l.Nodup) (h : l[p]? = some id) : posOf l id = some p := by
 cases hp : posOf l id with
 | none => exact absurd h (ml hp)
 | some q => rw [mr hn h (sq hp)]

def sx (sel : List Nat) (h : Hp) : Nat → Nat → R
 | 0, _ => .kill
 | d + 1, id => if (posOf sel id).isSome then .kill else match h[id]? with
   | some (some cs) => .frz (cs.map (ren (sx sel h d) 2))
   | _ => .kill

def bg (sel : List Nat) (h : Hp) (fz : Bool) (id : Nat) : R :=
 match posOf sel id with
 | some p => .to p
 | none => if fz then sx sel h 2 id else .kill

def bh (sel : List Nat) (h : Hp) (fz : Bool) (id : Nat) : Option (List V) :=
 match h[id]? with
 | some (some cs) => some (cs.map (ren (bg sel h fz) 2))
 | _ => none
def bc (sel : List Nat) (h : Hp) (fz : Bool) : Hp := sel.map (bh sel h fz)
def fb (sel : List Nat) (m : Nat → Nat) (p : Nat) : Nat := m (sel.getD p 0)

theorem c8 {sel : List Nat} {m : Nat → Nat} {p id : Nat} (h : sel[p]? = some id) : fb sel m p = m id := by simp [fb, List.getD, h]

theorem cn {sel : List Nat} {h : Hp} {fz : Bool} {p : Nat} {cs : List V} (hp : (bc sel h fz)[p]? = some (some cs)) :
   ∃ id c0, sel[p]? = some id ∧ h[id]? = some (some c0) ∧ cs = c0.map (ren (bg sel h fz) 2) := by
 simp only [bc, List.getElem?_map] at hp
 cases h1 : sel[p]? with
 | none => simp [h1] at hp
 | some id =>
   simp [h1, bh] at hp
   split at hp
   · rename_i c0 h2; simp at hp; exact ⟨id, c0, rfl, h2, hp.symm⟩
   · cases hp

theorem apy {sel : List Nat} {h : Hp} {fz : Bool} {p id : Nat} {c0 : List V} (h1 : sel[p]? = some id) (h2 : h[id]? = some (some c0)) :
   (bc sel h fz)[p]? = some (some (c0.map (ren (bg sel h fz) 2))) := by
 simp [bc, h1, bh, h2]

section
variable {w : World} {m : Nat → Nat} {h : Hp} {av av' : Nat → Prop} {sel : List Nat}

theorem asr (H : RH w m h av) (hro : ∀ b, ¬ av b → ¬ av' b) (hfz : ∀ id cs, h[id]? = some (some cs) → posOf sel id = none → ¬ av' (m id)) (d : Nat) : Ren w w m m h [] av av' (sx sel h d) := by
 induction d with
 | zero => exact ⟨fun _ _ _ hb hc => ⟨hro _ hb, hc⟩, fun _ _ _ _ hf => by simp [sx] at hf, fun _ _ _ _ hf => by simp [sx] at hf⟩
 | succ d ih =>
   refine ⟨fun _ _ _ hb hc => ⟨hro _ hb, hc⟩, fun id cs j hid hf => ?_, fun id cs cs' hid hf hn => ?_⟩
   · unfold sx at hf
     split at hf
     · cases hf
     · simp [hid] at hf
   · unfold sx at hf
     split at hf
     · cases hf
     · rename_i hp
       simp [hid] at hf; subst hf
       refine ⟨by simp, hfz id cs hid (by simpa using hp), fun i hi => ?_⟩
       obtain ⟨v, hv, hr⟩ := H.cell ⟨hid, hn⟩ (i := i) (by simpa using hi)
       refine ⟨v, hv, ?_⟩
       rw [getD_map hi]
       exact (hr.ren ih 2).aqf

theorem r6 (H : RH w m h av) {fz : Bool} (hro : ∀ b, ¬ av b → ¬ av' b) (hfz : fz = true → ∀ id cs, h[id]? = some (some cs) → posOf sel id = none → ¬ av' (m id)) :
   Ren w w m (fb sel m) h (bc sel h fz) av av' (bg sel h fz) := by
 refine ⟨fun _ _ _ hb hc => ⟨hro _ hb, hc⟩, fun id cs j hid hf => ?_, fun id cs cs' hid hf hn => ?_⟩
 · unfold bg at hf
   split at hf
   · rename_i p hp
     simp at hf; subst hf
     have := sq hp
     exact ⟨_, apy this hid, by simp, c8 this, Nat.le_refl _, du _ _ _⟩
   · split at hf
     · unfold sx at hf
       split at hf
       · cases hf
       · simp [hid] at hf
     · cases hf
 · unfold bg at hf
   split at hf
   · cases hf
   · split at hf
     · rename_i hf1 hfz1
       have hR := asr (sel := sel) H hro (hfz hfz1) 1
       have h2 : sx sel h 2 id = .frz (cs.map (ren (sx sel h 1) 2)) := by
         have : (posOf sel id).isSome = false := by simp [hf1]
         simp [sx, hid, this]
       rw [h2] at hf
       simp at hf; subst hf
       refine ⟨by simp, hfz hfz1 id cs hid hf1, fun i hi => ?_⟩
       obtain ⟨v, hv, hr⟩ := H.cell ⟨hid, hn⟩ (i := i) (by simpa using hi)
       refine ⟨v, hv, ?_⟩
       rw [getD_map hi]
       exact ((hr.ren hR 2).aqf).free
     · cases hf

theorem afi {m0 : Nat → Nat} {h0 : Hp} {av0 : Nat → Prop} {n : Nat} (H : RH w m h (avm av0 m h)) (hI : Ids n m0 m h0 h) (hlt : ∀ b, av0 b → b < n) (hn : sel.Nodup) (hk : ∀ j, j < h0.length → sel[j]? = some j) :
   RH w (fb sel m) (bc sel h true) (avm av0 (fb sel m) (bc sel h true)) ∧ Ids n m0 (fb sel m) h0 (bc sel h true) ∧
   ∀ d v x, RV w m h (avm av0 m h) true v x → RV w (fb sel m) (bc sel h true) (avm av0 (fb sel m) (bc sel h true)) true v (ren (bg sel h true) d x) := by
 have hown : ∀ b, own (fb sel m) (bc sel h true) b → own m h b := by
   rintro b ⟨p, c, h1, rfl⟩
   obtain ⟨id, c0, h2, h3, _⟩ := cn h1
   exact ⟨id, c0, h3, (c8 h2).symm⟩
 have hro : ∀ b, ¬ avm av0 m h b → ¬ avm av0 (fb sel m) (bc sel h true) b := fun b hb h => hb (h.imp (fun x => x) (hown b))
 have hfz : ∀ id cs, h[id]? = some (some cs) → posOf sel id = none → ¬ avm av0 (fb sel m) (bc sel h true) (m id) := by
   intro id cs hid hp hav
   rcases hav with hav | ⟨p, c, h1, h2⟩
   · rcases hI id cs hid with ⟨h1, _⟩ | ⟨_, h1⟩
     · exact ml hp (hk id h1)
     · have := hlt _ hav; omega
   · obtain ⟨id', c0, h3, h4, _⟩ := cn h1
     rw [c8 h3] at h2
     have := H.inj id' id c0 cs h4 hid h2
     subst this
     exact ml hp h3
 have hR := r6 (sel := sel) H (fz := true) hro (fun _ => hfz)
 refine ⟨⟨fun i j ci cj h1 h2 he => ?_, fun p c h1 => .inr ⟨p, c, h1, rfl⟩, fun p c h1 => ?_⟩, fun p c h1 => ?_, fun d v x hx => hx.ren hR d⟩
 · obtain ⟨i', c0, h3, h4, _⟩ := cn h1
   obtain ⟨j', c1, h5, h6, _⟩ := cn h2
   rw [c8 h3, c8 h5] at he
   have := H.inj i' j' c0 c1 h4 h6 he
   subst this
   exact mr hn h3 h5
 · obtain ⟨id, c0, h2, h3, rfl⟩ := cn h1
   rw [c8 h2]
   exact (H.blk id c0 h3).map rfl (j1 _ 2) (fun v x hx => hx.ren hR 2)
 · obtain ⟨id, c0, h2, h3, rfl⟩ := cn h1
   rw [c8 h2, List.length_map]
   rcases hI id c0 h3 with ⟨h4, h5⟩ | ⟨h4, h5⟩
   · have := mr hn h2 (hk id h4)
     subst this
     exact .inl ⟨h4, h5⟩
   · refine .inr ⟨?_, h5⟩
     rcases Nat.lt_or_ge p h0.length with hp | hp
     · have := hk p hp
       rw [h2] at this; simp at this
       omega
     · exact hp
end

def nz : Hp → List Nat → Hp → Hp
 | h, id :: sel, b :: bs => nz (h.set id b) sel bs
 | h, _, _ => h

theorem qt : ∀ (sel : List Nat) (h bs : Hp), (nz h sel bs).length = h.length
 | [], h, bs => by cases bs <;> rfl
 | id :: sel, h, [] => rfl
 | id :: sel, h, b :: bs => by
   show (nz (h.set id b) sel bs).length = _
   rw [qt sel]; simp

theorem o9 : ∀ (sel : List Nat) (h bs : Hp) (j : Nat), j ∉ sel → (nz h sel bs)[j]? = h[j]?
 | [], h, bs, j, _ => by cases bs <;> rfl
 | id :: sel, h, [], j, _ => rfl
 | id :: sel, h, b :: bs, j, hj => by
   show (nz (h.set id b) sel bs)[j]? = _
   simp at hj
   rw [o9 sel _ _ j hj.2, List.getElem?_set_ne (Ne.symm hj.1)]

theorem yy : ∀ (sel : List Nat) (h bs : Hp) (p j : Nat) (b : Option (List V)), sel.Nodup → sel[p]? = some j → bs[p]? = some b → j < h.length → (nz h sel bs)[j]? = some b
 | [], h, bs, p, j, b, _, h1, _, _ => by simp at h1
 | id :: sel, h, [], p, j, b, _, _, h2, _ => by simp at h2
 | id :: sel, h, b' :: bs, p, j, b, hn, h1, h2, hlt => by
   obtain ⟨h3, h4⟩ := List.nodup_cons.1 hn
   show (nz (h.set id b') sel bs)[j]? = _
   cases p with
   | zero =>
     simp at h1 h2; subst h1 h2
     rw [o9 sel _ _ _ h3, List.getElem?_set_self hlt]
   | succ p => exact yy sel _ bs p j b h4 (by simpa using h1) (by simpa using h2) (by simpa using hlt)

def grown : Hp → Hp → Prop
 | [], _ => True
 | some a :: l, some b :: l' => (a.length = b.length ∧ gr b = gr a) ∧ grown l l'
 | _, _ => False

theorem ot : ∀ {l l' : Hp}, grown l l' → ∀ p, p < l.length → ∃ a b, l[p]? = some (some a) ∧ l'[p]? = some (some b) ∧ a.length = b.length ∧ gr b = gr a
 | [], _, _, p, hp => by simp at hp
 | some a :: l, some b :: l', h, p, hp => by
   cases p with
   | zero => exact ⟨a, b, rfl, rfl, h.1.1, h.1.2⟩
   | succ p => simpa using ot h.2 p (by simpa using hp)
 | some a :: l, [], h, _, _ => h.elim
 | some a :: l, none :: _, h, _, _ => h.elim
 | none :: l, [], h, _, _ => h.elim
 | none :: l, _ :: _, h, _, _ => h.elim

def gp (sel : List Nat) (n : Nat) (p : Nat) : R :=
 match sel[p]? with
 | some id => .to id
 | none => .to (n + p - sel.length)
def oa (f : Nat → R) (b : Option (List V)) : Option (List V) := b.map (List.map (ren f 2))

def aaf (s : St) (dst : Option Tmp) (sel : List Nat) (r : V) (hout : Hp) : St :=
 ({ s with h := nz s.h sel ((hout.take sel.length).map (oa (gp sel s.h.length))) ++ (hout.drop sel.length).map (oa (gp sel s.h.length)) } : St).put dst (ren (gp sel s.h.length) 3 r)

def aqt (P : Program) (s : St) (dst : Option Tmp) (fv : V) (args : List V) (K : St → Prop) : Prop :=
 match fv with
 | .fn (.func g) a c => ∃ (sel : List Nat) (fz : Bool) (as' : List V) (r : V) (hout : Hp), sel.Nodup ∧ LeL ((a ++ args ++ c).map (ren (bg sel s.h fz) 3)) as' ∧ Ctr P g as' (bc sel s.h fz) r hout ∧
     grown (bc sel s.h fz) hout ∧ (fz = false ∨ uh r ∧ lg hout) ∧ K (aaf s dst sel r hout)
 | _ => False

section
variable {P : Program} {w0 : World} {m0 : Nat → Nat} {h0 : Hp} {av0 : Nat → Prop} {s : St} {a : Act} {w : World} {m : Nat → Nat}

theorem ap0 (I : Inv w0 m0 h0 av0 s a w m) {dst : Option Tmp} {fv : V} {u : Value} (hf : RV w m s.h (avm av0 m s.h) true u fv) {xs : Array Value} {xs' : List V} (hs : xs.size = xs'.length)
   (hx : ∀ i (hi : i < xs'.length), RV w m s.h (avm av0 m s.h) true (xs.getD i Go.undef) xs'[i]) {K : St → Prop} (hq : aqt P s dst fv xs' K) :
   ∃ g first cap s', u = .func (.func g) first cap ∧ okF P g = true ∧ K s' ∧
     Calls P g (first ++ xs ++ cap) w fun e w' => ∃ v m', e = .returned v ∧ Inv w0 m0 h0 av0 s' (a.put dst v) w' m' := by
 cases hf with
 | fn f first cap a' c' ha hc hra hrc =>
   cases f with
   | func g =>
     obtain ⟨sel, fz, as', r, hout, hnd, hle, hspec, hgr, hro, hk⟩ := hq
     obtain ⟨hokf, hspec⟩ := hspec
     obtain ⟨hlen, hget⟩ := hle.get
     have h1 := jb ha hs hra hx
     have h2 := jb h1.1 hc h1.2 hrc
     refine ⟨g, first, cap, _, rfl, hokf, hk, ?_⟩
     have hsz : (first ++ xs ++ cap).size = as'.length := by rw [h2.1, ← hlen]; simp
     have H := I.rh
     have hplen : (bc sel s.h fz).length = sel.length := by simp [bc]
     have hsel : ∀ (p id : Nat), sel[p]? = some id → ∃ c0, s.h[id]? = some (some c0) := by
       intro p id hp
       have hlt : p < (bc sel s.h fz).length := by rw [hplen]; exact (List.getElem?_eq_some_iff.1 hp).1
       obtain ⟨x, y, h3, _⟩ := ot hgr p hlt
       obtain ⟨id', c0, h4, h5, _⟩ := cn h3
       rw [hp] at h4; simp at h4; subst h4
       exact ⟨c0, h5⟩
     have hownL : ∀ b, own (fb sel m) (bc sel s.h fz) b → own m s.h b := by
       rintro b ⟨p, c, h1, rfl⟩
       obtain ⟨id, c0, h2, h3, _⟩ := cn h1
       exact ⟨id, c0, h3, (c8 h2).symm⟩
     have hnl : ∀ (id : Nat) (c : List V), s.h[id]? = some (some c) → id ∉ sel → ¬ own (fb sel m) (bc sel s.h fz) (m id) := by
       rintro id c hid hns ⟨p, c', h1, h2⟩
       obtain ⟨id', c0, h3, h4, _⟩ := cn h1
       rw [c8 h3] at h2
       have := H.inj id' id c0 c h4 hid h2
       subst this
       exact hns (List.mem_of_getElem? h3)
     -- the common part: what the callee sees
     have main : ∀ avL : Nat → Prop, Ren w w m (fb sel m) s.h (bc sel s.h fz) (avm av0 m s.h) avL (bg sel s.h fz) → (∀ b, own (fb sel m) (bc sel s.h fz) b → avL b) → (∀ b, avL b → avm av0 m s.h b) →
         ((∀ b, avm av0 m s.h b → avL b) ∨ uh r ∧ lg hout) →
         Calls P g (first ++ xs ++ cap) w fun e w' => ∃ v m', e = .returned v ∧ Inv w0 m0 h0 av0 (aaf s dst sel r hout) (a.put dst v) w' m' := by
       intro avL hR hL1 hL2 hL3
       have hRH : RH w (fb sel m) (bc sel s.h fz) avL := by
         refine ⟨fun i j ci cj h1 h2 he => ?_, fun p c h1 => hL1 _ ⟨p, c, h1, rfl⟩, fun p c h1 => ?_⟩
         · obtain ⟨i', c0, h3, h4, _⟩ := cn h1
           obtain ⟨j', c1, h5, h6, _⟩ := cn h2
           rw [c8 h3, c8 h5] at he
           have := H.inj i' j' c0 c1 h4 h6 he
           subst this
           exact mr hnd h3 h5
         · obtain ⟨id, c0, h2, h3, rfl⟩ := cn h1
           rw [c8 h2]
           exact (H.blk id c0 h3).map rfl (j1 _ 2) (fun v x hx => hx.ren hR 2)
       have hargs : ∀ i (hi : i < as'.length), RV w (fb sel m) (bc sel s.h fz) avL true ((first ++ xs ++ cap).getD i Go.undef) as'[i] := by
         intro i hi
         have hi2 : i < (a' ++ xs' ++ c').length := by have := hi; rw [← hlen] at this; simpa using this
         have hle := hget i (by simpa using hi2) hi
         rw [getD_map (f := ren (bg sel s.h fz) 3) (l := a' ++ xs' ++ c') (by simpa using hi2)] at hle
         exact ((h2.2 i hi2).ren hR 3).le hle
       refine (hspec w (first ++ xs ++ cap) (fb sel m) avL hRH (fun b hb => I.acd (hL2 b hb)) (I.glw.mono hL2) hsz hargs).mono ?_
       rintro e w' ⟨v, m1, rfl, hE, hH, hV, hI⟩
       -- what is avoided by the values that come back
       obtain ⟨avX, hX1, hXblk, hXres⟩ : ∃ avX : Nat → Prop, (∀ b, avm av0 m s.h b ∨ own m1 hout b → avX b) ∧
           (∀ id cs, hout[id]? = some (some cs) → pj w' m1 hout avX (m1 id) cs) ∧ RV w' m1 hout avX true v r := by
         rcases hL3 with hL3 | ⟨hn1, hn2⟩
         · exact ⟨avm avL m1 hout, fun b hb => hb.imp (hL3 b) (fun h => h), hH.blk, hV⟩
         · refine ⟨fun _ => True, fun b _ => trivial, fun id cs hid => ?_, hn1 _ _ _ _ _ hV⟩
           rcases hH.blk id cs hid with ⟨C, T, fr, h3, hfr, h4, h5⟩ | h3
           · exact .inl ⟨C, T, fr, h3, hfr, h4, fun i hi => hn2 id cs hid _ (List.getElem_mem _) _ _ _ _ _ (h5 i hi)⟩
           · exact .inr h3
       have hm1 : ∀ (p : Nat) (c : List V), hout[p]? = some (some c) → (∃ id, sel[p]? = some id ∧ m1 p = m id) ∨ (sel.length ≤ p ∧ w.heap.size ≤ m1 p) := by
         intro p c hp
         rcases hI p c hp with ⟨h3, c0, h5, h6, h4⟩ | ⟨h3, h4⟩
         · obtain ⟨x, y, g1, g2, g3, _⟩ := ot hgr p h3
           rw [h5] at g1; simp at g1; subst g1
           rw [hp] at g2; simp at g2; subst g2
           have h4 := h4.resolve_right (fun h => by omega)
           rw [hplen] at h3
           exact .inl ⟨sel[p], by simp [h3], by rw [h4]; exact c8 (by simp [h3])⟩
         · rw [hplen] at h3
           exact .inr ⟨h3, h4⟩
       let n := s.h.length
       let f := gp sel n
       let h2 : Hp := nz s.h sel ((hout.take sel.length).map (oa f)) ++ (hout.drop sel.length).map (oa f)
       let m2 : Nat → Nat := fun id => if id < n then m id else m1 (id - n + sel.length)
       have hm2o : ∀ (id : Nat) (c : List V), s.h[id]? = some (some c) → m2 id = m id := fun id c hid => if_pos (dy hid)
       have hm2n : ∀ p, sel.length ≤ p → m2 (n + p - sel.length) = m1 p := fun p hp => by
         show (if n + p - sel.length < n then _ else m1 (n + p - sel.length - n + sel.length)) = _
         rw [if_neg (by omega)]; congr 1; omega
       have hpl : (nz s.h sel ((hout.take sel.length).map (oa f))).length = n := qt _ _ _
       have hlent : ∀ (p id : Nat), sel[p]? = some id → ∃ c c0, hout[p]? = some (some c) ∧ s.h[id]? = some (some c0) ∧ c0.length = c.length ∧ h2[id]? = some (some (c.map (ren f 2))) ∧ gr c = gr c0 := by
         intro p id hp
         have hlt : p < sel.length := (List.getElem?_eq_some_iff.1 hp).1
         obtain ⟨x, y, h3, h4, h5, hmb⟩ := ot hgr p (by rw [hplen]; exact hlt)
         obtain ⟨id', c0, h6, h7, rfl⟩ := cn h3
         rw [hp] at h6; simp at h6; subst h6
         refine ⟨y, c0, h4, h7, by simpa using h5, ?_, by rw [hmb, du]⟩
         show (nz s.h sel _ ++ _)[id]? = _
         rw [List.getElem?_append_left (by rw [hpl]; exact dy h7)]
         refine yy sel s.h _ p id _ hnd hp ?_ (dy h7)
         simp [List.getElem?_take_of_lt hlt, h4, oa]
       have hother : ∀ id : Nat, id < n → id ∉ sel → h2[id]? = s.h[id]? := by
         intro id hid hns
         show (nz s.h sel _ ++ _)[id]? = _
         rw [List.getElem?_append_left (by rw [hpl]; exact hid), o9 sel _ _ _ hns]
       have hnew : ∀ (p : Nat) (c : List V), sel.length ≤ p → hout[p]? = some (some c) → h2[n + p - sel.length]? = some (some (c.map (ren f 2))) := by
         intro p c hp h3
         show (nz s.h sel _ ++ _)[n + p - sel.length]? = _
         rw [List.getElem?_append_right (by rw [hpl]; omega), hpl]
         have : sel.length + (n + p - sel.length - n) = p := by omega
         simp [this, h3, oa]
       have hcase : ∀ (j : Nat) (c : List V), h2[j]? = some (some c) → (j ∉ sel ∧ s.h[j]? = some (some c)) ∨ (∃ p c1, sel[p]? = some j ∧ hout[p]? = some (some c1) ∧ c = c1.map (ren f 2) ∧ m2 j = m1 p) ∨
           (∃ p c1, sel.length ≤ p ∧ j = n + p - sel.length ∧ hout[p]? = some (some c1) ∧ c = c1.map (ren f 2) ∧ m2 j = m1 p ∧ w.heap.size ≤ m1 p) := by
         intro j c hj
         by_cases hlt : j < n
         · by_cases hs : j ∈ sel
           · obtain ⟨p, hp⟩ := List.getElem?_of_mem hs
             obtain ⟨c1, c0, h3, h4, _, h5, _⟩ := hlent p j hp
             rw [h5] at hj; simp at hj
             refine .inr (.inl ⟨p, c1, hp, h3, hj.symm, ?_⟩)
             rcases hm1 p c1 h3 with ⟨id, h6, h7⟩ | ⟨h6, _⟩
             · rw [hp] at h6; simp at h6; subst h6
               rw [h7]; exact hm2o _ _ h4
             · have := (List.getElem?_eq_some_iff.1 hp).1; omega
           · rw [hother j hlt hs] at hj
             exact .inl ⟨hs, hj⟩
         · have hj' := hj
           change (nz s.h sel _ ++ _)[j]? = _ at hj'
           rw [List.getElem?_append_right (by rw [hpl]; omega), hpl] at hj'
           simp only [List.getElem?_map, List.getElem?_drop] at hj'
           cases h3 : hout[sel.length + (j - n)]? with
           | none => simp [h3] at hj'
           | some b =>
             cases b with
             | none => simp [h3, oa] at hj'
             | some c1 =>
               simp [h3, oa] at hj'
               have hp : sel.length ≤ sel.length + (j - n) := by omega
               have e : j = n + (sel.length + (j - n)) - sel.length := by omega
               refine .inr (.inr ⟨sel.length + (j - n), c1, hp, e, h3, hj'.symm, ?_, ?_⟩)
               · have := hm2n _ hp; rw [← e] at this; exact this
               · rcases hm1 _ c1 h3 with ⟨id, h6, _⟩ | ⟨_, h6⟩
                 · have := (List.getElem?_eq_some_iff.1 h6).1; omega
                 · exact h6
       have hown2 : ∀ b, own m2 h2 b → own m s.h b ∨ own m1 hout b := by
         rintro b ⟨j, c, h3, rfl⟩
         rcases hcase j c h3 with ⟨_, h4⟩ | ⟨p, c1, h4, h5, _, h6⟩ | ⟨p, c1, _, _, h5, _, h6, _⟩
         · exact .inl ⟨j, c, h4, (hm2o j c h4).symm⟩
         · exact .inr ⟨p, c1, h5, h6.symm⟩
         · exact .inr ⟨p, c1, h5, h6.symm⟩
       have hown1 : ∀ b, own m1 hout b → b < w.heap.size → own m s.h b := by
         rintro b ⟨p, c, h3, rfl⟩ hb
         rcases hm1 p c h3 with ⟨id, h4, h5⟩ | ⟨_, h5⟩
         · obtain ⟨c0, h6⟩ := hsel p id h4
           exact ⟨id, c0, h6, h5.symm⟩
         · omega
       have hrow : ∀ k, k < w.heap.size → cz w k ≤ cz w' k := fun k hk => hE.row k hk
       have hstep : ∀ {o : Bool} {v : Value} {x : V}, RV w m s.h (avm av0 m s.h) o v x → RV w' m2 h2 (avm av0 m2 h2) o v x :=
         fun hx => hx.step (fun b off v hb hc => ⟨fun h => by
             rcases h with h | h
             · exact hb (.inl h)
             · rcases hown2 b h with h3 | h3
               · exact hb (.inr h3)
               · exact hb (.inr (hown1 b h3 (World.block_lt_of_cell? w _ hc))), hE.cell hc (fun h => hb (.inr (hownL b h)))⟩)
           (fun id c hid => by
             have hrw := hrow _ (H.lt hid)
             by_cases hs : id ∈ sel
             · obtain ⟨p, hp⟩ := List.getElem?_of_mem hs
               obtain ⟨c1, c0, h3, h4, h5, h6, h7⟩ := hlent p id hp
               rw [hid] at h4; simp at h4; subst h4
               exact ⟨_, h6, by simp [h5], hm2o id _ hid, hrw, by rw [du, h7]⟩
             · exact ⟨c, by rw [hother id (dy hid) hs]; exact hid, Nat.le_refl _, hm2o id c hid, hrw, rfl⟩)
       have hR2 : Ren w' w' m1 m2 hout h2 avX (avm av0 m2 h2) f := by
         refine ⟨fun b off v hb hc => ⟨fun h => hb (hX1 b ?_), hc⟩, fun p c j hp hf => ?_, fun p c c' hp hf => ?_⟩
         · rcases h with h | h
           · exact .inl (.inl h)
           · rcases hown2 b h with h3 | h3
             · exact .inl (.inr h3)
             · exact .inr h3
         · rcases hm1 p c hp with ⟨id, h3, h4⟩ | ⟨h3, h4⟩
           · have : f p = .to id := by show gp sel n p = _; simp [gp, h3]
             rw [this] at hf; simp at hf; subst hf
             obtain ⟨c1, c0, h5, h6, h7, h8, h9⟩ := hlent p id h3
             rw [hp] at h5; simp at h5; subst h5
             exact ⟨_, h8, by simp, by rw [hm2o id c0 h6, h4], Nat.le_refl _, du _ _ _⟩
           · have h5 : sel[p]? = none := List.getElem?_eq_none h3
             have : f p = .to (n + p - sel.length) := by show gp sel n p = _; simp [gp, h5]
             rw [this] at hf; simp at hf; subst hf
             exact ⟨_, hnew p c h3 hp, by simp, hm2n p h3, Nat.le_refl _, du _ _ _⟩
         · have : f p = .frz c' := hf
           change gp sel n p = _ at this
           unfold gp at this
           split at this <;> cases this
       refine ⟨v, m2, rfl, ?_⟩
       have J : Inv w0 m0 h0 av0 { s with h := h2 } a w' m2 := by
         refine ⟨⟨?_, fun j c h3 => .inr ⟨j, c, h3, rfl⟩, ?_⟩, I.size, fun i hi => hstep (I.slots i hi), I.defers, I.ext.trans' hE ?_, ?_, I.lt, I.lent, I.gl, I.k, ?_⟩
         · -- the blocks are apart
           have key : ∀ (j : Nat) (c : List V), h2[j]? = some (some c) → (∃ c0, s.h[j]? = some (some c0) ∧ m2 j = m j) ∨ ∃ p c1, sel.length ≤ p ∧ j = n + p - sel.length ∧ hout[p]? = some (some c1) ∧ m2 j = m1 p ∧ w.heap.size ≤ m1 p := by
             intro j c hj
             rcases hcase j c hj with ⟨_, h4⟩ | ⟨p, c1, h4, h5, _, h6⟩ | ⟨p, c1, h3, h4, h5, _, h6, h7⟩
             · exact .inl ⟨c, h4, hm2o j c h4⟩
             · obtain ⟨c0, h7⟩ := hsel p j h4
               exact .inl ⟨c0, h7, hm2o j c0 h7⟩
             · exact .inr ⟨p, c1, h3, h4, h5, h6, h7⟩
           intro i j ci cj hi hj he
           rcases key i ci hi with ⟨c1, h3, h4⟩ | ⟨p, c1, h3, h4, h5, h6, h7⟩ <;> rcases key j cj hj with ⟨d1, g3, g4⟩ | ⟨q, d1, g3, g4, g5, g6, g7⟩
           · rw [h4, g4] at he
             exact H.inj i j c1 d1 h3 g3 he
           · rw [h4, g6] at he
             have := H.lt h3; omega
           · rw [h6, g4] at he
             have := H.lt g3; omega
           · rw [h6, g6] at he
             have := hH.inj p q c1 d1 h5 g5 he
             omega
         · intro j c hj
           rcases hcase j c hj with ⟨h3, h4⟩ | ⟨p, c1, h4, h5, rfl, h6⟩ | ⟨p, c1, h3, h4, h5, rfl, h6, h7⟩
           · rw [hm2o j c h4]
             exact (H.blk j c h4).step (hE.block _ (H.lt h4) (hnl j c h4 h3)) (fun v x => hstep)
           · rw [h6]
             exact (hXblk p c1 h5).map rfl (j1 _ 2) (fun v x hx => hx.ren hR2 2)
           · rw [h6]
             exact (hXblk p c1 h5).map rfl (j1 _ 2) (fun v x hx => hx.ren hR2 2)
         · intro b hb ho
           obtain ⟨id, c, h3, h4⟩ := hownL b ho
           rcases I.ids id c h3 with ⟨h5, c0, h7, _, h6 | ⟨_, h6⟩⟩ | ⟨h5, h6⟩
           · exact ⟨id, c0, h7, by rw [← h6]; exact h4⟩
           · omega
           · omega
         · intro j c hj
           rcases hcase j c hj with ⟨h3, h4⟩ | ⟨p, c1, h4, h5, rfl, h6⟩ | ⟨p, c1, h3, h4, h5, rfl, h6, h7⟩
           · rw [hm2o j c h4]; exact I.ids j c h4
           · obtain ⟨c2, c0, g1, h7, g2, _, _⟩ := hlent p j h4
             rw [h5] at g1; simp at g1; subst g1
             rw [hm2o j c0 h7, List.length_map, ← g2]; exact I.ids j c0 h7
           · rw [h6]
             exact .inr ⟨by have := I.len; omega, Nat.le_trans I.ext.size h7⟩
         · show h0.length ≤ h2.length
           have : n ≤ h2.length := by
             show n ≤ (nz s.h sel _ ++ _).length
             rw [List.length_append, hpl]; omega
           exact Nat.le_trans I.len this
       exact J.put (hXres.ren hR2 3)
     cases fz with
     | false =>
       exact main (avm av0 m s.h) (r6 H (fun b hb => hb) (fun h => by cases h)) (fun b hb => .inr (hownL b hb)) (fun b hb => hb) (.inl fun b hb => hb)
     | true =>
       have hn := hro.resolve_left (by simp)
       refine main (own (fb sel m) (bc sel s.h true)) (r6 H (fun b hb h => hb (.inr (hownL b h))) (fun _ id cs hid hp => ?_)) (fun b hb => hb) (fun b hb => .inr (hownL b hb)) (.inr hn)
       refine hnl id cs hid (fun hm => ?_)
       obtain ⟨p, hp'⟩ := List.getElem?_of_mem hm
       exact ml hp hp'
   | _ => exact False.elim hq
 | _ => exact False.elim hq
end

def an7 (P : Program) (f : FuncId) (args : List V) (hin : Hp) (Φ : V → Hp → Prop) : Prop :=
 okF P f = true ∧ ∀ (w : World) (vs : Array Value) (m : Nat → Nat) (av : Nat → Prop),
   RH w m hin av → (∀ b, av b → b < w.heap.size) → GL w av → vs.size = args.length → (∀ i (hi : i < args.length), RV w m hin av true (vs.getD i Go.undef) args[i]) →
   Calls P f vs w fun e w' => ∃ v m' r hout, Φ r hout ∧ e = .returned v ∧ Ext (own m hin) w w' ∧ RH w' m' hout (avm av m' hout) ∧ RV w' m' hout (avm av m' hout) true v r ∧ Ids w.heap.size m m' hin hout

theorem an7.mono {P : Program} {f : FuncId} {args : List V} {hin : Hp} {Φ Ψ : V → Hp → Prop} (h : an7 P f args hin Φ) (hm : ∀ r hout, Φ r hout → Ψ r hout) : an7 P f args hin Ψ :=
 ⟨h.1, fun w vs m av h1 h2 h3 h4 h5 => (h.2 w vs m av h1 h2 h3 h4 h5).mono fun e w' ⟨v, m', r, hout, g0, g1, g2, g3, g4, g5⟩ => ⟨v, m', r, hout, hm r hout g0, g1, g2, g3, g4, g5⟩⟩

def aol (P : Program) (s : St) (dst : Option Tmp) (fv : V) (args : List V) (K : St → Prop) : Prop :=
 match fv with
 | .fn (.func g) a c => ∃ (sel : List Nat) (as' : List V) (Φ : V → Hp → Prop), sel.Nodup ∧ LeL ((a ++ args ++ c).map (ren (bg sel s.h false) 3)) as' ∧ an7 P g as' (bc sel s.h false) Φ ∧
     (bc sel s.h false).all Option.isSome = true ∧ ∀ r hout, Φ r hout → grown (bc sel s.h false) hout ∧ K (aaf s dst sel r hout)
 | _ => False

section
variable {P : Program} {w0 : World} {m0 : Nat → Nat} {h0 : Hp} {av0 : Nat → Prop} {s : St} {a : Act} {w : World} {m : Nat → Nat}

theorem aqy (I : Inv w0 m0 h0 av0 s a w m) {dst : Option Tmp} {fv : V} {u : Value} (hf : RV w m s.h (avm av0 m s.h) true u fv) {xs : Array Value} {xs' : List V} (hs : xs.size = xs'.length)
   (hx : ∀ i (hi : i < xs'.length), RV w m s.h (avm av0 m s.h) true (xs.getD i Go.undef) xs'[i]) {K : St → Prop} (hq : aol P s dst fv xs' K) :
   ∃ g first cap, u = .func (.func g) first cap ∧ okF P g = true ∧
     Calls P g (first ++ xs ++ cap) w fun e w' => ∃ v m' s', e = .returned v ∧ K s' ∧ Inv w0 m0 h0 av0 s' (a.put dst v) w' m' := by
 cases hf with
 | fn f first cap a' c' ha hc hra hrc =>
   cases f with
   | func g =>
     obtain ⟨sel, as', Φ, hnd, hle, hspec, hall, hk⟩ := hq
     obtain ⟨hokf, hspec⟩ := hspec
     obtain ⟨hlen, hget⟩ := hle.get
     have h1 := jb ha hs hra hx
     have h2 := jb h1.1 hc h1.2 hrc
     refine ⟨g, first, cap, rfl, hokf, ?_⟩
     have hsz : (first ++ xs ++ cap).size = as'.length := by rw [h2.1, ← hlen]; simp
     have H := I.rh
     have hplen : (bc sel s.h false).length = sel.length := by simp [bc]
     have hsel : ∀ (p id : Nat), sel[p]? = some id → ∃ c0, s.h[id]? = some (some c0) := by
       intro p id hp
       have hlt : p < (bc sel s.h false).length := by rw [hplen]; exact (List.getElem?_eq_some_iff.1 hp).1
       have h8 := List.all_eq_true.1 hall _ (List.getElem_mem hlt)
       obtain ⟨x, h9⟩ := Option.isSome_iff_exists.1 h8
       have h3 : (bc sel s.h false)[p]? = some (some x) := by rw [List.getElem?_eq_getElem hlt, h9]
       obtain ⟨id', c0, h4, h5, _⟩ := cn h3
       rw [hp] at h4; simp at h4; subst h4
       exact ⟨c0, h5⟩
     have hownL : ∀ b, own (fb sel m) (bc sel s.h false) b → own m s.h b := by
       rintro b ⟨p, c, h1, rfl⟩
       obtain ⟨id, c0, h2, h3, _⟩ := cn h1
       exact ⟨id, c0, h3, (c8 h2).symm⟩
     have hnl : ∀ (id : Nat) (c : List V), s.h[id]? = some (some c) → id ∉ sel → ¬ own (fb sel m) (bc sel s.h false) (m id) := by
       rintro id c hid hns ⟨p, c', h1, h2⟩
       obtain ⟨id', c0, h3, h4, _⟩ := cn h1
       rw [c8 h3] at h2
       have := H.inj id' id c0 c h4 hid h2
       subst this
       exact hns (List.mem_of_getElem? h3)
     -- the common part: what the callee sees
     have main : ∀ avL : Nat → Prop, Ren w w m (fb sel m) s.h (bc sel s.h false) (avm av0 m s.h) avL (bg sel s.h false) → (∀ b, own (fb sel m) (bc sel s.h false) b → avL b) → (∀ b, avL b → avm av0 m s.h b) →
         (∀ b, avm av0 m s.h b → avL b) →
         Calls P g (first ++ xs ++ cap) w fun e w' => ∃ v m' s', e = .returned v ∧ K s' ∧ Inv w0 m0 h0 av0 s' (a.put dst v) w' m' := by
       intro avL hR hL1 hL2 hL3
       have hRH : RH w (fb sel m) (bc sel s.h false) avL := by
         refine ⟨fun i j ci cj h1 h2 he => ?_, fun p c h1 => hL1 _ ⟨p, c, h1, rfl⟩, fun p c h1 => ?_⟩
         · obtain ⟨i', c0, h3, h4, _⟩ := cn h1
           obtain ⟨j', c1, h5, h6, _⟩ := cn h2
           rw [c8 h3, c8 h5] at he
           have := H.inj i' j' c0 c1 h4 h6 he
           subst this
           exact mr hnd h3 h5
         · obtain ⟨id, c0, h2, h3, rfl⟩ := cn h1
           rw [c8 h2]
           exact (H.blk id c0 h3).map rfl (j1 _ 2) (fun v x hx => hx.ren hR 2)
       have hargs : ∀ i (hi : i < as'.length), RV w (fb sel m) (bc sel s.h false) avL true ((first ++ xs ++ cap).getD i Go.undef) as'[i] := by
         intro i hi
         have hi2 : i < (a' ++ xs' ++ c').length := by have := hi; rw [← hlen] at this; simpa using this
         have hle := hget i (by simpa using hi2) hi
         rw [getD_map (f := ren (bg sel s.h false) 3) (l := a' ++ xs' ++ c') (by simpa using hi2)] at hle
         exact ((h2.2 i hi2).ren hR 3).le hle
       refine (hspec w (first ++ xs ++ cap) (fb sel m) avL hRH (fun b hb => I.acd (hL2 b hb)) (I.glw.mono hL2) hsz hargs).mono ?_
       rintro e w' ⟨v, m1, r, hout, hφ, rfl, hE, hH, hV, hI⟩
       obtain ⟨hgr, hk⟩ := hk r hout hφ
       -- what is avoided by the values that come back
       obtain ⟨avX, hX1, hXblk, hXres⟩ : ∃ avX : Nat → Prop, (∀ b, avm av0 m s.h b ∨ own m1 hout b → avX b) ∧
           (∀ id cs, hout[id]? = some (some cs) → pj w' m1 hout avX (m1 id) cs) ∧ RV w' m1 hout avX true v r := by
         exact ⟨avm avL m1 hout, fun b hb => hb.imp (hL3 b) (fun h => h), hH.blk, hV⟩
       have hm1 : ∀ (p : Nat) (c : List V), hout[p]? = some (some c) → (∃ id, sel[p]? = some id ∧ m1 p = m id) ∨ (sel.length ≤ p ∧ w.heap.size ≤ m1 p) := by
         intro p c hp
         rcases hI p c hp with ⟨h3, c0, h5, h6, h4⟩ | ⟨h3, h4⟩
         · obtain ⟨x, y, g1, g2, g3, _⟩ := ot hgr p h3
           rw [h5] at g1; simp at g1; subst g1
           rw [hp] at g2; simp at g2; subst g2
           have h4 := h4.resolve_right (fun h => by omega)
           rw [hplen] at h3
           exact .inl ⟨sel[p], by simp [h3], by rw [h4]; exact c8 (by simp [h3])⟩
         · rw [hplen] at h3
           exact .inr ⟨h3, h4⟩
       let n := s.h.length
       let f := gp sel n
       let h2 : Hp := nz s.h sel ((hout.take sel.length).map (oa f)) ++ (hout.drop sel.length).map (oa f)
       let m2 : Nat → Nat := fun id => if id < n then m id else m1 (id - n + sel.length)
       have hm2o : ∀ (id : Nat) (c : List V), s.h[id]? = some (some c) → m2 id = m id := fun id c hid => if_pos (dy hid)
       have hm2n : ∀ p, sel.length ≤ p → m2 (n + p - sel.length) = m1 p := fun p hp => by
         show (if n + p - sel.length < n then _ else m1 (n + p - sel.length - n + sel.length)) = _
         rw [if_neg (by omega)]; congr 1; omega
       have hpl : (nz s.h sel ((hout.take sel.length).map (oa f))).length = n := qt _ _ _
       have hlent : ∀ (p id : Nat), sel[p]? = some id → ∃ c c0, hout[p]? = some (some c) ∧ s.h[id]? = some (some c0) ∧ c0.length = c.length ∧ h2[id]? = some (some (c.map (ren f 2))) ∧ gr c = gr c0 := by
         intro p id hp
         have hlt : p < sel.length := (List.getElem?_eq_some_iff.1 hp).1
         obtain ⟨x, y, h3, h4, h5, hmb⟩ := ot hgr p (by rw [hplen]; exact hlt)
         obtain ⟨id', c0, h6, h7, rfl⟩ := cn h3
         rw [hp] at h6; simp at h6; subst h6
         refine ⟨y, c0, h4, h7, by simpa using h5, ?_, by rw [hmb, du]⟩
         show (nz s.h sel _ ++ _)[id]? = _
         rw [List.getElem?_append_left (by rw [hpl]; exact dy h7)]
         refine yy sel s.h _ p id _ hnd hp ?_ (dy h7)
         simp [List.getElem?_take_of_lt hlt, h4, oa]
       have hother : ∀ id : Nat, id < n → id ∉ sel → h2[id]? = s.h[id]? := by
         intro id hid hns
         show (nz s.h sel _ ++ _)[id]? = _
         rw [List.getElem?_append_left (by rw [hpl]; exact hid), o9 sel _ _ _ hns]
       have hnew : ∀ (p : Nat) (c : List V), sel.length ≤ p → hout[p]? = some (some c) → h2[n + p - sel.length]? = some (some (c.map (ren f 2))) := by
         intro p c hp h3
         show (nz s.h sel _ ++ _)[n + p - sel.length]? = _
         rw [List.getElem?_append_right (by rw [hpl]; omega), hpl]
         have : sel.length + (n + p - sel.length - n) = p := by omega
         simp [this, h3, oa]
       have hcase : ∀ (j : Nat) (c : List V), h2[j]? = some (some c) → (j ∉ sel ∧ s.h[j]? = some (some c)) ∨ (∃ p c1, sel[p]? = some j ∧ hout[p]? = some (some c1) ∧ c = c1.map (ren f 2) ∧ m2 j = m1 p) ∨
           (∃ p c1, sel.length ≤ p ∧ j = n + p - sel.length ∧ hout[p]? = some (some c1) ∧ c = c1.map (ren f 2) ∧ m2 j = m1 p ∧ w.heap.size ≤ m1 p) := by
         intro j c hj
         by_cases hlt : j < n
         · by_cases hs : j ∈ sel
           · obtain ⟨p, hp⟩ := List.getElem?_of_mem hs
             obtain ⟨c1, c0, h3, h4, _, h5, _⟩ := hlent p j hp
             rw [h5] at hj; simp at hj
             refine .inr (.inl ⟨p, c1, hp, h3, hj.symm, ?_⟩)
             rcases hm1 p c1 h3 with ⟨id, h6, h7⟩ | ⟨h6, _⟩
             · rw [hp] at h6; simp at h6; subst h6
               rw [h7]; exact hm2o _ _ h4
             · have := (List.getElem?_eq_some_iff.1 hp).1; omega
           · rw [hother j hlt hs] at hj
             exact .inl ⟨hs, hj⟩
         · have hj' := hj
           change (nz s.h sel _ ++ _)[j]? = _ at hj'
           rw [List.getElem?_append_right (by rw [hpl]; omega), hpl] at hj'
           simp only [List.getElem?_map, List.getElem?_drop] at hj'
           cases h3 : hout[sel.length + (j - n)]? with
           | none => simp [h3] at hj'
           | some b =>
             cases b with
             | none => simp [h3, oa] at hj'
             | some c1 =>
               simp [h3, oa] at hj'
               have hp : sel.length ≤ sel.length + (j - n) := by omega
               have e : j = n + (sel.length + (j - n)) - sel.length := by omega
               refine .inr (.inr ⟨sel.length + (j - n), c1, hp, e, h3, hj'.symm, ?_, ?_⟩)
               · have := hm2n _ hp; rw [← e] at this; exact this
               · rcases hm1 _ c1 h3 with ⟨id, h6, _⟩ | ⟨_, h6⟩
                 · have := (List.getElem?_eq_some_iff.1 h6).1; omega
                 · exact h6
       have hown2 : ∀ b, own m2 h2 b → own m s.h b ∨ own m1 hout b := by
         rintro b ⟨j, c, h3, rfl⟩
         rcases hcase j c h3 with ⟨_, h4⟩ | ⟨p, c1, h4, h5, _, h6⟩ | ⟨p, c1, _, _, h5, _, h6, _⟩
         · exact .inl ⟨j, c, h4, (hm2o j c h4).symm⟩
         · exact .inr ⟨p, c1, h5, h6.symm⟩
         · exact .inr ⟨p, c1, h5, h6.symm⟩
       have hown1 : ∀ b, own m1 hout b → b < w.heap.size → own m s.h b := by
         rintro b ⟨p, c, h3, rfl⟩ hb
         rcases hm1 p c h3 with ⟨id, h4, h5⟩ | ⟨_, h5⟩
         · obtain ⟨c0, h6⟩ := hsel p id h4
           exact ⟨id, c0, h6, h5.symm⟩
         · omega
       have hrow : ∀ k, k < w.heap.size → cz w k ≤ cz w' k := fun k hk => hE.row k hk
       have hstep : ∀ {o : Bool} {v : Value} {x : V}, RV w m s.h (avm av0 m s.h) o v x → RV w' m2 h2 (avm av0 m2 h2) o v x :=
         fun hx => hx.step (fun b off v hb hc => ⟨fun h => by
             rcases h with h | h
             · exact hb (.inl h)
             · rcases hown2 b h with h3 | h3
               · exact hb (.inr h3)
               · exact hb (.inr (hown1 b h3 (World.block_lt_of_cell? w _ hc))), hE.cell hc (fun h => hb (.inr (hownL b h)))⟩)
           (fun id c hid => by
             have hrw := hrow _ (H.lt hid)
             by_cases hs : id ∈ sel
             · obtain ⟨p, hp⟩ := List.getElem?_of_mem hs
               obtain ⟨c1, c0, h3, h4, h5, h6, h7⟩ := hlent p id hp
               rw [hid] at h4; simp at h4; subst h4
               exact ⟨_, h6, by simp [h5], hm2o id _ hid, hrw, by rw [du, h7]⟩
             · exact ⟨c, by rw [hother id (dy hid) hs]; exact hid, Nat.le_refl _, hm2o id c hid, hrw, rfl⟩)
       have hR2 : Ren w' w' m1 m2 hout h2 avX (avm av0 m2 h2) f := by
         refine ⟨fun b off v hb hc => ⟨fun h => hb (hX1 b ?_), hc⟩, fun p c j hp hf => ?_, fun p c c' hp hf => ?_⟩
         · rcases h with h | h
           · exact .inl (.inl h)
           · rcases hown2 b h with h3 | h3
             · exact .inl (.inr h3)
             · exact .inr h3
         · rcases hm1 p c hp with ⟨id, h3, h4⟩ | ⟨h3, h4⟩
           · have : f p = .to id := by show gp sel n p = _; simp [gp, h3]
             rw [this] at hf; simp at hf; subst hf
             obtain ⟨c1, c0, h5, h6, h7, h8, h9⟩ := hlent p id h3
             rw [hp] at h5; simp at h5; subst h5
             exact ⟨_, h8, by simp, by rw [hm2o id c0 h6, h4], Nat.le_refl _, du _ _ _⟩
           · have h5 : sel[p]? = none := List.getElem?_eq_none h3
             have : f p = .to (n + p - sel.length) := by show gp sel n p = _; simp [gp, h5]
             rw [this] at hf; simp at hf; subst hf
             exact ⟨_, hnew p c h3 hp, by simp, hm2n p h3, Nat.le_refl _, du _ _ _⟩
         · have : f p = .frz c' := hf
           change gp sel n p = _ at this
           unfold gp at this
           split at this <;> cases this
       refine ⟨v, m2, _, rfl, hk, ?_⟩
       have J : Inv w0 m0 h0 av0 { s with h := h2 } a w' m2 := by
         refine ⟨⟨?_, fun j c h3 => .inr ⟨j, c, h3, rfl⟩, ?_⟩, I.size, fun i hi => hstep (I.slots i hi), I.defers, I.ext.trans' hE ?_, ?_, I.lt, I.lent, I.gl, I.k, ?_⟩
         · -- the blocks are apart
           have key : ∀ (j : Nat) (c : List V), h2[j]? = some (some c) → (∃ c0, s.h[j]? = some (some c0) ∧ m2 j = m j) ∨ ∃ p c1, sel.length ≤ p ∧ j = n + p - sel.length ∧ hout[p]? = some (some c1) ∧ m2 j = m1 p ∧ w.heap.size ≤ m1 p := by
             intro j c hj
             rcases hcase j c hj with ⟨_, h4⟩ | ⟨p, c1, h4, h5, _, h6⟩ | ⟨p, c1, h3, h4, h5, _, h6, h7⟩
             · exact .inl ⟨c, h4, hm2o j c h4⟩
             · obtain ⟨c0, h7⟩ := hsel p j h4
               exact .inl ⟨c0, h7, hm2o j c0 h7⟩
             · exact .inr ⟨p, c1, h3, h4, h5, h6, h7⟩
           intro i j ci cj hi hj he
           rcases key i ci hi with ⟨c1, h3, h4⟩ | ⟨p, c1, h3, h4, h5, h6, h7⟩ <;> rcases key j cj hj with ⟨d1, g3, g4⟩ | ⟨q, d1, g3, g4, g5, g6, g7⟩
           · rw [h4, g4] at he
             exact H.inj i j c1 d1 h3 g3 he
           · rw [h4, g6] at he
             have := H.lt h3; omega
           · rw [h6, g4] at he
             have := H.lt g3; omega
           · rw [h6, g6] at he
             have := hH.inj p q c1 d1 h5 g5 he
             omega
         · intro j c hj
           rcases hcase j c hj with ⟨h3, h4⟩ | ⟨p, c1, h4, h5, rfl, h6⟩ | ⟨p, c1, h3, h4, h5, rfl, h6, h7⟩
           · rw [hm2o j c h4]
             exact (H.blk j c h4).step (hE.block _ (H.lt h4) (hnl j c h4 h3)) (fun v x => hstep)
           · rw [h6]
             exact (hXblk p c1 h5).map rfl (j1 _ 2) (fun v x hx => hx.ren hR2 2)
           · rw [h6]
             exact (hXblk p c1 h5).map rfl (j1 _ 2) (fun v x hx => hx.ren hR2 2)
         · intro b hb ho
           obtain ⟨id, c, h3, h4⟩ := hownL b ho
           rcases I.ids id c h3 with ⟨h5, c0, h7, _, h6 | ⟨_, h6⟩⟩ | ⟨h5, h6⟩
           · exact ⟨id, c0, h7, by rw [← h6]; exact h4⟩
           · omega
           · omega
         · intro j c hj
           rcases hcase j c hj with ⟨h3, h4⟩ | ⟨p, c1, h4, h5, rfl, h6⟩ | ⟨p, c1, h3, h4, h5, rfl, h6, h7⟩
           · rw [hm2o j c h4]; exact I.ids j c h4
           · obtain ⟨c2, c0, g1, h7, g2, _, _⟩ := hlent p j h4
             rw [h5] at g1; simp at g1; subst g1
             rw [hm2o j c0 h7, List.length_map, ← g2]; exact I.ids j c0 h7
           · rw [h6]
             exact .inr ⟨by have := I.len; omega, Nat.le_trans I.ext.size h7⟩
         · show h0.length ≤ h2.length
           have : n ≤ h2.length := by
             show n ≤ (nz s.h sel _ ++ _).length
             rw [List.length_append, hpl]; omega
           exact Nat.le_trans I.len this
       exact J.put (hXres.ren hR2 3)
     exact main (avm av0 m s.h) (r6 H (fun b hb => hb) (fun h => by cases h)) (fun b hb => .inr (hownL b hb)) (fun b hb => hb) (fun b hb => hb)
   | _ => exact False.elim hq
 | _ => exact False.elim hq
end

def s9 (mv : List Nat) (j : Nat) : R := if wx mv j then .kill else .to j
def w6 (mv : List Nat) (l : List V) : List V := l.map (ren (s9 mv) 3)
def ac9 (mv : List Nat) (b : Option (List V)) : Option (List V) := b.map (List.map (ren (s9 mv) 2))
def vx (mv : List Nat) : List Nat → Hp → Hp → Prop
 | _, [], _ => True
 | id :: sel, some a :: l, some b :: l' => ((a.length = b.length ∨ (wx mv id = true ∧ a.length ≤ b.length)) ∧ gr b = gr a) ∧ vx mv sel l l'
 | _, _, _ => False
theorem xh {mv : List Nat} : ∀ {sel : List Nat} {l l' : Hp}, vx mv sel l l' → ∀ p id, p < l.length → sel[p]? = some id → ∃ a b, l[p]? = some (some a) ∧ l'[p]? = some (some b) ∧ (a.length = b.length ∨ (wx mv id = true ∧ a.length ≤ b.length)) ∧ gr b = gr a
 | _, [], _, _, p, id, hp, _ => by simp at hp
 | i :: sel, some a :: l, some b :: l', h, p, id, hp, hs => by
   cases p with
   | zero =>
     simp at hs; subst hs
     exact ⟨a, b, rfl, rfl, h.1.1, h.1.2⟩
   | succ p => simpa using xh h.2 p id (by simpa using hp) (by simpa using hs)
 | [], b :: _, l', h, _, _, _, _ => by cases b <;> simp [vx] at h
 | _ :: _, none :: _, l', h, _, _, _, _ => by simp [vx] at h
 | _ :: _, some _ :: _, [], h, _, _, _, _ => by simp [vx] at h
 | _ :: _, some _ :: _, none :: _, h, _, _, _, _ => by simp [vx] at h

def ahj (s : St) (dst : Option Tmp) (mv sel : List Nat) (r : V) (hout : Hp) : St :=
 aaf { s with t := w6 mv s.t, h := s.h.map (ac9 mv) } dst sel r hout

def ao6 (P : Program) (s : St) (dst : Option Tmp) (fv : V) (args : List V) (K : St → Prop) : Prop :=
 match fv with
 | .fn (.func g) a c => ∃ (mv sel : List Nat) (fz : Bool) (as' : List V) (r : V) (hout : Hp), sel.Nodup ∧ LeL ((a ++ args ++ c).map (ren (bg sel s.h fz) 3)) as' ∧ Ctr P g as' (bc sel s.h fz) r hout ∧
     vx mv sel (bc sel s.h fz) hout ∧ (fz = false ∨ uh r ∧ lg hout) ∧ K (ahj s dst mv sel r hout)
 | _ => False

section
variable {P : Program} {w0 : World} {m0 : Nat → Nat} {h0 : Hp} {av0 : Nat → Prop} {s : St} {a : Act} {w : World} {m : Nat → Nat}

theorem aqx (I : Inv w0 m0 h0 av0 s a w m) {dst : Option Tmp} {fv : V} {u : Value} (hf : RV w m s.h (avm av0 m s.h) true u fv) {xs : Array Value} {xs' : List V} (hs : xs.size = xs'.length)
   (hx : ∀ i (hi : i < xs'.length), RV w m s.h (avm av0 m s.h) true (xs.getD i Go.undef) xs'[i]) {K : St → Prop} (hq : ao6 P s dst fv xs' K) :
   ∃ g first cap s', u = .func (.func g) first cap ∧ okF P g = true ∧ K s' ∧
     Calls P g (first ++ xs ++ cap) w fun e w' => ∃ v m', e = .returned v ∧ Inv w0 m0 h0 av0 s' (a.put dst v) w' m' := by
 cases hf with
 | fn f first cap a' c' ha hc hra hrc =>
   cases f with
   | func g =>
     obtain ⟨mv, sel, fz, as', r, hout, hnd, hle, hspec, hgr, hro, hk⟩ := hq
     obtain ⟨hokf, hspec⟩ := hspec
     obtain ⟨hlen, hget⟩ := hle.get
     have h1 := jb ha hs hra hx
     have h2 := jb h1.1 hc h1.2 hrc
     refine ⟨g, first, cap, _, rfl, hokf, hk, ?_⟩
     have hsz : (first ++ xs ++ cap).size = as'.length := by rw [h2.1, ← hlen]; simp
     have H := I.rh
     have hplen : (bc sel s.h fz).length = sel.length := by simp [bc]
     have hsel : ∀ (p id : Nat), sel[p]? = some id → ∃ c0, s.h[id]? = some (some c0) := by
       intro p id hp
       have hlt : p < (bc sel s.h fz).length := by rw [hplen]; exact (List.getElem?_eq_some_iff.1 hp).1
       obtain ⟨x, y, h3, _⟩ := xh hgr p id hlt hp
       obtain ⟨id', c0, h4, h5, _⟩ := cn h3
       rw [hp] at h4; simp at h4; subst h4
       exact ⟨c0, h5⟩
     have hownL : ∀ b, own (fb sel m) (bc sel s.h fz) b → own m s.h b := by
       rintro b ⟨p, c, h1, rfl⟩
       obtain ⟨id, c0, h2, h3, _⟩ := cn h1
       exact ⟨id, c0, h3, (c8 h2).symm⟩
     have hnl : ∀ (id : Nat) (c : List V), s.h[id]? = some (some c) → id ∉ sel → ¬ own (fb sel m) (bc sel s.h fz) (m id) := by
       rintro id c hid hns ⟨p, c', h1, h2⟩
       obtain ⟨id', c0, h3, h4, _⟩ := cn h1
       rw [c8 h3] at h2
       have := H.inj id' id c0 c h4 hid h2
       subst this
       exact hns (List.mem_of_getElem? h3)
     -- the common part: what the callee sees
     have main : ∀ avL : Nat → Prop, Ren w w m (fb sel m) s.h (bc sel s.h fz) (avm av0 m s.h) avL (bg sel s.h fz) → (∀ b, own (fb sel m) (bc sel s.h fz) b → avL b) → (∀ b, avL b → avm av0 m s.h b) →
         ((∀ b, avm av0 m s.h b → avL b) ∨ uh r ∧ lg hout) →
         Calls P g (first ++ xs ++ cap) w fun e w' => ∃ v m', e = .returned v ∧ Inv w0 m0 h0 av0 (ahj s dst mv sel r hout) (a.put dst v) w' m' := by
       intro avL hR hL1 hL2 hL3
       have hRH : RH w (fb sel m) (bc sel s.h fz) avL := by
         refine ⟨fun i j ci cj h1 h2 he => ?_, fun p c h1 => hL1 _ ⟨p, c, h1, rfl⟩, fun p c h1 => ?_⟩
         · obtain ⟨i', c0, h3, h4, _⟩ := cn h1
           obtain ⟨j', c1, h5, h6, _⟩ := cn h2
           rw [c8 h3, c8 h5] at he
           have := H.inj i' j' c0 c1 h4 h6 he
           subst this
           exact mr hnd h3 h5
         · obtain ⟨id, c0, h2, h3, rfl⟩ := cn h1
           rw [c8 h2]
           exact (H.blk id c0 h3).map rfl (j1 _ 2) (fun v x hx => hx.ren hR 2)
       have hargs : ∀ i (hi : i < as'.length), RV w (fb sel m) (bc sel s.h fz) avL true ((first ++ xs ++ cap).getD i Go.undef) as'[i] := by
         intro i hi
         have hi2 : i < (a' ++ xs' ++ c').length := by have := hi; rw [← hlen] at this; simpa using this
         have hle := hget i (by simpa using hi2) hi
         rw [getD_map (f := ren (bg sel s.h fz) 3) (l := a' ++ xs' ++ c') (by simpa using hi2)] at hle
         exact ((h2.2 i hi2).ren hR 3).le hle
       refine (hspec w (first ++ xs ++ cap) (fb sel m) avL hRH (fun b hb => I.acd (hL2 b hb)) (I.glw.mono hL2) hsz hargs).mono ?_
       rintro e w' ⟨v, m1, rfl, hE, hH, hV, hI⟩
       -- what is avoided by the values that come back
       obtain ⟨avX, hX1, hXblk, hXres⟩ : ∃ avX : Nat → Prop, (∀ b, avm av0 m s.h b ∨ own m1 hout b → avX b) ∧
           (∀ id cs, hout[id]? = some (some cs) → pj w' m1 hout avX (m1 id) cs) ∧ RV w' m1 hout avX true v r := by
         rcases hL3 with hL3 | ⟨hn1, hn2⟩
         · exact ⟨avm avL m1 hout, fun b hb => hb.imp (hL3 b) (fun h => h), hH.blk, hV⟩
         · refine ⟨fun _ => True, fun b _ => trivial, fun id cs hid => ?_, hn1 _ _ _ _ _ hV⟩
           rcases hH.blk id cs hid with ⟨C, T, fr, h3, hfr, h4, h5⟩ | h3
           · exact .inl ⟨C, T, fr, h3, hfr, h4, fun i hi => hn2 id cs hid _ (List.getElem_mem _) _ _ _ _ _ (h5 i hi)⟩
           · exact .inr h3
       have hm1 : ∀ (p : Nat) (c : List V), hout[p]? = some (some c) → (∃ id c0, sel[p]? = some id ∧ s.h[id]? = some (some c0) ∧ c0.length ≤ c.length ∧ (m1 p = m id ∨ (c0.length < c.length ∧ w.heap.size ≤ m1 p))) ∨ (sel.length ≤ p ∧ w.heap.size ≤ m1 p) := by
         intro p c hp
         rcases hI p c hp with ⟨h3, cp, h5, h6, h4⟩ | ⟨h3, h4⟩
         · obtain ⟨id, c0, g1, g2, rfl⟩ := cn h5
           rw [c8 g1] at h4
           rw [List.length_map] at h4 h6
           exact .inl ⟨id, c0, g1, g2, h6, h4⟩
         · rw [hplen] at h3
           exact .inr ⟨h3, h4⟩
       obtain ⟨hq, hqe⟩ : ∃ hq : Hp, hq = s.h.map (ac9 mv) := ⟨_, rfl⟩
       have hql : hq.length = s.h.length := by rw [hqe, List.length_map]
       obtain ⟨n, hn⟩ : ∃ n, n = hq.length := ⟨_, rfl⟩
       have hns : n = s.h.length := hn.trans hql
       obtain ⟨f, hfe⟩ : ∃ f, f = gp sel n := ⟨_, rfl⟩
       have hqget : ∀ (id : Nat) (c : List V), hq[id]? = some (some c) → ∃ c0, s.h[id]? = some (some c0) ∧ c = c0.map (ren (s9 mv) 2) := by
         intro id c h
         rw [hqe, List.getElem?_map] at h
         cases h2 : s.h[id]? with
         | none => simp [h2] at h
         | some b =>
           cases b with
           | none => simp [h2, ac9] at h
           | some c0 => simp [h2, ac9] at h; exact ⟨c0, rfl, h.symm⟩
       have hqput : ∀ (id : Nat) (c : List V), s.h[id]? = some (some c) → hq[id]? = some (some (c.map (ren (s9 mv) 2))) := by
         intro id c h
         rw [hqe, List.getElem?_map, h]; rfl
       obtain ⟨h2, hh2⟩ : ∃ h2 : Hp, h2 = nz hq sel ((hout.take sel.length).map (oa f)) ++ (hout.drop sel.length).map (oa f) := ⟨_, rfl⟩
       obtain ⟨m2, hm2⟩ : ∃ m2 : Nat → Nat, m2 = fun id => if id < n then (match posOf sel id with | some p => m1 p | none => m id) else m1 (id - n + sel.length) := ⟨_, rfl⟩
       have hm2l : ∀ (p id : Nat), sel[p]? = some id → m2 id = m1 p := fun p id hp => by
         obtain ⟨c0, h5⟩ := hsel p id hp
         have := dy h5
         rw [hm2]
         simp only [ani hnd hp]
         rw [if_pos (by omega)]
       have hm2o : ∀ (id : Nat) (c : List V), s.h[id]? = some (some c) → id ∉ sel → m2 id = m id := fun id c hid hns' => by
         have := dy hid
         have hp : posOf sel id = none := by
           cases hp : posOf sel id with
           | none => rfl
           | some p => exact absurd (List.mem_of_getElem? (sq hp)) hns'
         rw [hm2]
         simp only [hp]
         rw [if_pos (by omega)]
       have hm2n : ∀ p, sel.length ≤ p → m2 (n + p - sel.length) = m1 p := fun p hp => by
         rw [hm2]
         simp only []
         rw [if_neg (by omega)]; congr 1; omega
       have hpl : (nz hq sel ((hout.take sel.length).map (oa f))).length = n := by rw [qt, hn]
       have hlent : ∀ (p id : Nat), sel[p]? = some id → ∃ c c0, hout[p]? = some (some c) ∧ s.h[id]? = some (some c0) ∧ (c0.length = c.length ∨ (wx mv id = true ∧ c0.length ≤ c.length)) ∧ h2[id]? = some (some (c.map (ren f 2))) ∧ gr c = gr c0 := by
         intro p id hp
         have hlt : p < sel.length := (List.getElem?_eq_some_iff.1 hp).1
         obtain ⟨x, y, h3, h4, h5, hmb⟩ := xh hgr p id (by rw [hplen]; exact hlt) hp
         obtain ⟨id', c0, h6, h7, rfl⟩ := cn h3
         rw [hp] at h6; simp at h6; subst h6
         have := dy h7
         refine ⟨y, c0, h4, h7, by simpa using h5, ?_, by rw [hmb, du]⟩
         rw [hh2, List.getElem?_append_left (by rw [hpl]; omega)]
         refine yy sel hq _ p id _ hnd hp ?_ (by omega)
         simp [List.getElem?_take_of_lt hlt, h4, oa]
       have hother : ∀ id : Nat, id < n → id ∉ sel → h2[id]? = hq[id]? := by
         intro id hid hns
         rw [hh2, List.getElem?_append_left (by rw [hpl]; exact hid), o9 sel _ _ _ hns]
       have hnew : ∀ (p : Nat) (c : List V), sel.length ≤ p → hout[p]? = some (some c) → h2[n + p - sel.length]? = some (some (c.map (ren f 2))) := by
         intro p c hp h3
         rw [hh2, List.getElem?_append_right (by rw [hpl]; omega), hpl]
         have : sel.length + (n + p - sel.length - n) = p := by omega
         simp [this, h3, oa]
       have hcase : ∀ (j : Nat) (c : List V), h2[j]? = some (some c) → (j ∉ sel ∧ ∃ c0, s.h[j]? = some (some c0) ∧ c = c0.map (ren (s9 mv) 2)) ∨ (∃ p c1, sel[p]? = some j ∧ hout[p]? = some (some c1) ∧ c = c1.map (ren f 2) ∧ m2 j = m1 p) ∨
           (∃ p c1, sel.length ≤ p ∧ j = n + p - sel.length ∧ hout[p]? = some (some c1) ∧ c = c1.map (ren f 2) ∧ m2 j = m1 p ∧ w.heap.size ≤ m1 p) := by
         intro j c hj
         by_cases hlt : j < n
         · by_cases hs : j ∈ sel
           · obtain ⟨p, hp⟩ := List.getElem?_of_mem hs
             obtain ⟨c1, c0, h3, h4, _, h5, _⟩ := hlent p j hp
             rw [h5] at hj; simp at hj
             exact .inr (.inl ⟨p, c1, hp, h3, hj.symm, hm2l p j hp⟩)
           · rw [hother j hlt hs] at hj
             exact .inl ⟨hs, hqget j c hj⟩
         · have hj' := hj
           rw [hh2, List.getElem?_append_right (by rw [hpl]; omega), hpl] at hj'
           simp only [List.getElem?_map, List.getElem?_drop] at hj'
           cases h3 : hout[sel.length + (j - n)]? with
           | none => simp [h3] at hj'
           | some b =>
             cases b with
             | none => simp [h3, oa] at hj'
             | some c1 =>
               simp [h3, oa] at hj'
               have hp : sel.length ≤ sel.length + (j - n) := by omega
               have e : j = n + (sel.length + (j - n)) - sel.length := by omega
               refine .inr (.inr ⟨sel.length + (j - n), c1, hp, e, h3, hj'.symm, ?_, ?_⟩)
               · have := hm2n _ hp; rw [← e] at this; exact this
               · rcases hm1 _ c1 h3 with ⟨id, _, h6, _⟩ | ⟨_, h6⟩
                 · have := (List.getElem?_eq_some_iff.1 h6).1; omega
                 · exact h6
       have hown2 : ∀ b, own m2 h2 b → own m s.h b ∨ own m1 hout b := by
         rintro b ⟨j, c, h3, rfl⟩
         rcases hcase j c h3 with ⟨h4, c0, h5, _⟩ | ⟨p, c1, h4, h5, _, h6⟩ | ⟨p, c1, _, _, h5, _, h6, _⟩
         · exact .inl ⟨j, c0, h5, (hm2o j c0 h5 h4).symm⟩
         · exact .inr ⟨p, c1, h5, h6.symm⟩
         · exact .inr ⟨p, c1, h5, h6.symm⟩
       have hown1 : ∀ b, own m1 hout b → b < w.heap.size → own m s.h b := by
         rintro b ⟨p, c, h3, rfl⟩ hb
         rcases hm1 p c h3 with ⟨id, c0, _, h6, _, h5 | ⟨_, h5⟩⟩ | ⟨_, h5⟩
         · exact ⟨id, c0, h6, h5.symm⟩
         · omega
         · omega
       have hrow : ∀ k, k < w.heap.size → cz w k ≤ cz w' k := fun k hk => hE.row k hk
       have hRk : Ren w w' m m2 s.h h2 (avm av0 m s.h) (avm av0 m2 h2) (s9 mv) := by
         refine ⟨fun b off v hb hc => ⟨fun h => ?_, hE.cell hc (fun h => hb (.inr (hownL b h)))⟩, fun id c j hid hf => ?_, fun id c c' hid hf => ?_⟩
         · rcases h with h | h
           · exact hb (.inl h)
           · rcases hown2 b h with h3 | h3
             · exact hb (.inr h3)
             · exact hb (.inr (hown1 b h3 (World.block_lt_of_cell? w _ hc)))
         · unfold s9 at hf
           split at hf
           · cases hf
           · rename_i hmv
             simp at hf; subst hf
             have hrw := hrow _ (H.lt hid)
             have hidl := dy hid
             by_cases hs : id ∈ sel
             · obtain ⟨p, hp⟩ := List.getElem?_of_mem hs
               obtain ⟨c1, c0, h3, h4, h5, h6, h7⟩ := hlent p id hp
               rw [hid] at h4; simp at h4; subst h4
               have h5 := h5.resolve_right (fun h => hmv h.1)
               refine ⟨_, h6, by simp [h5], ?_, hrw, by rw [du, h7]⟩
               rw [hm2l p id hp]
               rcases hm1 p c1 h3 with ⟨id', c0', g1, g2, _, g4 | ⟨g4, _⟩⟩ | ⟨g1, _⟩
               · rw [hp] at g1; simp at g1; subst g1
                 exact g4
               · rw [hp] at g1; simp at g1; subst g1
                 rw [hid] at g2; simp at g2; subst g2
                 omega
               · have := (List.getElem?_eq_some_iff.1 hp).1; omega
             · exact ⟨_, by rw [hother id (by omega) hs]; exact hqput id c hid, by simp, hm2o id c hid hs, hrw, du _ _ _⟩
         · unfold s9 at hf
           split at hf <;> cases hf
       have hR2 : Ren w' w' m1 m2 hout h2 avX (avm av0 m2 h2) f := by
         refine ⟨fun b off v hb hc => ⟨fun h => hb (hX1 b ?_), hc⟩, fun p c j hp hf => ?_, fun p c c' hp hf => ?_⟩
         · rcases h with h | h
           · exact .inl (.inl h)
           · rcases hown2 b h with h3 | h3
             · exact .inl (.inr h3)
             · exact .inr h3
         · rcases hm1 p c hp with ⟨id, c0, h3, _⟩ | ⟨h3, h4⟩
           · have : f p = .to id := by rw [hfe]; simp [gp, h3]
             rw [this] at hf; simp at hf; subst hf
             obtain ⟨c1, c0, h5, h6, h7, h8, h9⟩ := hlent p id h3
             rw [hp] at h5; simp at h5; subst h5
             exact ⟨_, h8, by simp, hm2l p id h3, Nat.le_refl _, du _ _ _⟩
           · have h5 : sel[p]? = none := List.getElem?_eq_none h3
             have : f p = .to (n + p - sel.length) := by rw [hfe]; simp [gp, h5]
             rw [this] at hf; simp at hf; subst hf
             exact ⟨_, hnew p c h3 hp, by simp, hm2n p h3, Nat.le_refl _, du _ _ _⟩
         · rw [hfe] at hf
           unfold gp at hf
           split at hf <;> cases hf
       refine ⟨v, m2, rfl, ?_⟩
       have J : Inv w0 m0 h0 av0 { s with t := w6 mv s.t, h := h2 } a w' m2 := by
         refine ⟨⟨?_, fun j c h3 => .inr ⟨j, c, h3, rfl⟩, ?_⟩, by simpa [w6] using I.size, fun i hi => ?_, I.defers, I.ext.trans' hE ?_, ?_, I.lt, I.lent, I.gl, I.k, ?_⟩
         · -- the blocks are apart
           have key : ∀ (j : Nat) (c : List V), h2[j]? = some (some c) → (j ∉ sel ∧ ∃ c0, s.h[j]? = some (some c0) ∧ m2 j = m j) ∨ ∃ p c1, (sel[p]? = some j ∨ (sel.length ≤ p ∧ j = n + p - sel.length)) ∧ hout[p]? = some (some c1) ∧ m2 j = m1 p := by
             intro j c hj
             rcases hcase j c hj with ⟨h3, c0, h4, _⟩ | ⟨p, c1, h4, h5, _, h6⟩ | ⟨p, c1, h3, h4, h5, _, h6, h7⟩
             · exact .inl ⟨h3, c0, h4, hm2o j c0 h4 h3⟩
             · exact .inr ⟨p, c1, .inl h4, h5, h6⟩
             · exact .inr ⟨p, c1, .inr ⟨h3, h4⟩, h5, h6⟩
           have apart : ∀ (i j p : Nat) (ci c1 : List V), i ∉ sel → s.h[i]? = some (some ci) → hout[p]? = some (some c1) → m i ≠ m1 p := by
             intro i j p ci c1 hi h3 h4 he
             have hlt := H.lt h3
             rcases hm1 p c1 h4 with ⟨id, c0, g1, g2, _, g3 | ⟨_, g3⟩⟩ | ⟨_, g3⟩
             · rw [g3] at he
               have := H.inj i id ci c0 h3 g2 he
               subst this
               exact hi (List.mem_of_getElem? g1)
             · omega
             · omega
           intro i j ci cj hi hj he
           rcases key i ci hi with ⟨h3, c1, h4, h5⟩ | ⟨p, c1, h3, h4, h5⟩ <;> rcases key j cj hj with ⟨g3, d1, g4, g5⟩ | ⟨q, d1, g3, g4, g5⟩
           · rw [h5, g5] at he
             exact H.inj i j c1 d1 h4 g4 he
           · rw [h5, g5] at he
             exact absurd he (apart i j q c1 d1 h3 h4 g4)
           · rw [h5, g5] at he
             exact absurd he.symm (apart j i p d1 c1 g3 g4 h4)
           · rw [h5, g5] at he
             have := hH.inj p q c1 d1 h4 g4 he
             subst this
             rcases h3 with h3 | ⟨h3, h6⟩ <;> rcases g3 with g3 | ⟨g3, g6⟩
             · rw [h3] at g3; simpa using g3
             · have := (List.getElem?_eq_some_iff.1 h3).1; omega
             · have := (List.getElem?_eq_some_iff.1 g3).1; omega
             · omega
         · intro j c hj
           rcases hcase j c hj with ⟨h3, c0, h4, rfl⟩ | ⟨p, c1, h4, h5, rfl, h6⟩ | ⟨p, c1, h3, h4, h5, rfl, h6, h7⟩
           · rw [hm2o j c0 h4 h3]
             exact (H.blk j c0 h4).map (hE.block _ (H.lt h4) (hnl j c0 h4 h3)) (j1 _ 2) (fun v x hx => hx.ren hRk 2)
           · rw [h6]
             exact (hXblk p c1 h5).map rfl (j1 _ 2) (fun v x hx => hx.ren hR2 2)
           · rw [h6]
             exact (hXblk p c1 h5).map rfl (j1 _ 2) (fun v x hx => hx.ren hR2 2)
         · simp only [w6, List.getElem_map]
           exact (I.slots i (by simpa [w6] using hi)).ren hRk 3
         · intro b hb ho
           obtain ⟨id, c, h3, h4⟩ := hownL b ho
           rcases I.ids id c h3 with ⟨h5, c0, h7, _, h6 | ⟨_, h6⟩⟩ | ⟨h5, h6⟩
           · exact ⟨id, c0, h7, by rw [← h6]; exact h4⟩
           · omega
           · omega
         · intro j c hj
           rcases hcase j c hj with ⟨h3, c0, h4, rfl⟩ | ⟨p, c1, h4, h5, rfl, h6⟩ | ⟨p, c1, h3, h4, h5, rfl, h6, h7⟩
           · rw [hm2o j c0 h4 h3, List.length_map]; exact I.ids j c0 h4
           · rw [h6, List.length_map]
             have hlt := (List.getElem?_eq_some_iff.1 h4).1
             have hsize := I.ext.size
             rcases hm1 p c1 h5 with ⟨id, c0, g1, g2, g3, g4⟩ | ⟨g1, _⟩
             · rw [h4] at g1; simp at g1; subst g1
               rcases I.ids j c0 g2 with ⟨q1, c00, q2, q3, q4⟩ | ⟨q1, q2⟩
               · refine .inl ⟨q1, c00, q2, by omega, ?_⟩
                 rcases g4 with g4 | ⟨g4, g5⟩
                 · rcases q4 with q4 | ⟨q4, q5⟩
                   · exact .inl (g4.trans q4)
                   · exact .inr ⟨by omega, by omega⟩
                 · exact .inr ⟨by omega, by omega⟩
               · refine .inr ⟨q1, ?_⟩
                 rcases g4 with g4 | ⟨g4, g5⟩ <;> omega
             · omega
           · rw [h6]
             exact .inr ⟨by have := I.len; omega, Nat.le_trans I.ext.size h7⟩
         · show h0.length ≤ h2.length
           have : n ≤ h2.length := by
             rw [hh2, List.length_append, hpl]; omega
           have := I.len
           omega
       have hfin : ahj s dst mv sel r hout = ({ s with t := w6 mv s.t, h := h2 } : St).put dst (ren f 3 r) := by
         rw [hh2, hfe, hn, hqe]; rfl
       rw [hfin]
       exact J.put (hXres.ren hR2 3)
     cases fz with
     | false =>
       exact main (avm av0 m s.h) (r6 H (fun b hb => hb) (fun h => by cases h)) (fun b hb => .inr (hownL b hb)) (fun b hb => hb) (.inl fun b hb => hb)
     | true =>
       have hn := hro.resolve_left (by simp)
       refine main (own (fb sel m) (bc sel s.h true)) (r6 H (fun b hb h => hb (.inr (hownL b h))) (fun _ id cs hid hp => ?_)) (fun b hb => hb) (fun b hb => .inr (hownL b hb)) (.inr hn)
       refine hnl id cs hid (fun hm => ?_)
       obtain ⟨p, hp'⟩ := List.getElem?_of_mem hm
       exact ml hp hp'
   | _ => exact False.elim hq
 | _ => exact False.elim hq
end
end Go.Lv
end
section
namespace Go.Lv

def ac4 (P : Program) (t : TypeId) : Option (List (Nat × Nat)) :=
 match P.underlying t with
 | some (.struct fields) => fields.toList.mapM fun f => (P.info? f.type).map fun i => (f.offset, i.size)
 | some (.array n e) => match P.info? e with
   | some ie => some ((List.range n).map fun i => (i * ie.size, ie.size))
   | none => none
 | _ => none

def vp (pl : List (Nat × Nat)) : List (Nat × V) → List V → Option (List V)
 | [], cs => some cs
 | (i, v) :: rest, cs => match pl[i]?, cellsOf v with
   | some (off, sz), some ns => if ns.length = sz ∧ off + sz ≤ cs.length then vp pl rest (cs.take off ++ ns ++ cs.drop (off + sz)) else none
   | _, _ => none

def z7 (sz : Nat) : Nat → List (Nat × V) → Option (List V)
 | _, [] => some []
 | k, (i, v) :: rest => match cellsOf v with
   | some ns => if i = k ∧ ns.length = sz then (z7 sz (k + 1) rest).map (ns ++ ·) else none
   | none => none

def mo (n : Nat) (zs : List V) : List V := (List.range n).map fun i => zs.getD (i % zs.length) .undef

section
variable {P : Program} {w : World} {m : Nat → Nat} {h : Hp} {av : Nat → Prop}

def Row (w : World) (m : Nat → Nat) (h : Hp) (av : Nat → Prop) (C : Array Value) (cs : List V) : Prop :=
 C.size = cs.length ∧ ∀ i (hi : i < cs.length), RV w m h av true (C.getD i Go.undef) cs[i]

theorem acx (off : Nat) : ∀ (l : List Value) (k : Nat) (C : Array Value), off + k + l.length ≤ C.size →
   ((l.zipIdx k).foldl (fun cs (x : Value × Nat) => cs.setIfInBounds (off + x.2) x.1) C).size = C.size ∧
   ∀ i, ((l.zipIdx k).foldl (fun cs (x : Value × Nat) => cs.setIfInBounds (off + x.2) x.1) C).getD i Go.undef =
     if off + k ≤ i ∧ i < off + k + l.length then l.getD (i - (off + k)) Go.undef else C.getD i Go.undef
 | [], k, C, _ => ⟨rfl, fun i => by simp; omega⟩
 | v :: l, k, C, hl => by
   simp only [List.length_cons] at hl
   have ih := acx off l (k + 1) (C.setIfInBounds (off + k) v) (by simp; omega)
   simp only [List.zipIdx_cons, List.foldl_cons]
   refine ⟨by rw [ih.1]; simp, fun i => ?_⟩
   rw [ih.2 i]
   by_cases h1 : off + k = i
   · subst h1
     rw [if_neg (by omega), if_pos (by simp)]
     simp [Array.getD_eq_getD_getElem?, show off + k < C.size from by omega]
   · by_cases h2 : off + (k + 1) ≤ i ∧ i < off + (k + 1) + l.length
     · rw [if_pos h2, if_pos (by simp; omega)]
       obtain ⟨j, rfl⟩ : ∃ j, i = off + (k + 1) + j := ⟨i - (off + (k + 1)), by omega⟩
       rw [show off + (k + 1) + j - (off + (k + 1)) = j from by omega, show off + (k + 1) + j - (off + k) = j + 1 from by omega]
       simp
     · rw [if_neg h2, if_neg (by simp; omega)]
       simp [Array.getD_eq_getD_getElem?, Array.getElem?_setIfInBounds_ne h1]

theorem ak1 {C D : Array Value} {cs ns : List V} {off : Nat} (hC : Row w m h av C cs) {vs : Array Value} (hv : Row w m h av vs ns) (hroom : off + ns.length ≤ cs.length)
   (hD : D.size = C.size) (hg : ∀ i, D.getD i Go.undef = if off ≤ i ∧ i < off + vs.size then vs.getD (i - off) Go.undef else C.getD i Go.undef) :
   Row w m h av D (cs.take off ++ ns ++ cs.drop (off + ns.length)) := by
 obtain ⟨h1, h2⟩ := hC
 obtain ⟨h3, h4⟩ := hv
 refine ⟨by simp; omega, fun i hi => ?_⟩
 rw [hg i]
 have hi' : i < cs.length := by simp at hi; omega
 by_cases e1 : i < off
 · rw [if_neg (by omega), List.getElem_append_left (by simp; omega), List.getElem_append_left (by simp; omega), List.getElem_take]
   exact h2 i hi'
 · by_cases e2 : i < off + ns.length
   · rw [if_pos ⟨by omega, by omega⟩, List.getElem_append_left (by simp; omega), List.getElem_append_right (by simp; omega)]
     have : i - (List.take off cs).length = i - off := by simp; omega
     simp only [this]
     exact h4 (i - off) (by omega)
   · rw [if_neg (by omega), List.getElem_append_right (by simp; omega), List.getElem_drop]
     have : off + ns.length + (i - (List.take off cs ++ ns).length) = i := by simp; omega
     simp only [this]
     exact h2 i hi'

theorem yh {pl : List (Nat × Nat)} {place : Nat → Option (Nat × Nat)} (hp : ∀ (i : Nat) p, pl[i]? = some p → place i = some p) {a : Operand → Value} {ρ : Operand → V}
   (hρ : ∀ x, RV w m h av true (a x) (ρ x)) : ∀ (parts : List (Nat × Operand)) (C : Array Value) (cs cs' : List V), Row w m h av C cs → vp pl (parts.map fun p => (p.1, ρ p.2)) cs = some cs' →
   ∃ D, Instr.fill place C (parts.map fun p => (p.1, a p.2)) = some D ∧ Row w m h av D cs'
 | [], C, cs, cs', hr, hf => by
   simp [vp] at hf; subst hf
   exact ⟨C, rfl, hr⟩
 | (i, x) :: parts, C, cs, cs', hr, hf => by
   simp only [List.map_cons, vp] at hf
   split at hf
   · rename_i off sz ns h1 h2
     split at hf
     · rename_i hc
       obtain ⟨hc1, hc2⟩ := hc
       obtain ⟨g1, g2, g3⟩ := s8 (hρ x) h2
       have hff := acx off (a x).cells.toList 0 C (by simp; have := hr.1; omega)
       have hrow := ak1 (D := ((a x).cells.toList.zipIdx 0).foldl (fun cs (x : Value × Nat) => cs.setIfInBounds (off + x.2) x.1) C) hr (vs := (a x).cells) ⟨g1, g2⟩ (by omega : off + ns.length ≤ cs.length) hff.1
         (fun i => by rw [hff.2 i]; simp [Array.getD_eq_getD_getElem?])
       rw [hc1] at hrow
       obtain ⟨D, hD1, hD2⟩ := yh hp hρ parts _ _ cs' hrow hf
       refine ⟨D, ?_, hD2⟩
       simp only [List.map_cons, Instr.fill, hp i _ h1]
       rw [if_neg (by simp; have := hr.1; omega)]
       rw [← hD1]
       congr 1
       rw [← Array.foldl_toList]
       congr 1
       simp
     · cases hf
   · cases hf

theorem aax (n sz : Nat) : ∀ (i : Nat) (p : Nat × Nat), ((List.range n).map fun k => (k * sz, sz))[i]? = some p → some (i * sz, sz) = some p := by
 intro i p hi
 by_cases hlt : i < n
 · simpa [List.getElem?_range hlt] using hi
 · rw [List.getElem?_eq_none (by simp; omega)] at hi
   cases hi

theorem zh (z : Array Value) : Row w m h av z (z.toList.map lf) := by
 refine ⟨by simp, fun i hi => ?_⟩
 have hi' : i < z.size := by simpa using hi
 have : z.getD i Go.undef = z[i] := by simp [Array.getD, hi']
 rw [this]
 simp only [List.getElem_map, Array.getElem_toList]
 exact aa7 ..

theorem jo {t : TypeId} {zs : List V} (hz : zeroOf P t = some zs) : ∃ i z, P.info? t = some i ∧ i.zero = some z ∧ zs = z.cells.toList.map lf := by
 unfold zeroOf at hz
 split at hz
 · rename_i i h1
   split at hz
   · rename_i z h2
     simp at hz
     exact ⟨i, z, h1, h2, hz.symm⟩
   · cases hz
 · cases hz

def pg (P : Program) (t : TypeId) (parts : List (Nat × V)) (K : V → Prop) : Prop :=
 match zeroOf P t, ac4 P t with
 | some zs, some pl => match vp pl parts zs with
   | some cs => K (.agg cs)
   | none => False
 | _, _ => False

theorem aii {a : Operand → Value} {ρ : Operand → V} (hρ : ∀ x, RV w m h av true (a x) (ρ x)) {t : TypeId} {parts : Array (Nat × Operand)} {K : V → Prop}
   (hq : pg P t (parts.toList.map fun p => (p.1, ρ p.2)) K) : nq P w m h av (Instr.build t (parts.map fun (i, x) => (i, a x))) K := by
 unfold pg at hq
 split at hq
 · rename_i zs pl hz hp
   obtain ⟨it, z, h1, h2, rfl⟩ := jo hz
   split at hq
   · rename_i cs hf
     have hl : (parts.map fun (i, x) => (i, a x)).toList = parts.toList.map fun p => (p.1, a p.2) := by simp
     unfold ac4 at hp
     split at hp
     · rename_i fields hu
       obtain ⟨D, hD1, hD2⟩ := yh (place := (pl.toArray[·]?)) (fun i p hi => by simpa using hi) hρ parts.toList z.cells _ cs (zh z.cells) hf
       refine .mk' hq (.agg D cs hD2.1 hD2.2) (run_build w t _ D ?_)
       simp only [Program.built, h1, hu, h2, hp, hl]
       exact hD1
     · rename_i n e hu
       split at hp
       · rename_i ie hie
         simp at hp; subst hp
         obtain ⟨D, hD1, hD2⟩ := yh (pl := (List.range n).map fun i => (i * ie.size, ie.size)) (place := fun i => some (i * ie.size, ie.size)) (aax n ie.size) hρ parts.toList z.cells _ cs (zh z.cells) hf
         refine .mk' hq (.agg D cs hD2.1 hD2.2) (run_build w t _ D ?_)
         simp only [Program.built, h1, hu, h2, hie, hl]
         exact hD1
       · cases hp
     · cases hp
   · exact hq.elim
 · exact hq.elim

theorem ai5 (sz n : Nat) : ∀ (parts : List (Nat × V)) (k : Nat) (pre suf cs : List V), pre.length = k * sz → suf.length = parts.length * sz → k + parts.length = n → z7 sz k parts = some cs →
   vp ((List.range n).map fun i => (i * sz, sz)) parts (pre ++ suf) = some (pre ++ cs)
 | [], k, pre, suf, cs, h1, h2, h3, h4 => by
   simp [z7] at h4; subst h4
   have : suf = [] := List.eq_nil_of_length_eq_zero (by simpa using h2)
   subst this
   simp [vp]
 | (i, v) :: parts, k, pre, suf, cs, h1, h2, h3, h4 => by
   simp only [z7] at h4
   split at h4
   · rename_i ns hns
     split at h4
     · rename_i hc
       obtain ⟨rfl, hlen⟩ := hc
       cases hr : z7 sz (i + 1) parts with
       | none => simp [hr] at h4
       | some rest =>
         simp [hr] at h4; subst h4
         simp only [List.length_cons] at h2 h3
         have e2 : suf.length = sz + parts.length * sz := by rw [h2, Nat.add_mul]; omega
         have hget : ((List.range n).map fun i => (i * sz, sz))[i]? = some (i * sz, sz) := by
           simp [List.getElem?_range (show i < n from by omega)]
         simp only [vp, hget, hns]
         rw [if_pos ⟨hlen, by simp; omega⟩]
         have ih := ai5 sz n parts (i + 1) (pre ++ ns) (suf.drop sz) rest (by simp [h1, hlen, Nat.add_mul]) (by simp; omega) (by omega) hr
         rw [← h1, List.take_left, show pre.length + sz = (pre ++ suf.take sz).length from by simp; omega]
         have : pre ++ suf = (pre ++ suf.take sz) ++ suf.drop sz := by simp
         rw [this, List.drop_left]
         simpa using ih
     · cases h4
   · cases h4

theorem af3 (z : Array Value) (n : Nat) : Row w m h av ((Array.range n).map (z[· % z.size]!)) (mo n (z.toList.map lf)) := by
 refine ⟨by simp [mo], fun i hi => ?_⟩
 have hi' : i < n := by simpa [mo] using hi
 have e1 : ((Array.range n).map (z[· % z.size]!)).getD i Go.undef = z[i % z.size]! := by simp [Array.getD, hi']
 rw [e1]
 simp only [mo, List.getElem_map, List.getElem_range, List.length_map, Array.length_toList]
 by_cases hz : z.size = 0
 · have : z = #[] := Array.eq_empty_of_size_eq_zero hz
   subst this
   simp
   exact .undef _
 · have hlt : i % z.size < z.size := Nat.mod_lt _ (by omega)
   have : z[i % z.size]! = z[i % z.size] := by simp [getElem!_pos, hlt]
   rw [this]
   have e2 : (z.toList.map lf).getD (i % z.size) .undef = lf z[i % z.size] := by simp [List.getD, hlt]
   rw [e2]
   exact aa7 ..

theorem rp {a : Operand → Value} {ρ : Operand → V} (hρ : ∀ x, RV w m h av true (a x) (ρ x)) {t e sz by_ : Nat} (he : ij P t = some (e, sz, by_)) {zs : List V} (hz : zeroOf P e = some zs) {n : Nat}
   {parts : Array (Nat × Operand)} {cs : List V} (hn : parts.size = n) (hbig : n * sz ≤ 16777216) (hs : z7 sz 0 (parts.toList.map fun p => (p.1, ρ p.2)) = some cs) :
   ∃ D, Row w m h av D cs ∧ (Instr.buildSlice t n (parts.map fun (i, x) => (i, a x))).run P w = .ok (.slice (some ⟨w.heap.size, 0, none⟩) n n) (w.alloc (.cells D e)) := by
 obtain ⟨i, h1, h2, rfl, h4⟩ := gy he
 obtain ⟨i', z, h5, h6, rfl⟩ := jo hz
 rw [h2] at h5; simp at h5; subst h5
 have hl : (parts.map fun (i, x) => (i, a x)).toList = parts.toList.map fun p => (p.1, a p.2) := by simp
 have hrow0 := af3 (w := w) (m := m) (h := h) (av := av) (if n * i.size = 0 then #[] else z.cells) (n * i.size)
 have hfill := ai5 i.size n (parts.toList.map fun p => (p.1, ρ p.2)) 0 [] (mo (n * i.size) ((if n * i.size = 0 then #[] else z.cells).toList.map lf)) cs (by simp) (by simp [mo, hn]) (by simp [hn]) hs
 simp only [List.nil_append] at hfill
 obtain ⟨D, hD1, hD2⟩ := yh (pl := (List.range n).map fun k => (k * i.size, i.size)) (place := fun k => some (k * i.size, i.size)) (aax n i.size) hρ parts.toList _ _ cs hrow0 hfill
 refine ⟨D, hD2, ?_⟩
 have hb : ¬ (2 ^ 24 < n * i.size) := by omega
 by_cases h0 : n * i.size = 0
 · simp [h0] at hD1
   simp [Instr.buildSlice, run_underlying h1, sizeOf, typeInfo, h2, h0, hD1, newRow]
 · simp only [h0, if_false] at hD1
   have hb' : ¬ (16777216 < n * i.size) := by omega
   simp [Instr.buildSlice, run_underlying h1, sizeOf, typeInfo, zeroValue, h2, h6, h0, hb', hD1, newRow]

theorem y2 {t e sz by_ : Nat} (he : ij P t = some (e, sz, by_)) {zs : List V} (hz : zeroOf P e = some zs) {k k' : IntKind} {n : Int} (h0 : 0 ≤ n) (hb : (by_ : Int) * n ≤ 281474976710656) (h63 : n ≤ 9223372036854775807) :
   ∃ D, Row w m h av D (mo (n.toNat * sz) zs) ∧ (Instr.makeSlice t (.int k n) (.int k' n)).run P w = .ok (.slice (some ⟨w.heap.size, 0, none⟩) n.toNat n.toNat) (w.alloc (.cells D e)) := by
 obtain ⟨i, h1, h2, rfl, rfl⟩ := gy he
 obtain ⟨i', z, h5, h6, rfl⟩ := jo hz
 rw [h2] at h5; simp at h5; subst h5
 exact ⟨_, af3 z.cells (n.toNat * i.size), run_make w t e i z h1 h2 h6 k k' n n h0 (by omega) hb h63⟩

end
end Go.Lv
end
