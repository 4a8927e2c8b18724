/-
  A cell of a row written anew; a block of our own cut at its end. Conditions: none.
-/
import Derived.Test.YtfnlgojocgdmcaaDoorRev
set_option linter.unusedSimpArgs false
set_option linter.unusedVariables false
namespace Go.Lv
theorem splice_left {A B ns : List V} {f : Nat} (h : f + ns.length ≤ A.length) : splice (A ++ B) f ns = splice A f ns ++ B := by
  unfold splice
  rw [List.take_append_of_le_length (by omega), List.drop_append_of_le_length (by omega)]
  simp [List.append_assoc]
theorem splice_cell {α : Type} {cs : α → List V} {w : Nat} (hw : ∀ a, (cs a).length = w) {L : List α} {j f : Nat} {v : V} {x : α} (hj : j < L.length) (hf : f < w) (hx : cs x = splice (cs L[j]) f [v]) : splice (rows cs L) (j * w + f) [v] = rows cs (L.set j x) := by
  have e : L = L.take j ++ L[j] :: L.drop (j + 1) := by rw [← List.drop_eq_getElem_cons hj, List.take_append_drop]
  have e2 : L.set j x = L.take j ++ x :: L.drop (j + 1) := by rw [List.set_eq_take_append_cons_drop, if_pos hj]
  have hA : (rows cs (L.take j)).length = j * w := by rw [rows_len hw, List.length_take, Nat.min_eq_left (by omega)]
  rw [e2, rowsOf_append, rows_cons]
  conv => lhs; rw [e, rowsOf_append, rows_cons]
  rw [splice_mid hA, splice_left (by rw [hw]; simp; omega), hx]

/-- What refers to a block's part ahead of a cell. -/
def fits (id n : Nat) : Nat → V → Bool
  | _, .osl i off m w => i != id || decide (off + m * w ≤ n)
  | d + 1, .agg cs => cs.all (fits id n d)
  | d + 1, .tup cs => cs.all (fits id n d)
  | d + 1, .fn _ a c => a.all (fits id n d) && c.all (fits id n d)
  | 0, .agg _ => false
  | 0, .tup _ => false
  | 0, .fn _ _ _ => false
  | _, _ => true

theorem RV.trim {w : World} {m : Nat → Nat} {h : Hp} {av av' : Nat → Prop} {id n : Nat} {cs : List V} (hid : h[id]? = some (some cs)) (hmb : isMb cs = false) (hmb' : isMb (cs.take n) = false) (hn : n ≤ cs.length) (hav : ∀ b, av' b → av b) {o : Bool} {v : Value} {x : V}
    (hx : RV w m h av o v x) : ∀ d, fits id n d x = true → RV w m (h.set id (some (cs.take n))) av' o v x := by
  have hro : ∀ {v : Value} {x : V}, RV w m h av false v x → RV w m (h.set id (some (cs.take n))) av' false v x := fun hx =>
    hx.ro_step (fun b off v hb hc => ⟨fun h => hb (hav b h), hc⟩) rfl
  have hset : ∀ {i : Nat} {c : List V}, h[i]? = some (some c) → i ≠ id → (h.set id (some (cs.take n)))[i]? = some (some c) := fun h e => by
    rw [List.getElem?_set_ne (Ne.symm e)]; exact h
  have hself : (h.set id (some (cs.take n)))[id]? = some (some (cs.take n)) := List.getElem?_set_self (id_lt hid)
  induction hx with
  | undef v => exact fun _ _ => .undef v
  | skip => exact fun _ _ => .skip
  | bool b => exact fun _ _ => .bool b
  | int k n => exact fun _ _ => .int k n
  | str s => exact fun _ _ => .str s
  | nilsl => exact fun _ _ => .nilsl
  | slz a c wd => exact fun _ _ => .slz a c wd
  | sl b off n' cap wd cs' vals hl ha hc hv hr _ => exact fun _ _ => .sl b off n' cap wd cs' vals hl (fun hne h => ha hne (hav b h)) hc hv (fun i hi => hro (hr i hi))
  | pt b off cs' vals ha hv hr _ => exact fun _ _ => .pt b off cs' vals (fun hne h => ha hne (hav b h)) hv (fun i hi => hro (hr i hi))
  | osl id' off n' cap wd cs' hid' hl hc hs =>
    intro d hf
    by_cases e : id' = id
    · subst e
      have he : cs = cs' := by have := hid'.1; rw [hid] at this; simpa using this
      subst he
      have hf' : off + n' * wd ≤ n := by cases d <;> simpa [fits] using hf
      exact .osl id' off n' cap wd (cs.take n) ⟨hself, hmb'⟩ (by simp; omega) hc hs
    · exact .osl id' off n' cap wd cs' ⟨hset hid'.1 e, hid'.2⟩ hl hc hs
  | ptr id' off cs' hid' =>
    intro d _
    by_cases e : id' = id
    · subst e
      exact .ptr id' off (cs.take n) ⟨hself, hmb'⟩
    · exact .ptr id' off cs' ⟨hset hid'.1 e, hid'.2⟩
  | fn g a c a' c' ha hc hra hrc iha ihc =>
    intro d hf
    cases d with
    | zero => simp [fits] at hf
    | succ d =>
      simp only [fits, Bool.and_eq_true, List.all_eq_true] at hf
      exact .fn g a c a' c' ha hc (fun i hi => iha i hi d (hf.1 _ (List.getElem_mem hi))) (fun i hi => ihc i hi d (hf.2 _ (List.getElem_mem hi)))
  | agg a a' ha hra iha =>
    intro d hf
    cases d with
    | zero => simp [fits] at hf
    | succ d =>
      simp only [fits, List.all_eq_true] at hf
      exact .agg a a' ha (fun i hi => iha i hi d (hf _ (List.getElem_mem hi)))
  | tup a a' ha hra iha =>
    intro d hf
    cases d with
    | zero => simp [fits] at hf
    | succ d =>
      simp only [fits, List.all_eq_true] at hf
      exact .tup a a' ha (fun i hi => iha i hi d (hf _ (List.getElem_mem hi)))
  | lit v => exact fun _ _ => .lit v
  | mp id' cs' hid' hm =>
    intro d _
    by_cases e : id' = id
    · subst e
      rw [hid] at hid'
      have he : cs = cs' := by simpa using hid'
      subst he
      rw [hmb] at hm; cases hm
    · exact .mp id' cs' (hset hid' e) hm

/-- A block of our own, cut at its end where nothing refers to the rest. -/
theorem WeakR.trim {k : Nat} {v r : V} {h hout : Hp} (id n : Nat) {cs : List V} (hid : h[id]? = some (some cs)) (hk : k ≤ id) (hn : n ≤ cs.length) (hmb : isMb cs = false) (hmb' : isMb (cs.take n) = false) (hv : fits id n 3 v = true)
    (hh : (h.all fun b => match b with | some cs => cs.all (fits id n 2) | none => true) = true) (hr : WeakR k v (h.set id (some (cs.take n))) r hout) : WeakR k v h r hout := by
  intro w0 m0 h0 av0 w m val e1 e2 hlt hle H hx hI
  have hfit : ∀ (j : Nat) (c : List V), h[j]? = some (some c) → ∀ x ∈ c, fits id n 2 x = true := by
    intro j c hj x hxc
    have := List.all_eq_true.1 hh _ (List.mem_of_getElem? hj)
    exact List.all_eq_true.1 this x hxc
  have hown : ∀ b, own m (h.set id (some (cs.take n))) b → own m h b := by
    rintro b ⟨j, c, h1, rfl⟩
    rcases hp_set hid h1 with ⟨rfl, _⟩ | ⟨_, h2⟩
    · exact ⟨j, cs, hid, rfl⟩
    · exact ⟨j, c, h2, rfl⟩
  have hav : ∀ b, avm av0 m (h.set id (some (cs.take n))) b → avm av0 m h b := fun b hb => hb.imp (fun x => x) (hown b)
  have hcase : ∀ (j : Nat) (c : List V), (h.set id (some (cs.take n)))[j]? = some (some c) → ∃ c0, h[j]? = some (some c0) ∧ (∃ q, c = c0.take q) := by
    intro j c h1
    rcases hp_set hid h1 with ⟨rfl, rfl⟩ | ⟨_, h2⟩
    · exact ⟨cs, hid, n, rfl⟩
    · exact ⟨c, h2, c.length, by simp⟩
  refine hr w0 m0 h0 av0 w m val e1 (by simpa using e2) hlt hle ⟨fun i j ci cj h1 h2 he => ?_, fun j c h1 => .inr ⟨j, c, h1, rfl⟩, fun j c h1 => ?_⟩ (hx.trim hid hmb hmb' hn hav 3 hv) (fun j c h1 => ?_)
  · obtain ⟨c1, g1, _⟩ := hcase i ci h1
    obtain ⟨c2, g2, _⟩ := hcase j cj h2
    exact H.inj i j c1 c2 g1 g2 he
  · rcases hp_set hid h1 with ⟨rfl, rfl⟩ | ⟨_, h2⟩
    · obtain ⟨C, T, fr, g1, hfr, g2, g3⟩ := (H.blk j cs hid).cells hmb
      refine .inl ⟨C, T, fr, g1, hfr, by simp; omega, fun i hi => ?_⟩
      have hi' : i < cs.length := by simp at hi; omega
      rw [List.getElem_take]
      exact (g3 i hi').trim hid hmb hmb' hn hav 2 (hfit j cs hid _ (List.getElem_mem _))
    · rcases H.blk j c h2 with ⟨C, T, fr, g1, hfr, g2, g3⟩ | h3
      · exact .inl ⟨C, T, fr, g1, hfr, g2, fun i hi => (g3 i hi).trim hid hmb hmb' hn hav 2 (hfit j c h2 _ (List.getElem_mem _))⟩
      · exact .inr h3
  · rcases hp_set hid h1 with ⟨rfl, rfl⟩ | ⟨_, h2⟩
    · rcases hI j cs hid with ⟨q1, _⟩ | q1
      · omega
      · exact .inr q1
    · exact hI j c h2

theorem noOwn_fits (id n : Nat) : ∀ (d : Nat) (x : V), noOwn d x = true → fits id n d x = true
  | 0, x, hx => by cases x <;> simp_all [noOwn, fits]
  | d + 1, x, hx => by
    have hall : ∀ l : List V, l.all (noOwn d) = true → l.all (fits id n d) = true := fun l h =>
      List.all_eq_true.2 fun y hy => noOwn_fits id n d y (List.all_eq_true.1 h y hy)
    cases x <;> first | (simp only [noOwn, fits, Bool.and_eq_true] at hx ⊢; exact ⟨hall _ hx.1, hall _ hx.2⟩) | (simp only [noOwn, fits] at hx ⊢; exact hall _ hx) | rfl | cases hx
theorem rows_fits {α : Type} {cs : α → List V} {w : Nat} [FlatP cs w] (id n d : Nat) (L : List α) : (rows cs L).all (fits id n d) = true :=
  List.all_eq_true.2 fun x hx => noOwn_fits id n d x (List.all_eq_true.1 (rows_noOwn (cs := cs) L d) x hx)
end Go.Lv
