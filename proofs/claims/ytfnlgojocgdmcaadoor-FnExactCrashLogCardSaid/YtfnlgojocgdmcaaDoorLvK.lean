/-
  Operations of a drawn region that only read or make new blocks: their blocks have places of their own, whatever the order. Conditions: none.
-/
import Derived.Test.YtfnlgojocgdmcaaDoorLvJ
set_option linter.unusedSimpArgs false
set_option linter.unusedVariables false
namespace Go.Lv

/-- Every block that a value refers to is one of these. -/
def refV (p : Nat → Bool) : Nat → V → Bool
  | _, .osl id _ _ _ => p id
  | _, .ptr id _ => p id
  | _, .mp _ => false
  | d + 1, .agg cs => cs.all (refV p d)
  | d + 1, .tup cs => cs.all (refV p d)
  | d + 1, .fn _ a c => a.all (refV p d) && c.all (refV p d)
  | 0, .agg _ => false
  | 0, .tup _ => false
  | 0, .fn _ _ _ => false
  | _, _ => true
/-- A block that is there, and so all that it refers to. -/
def refB (h : Hp) : Nat → Nat → Bool
  | 0, _ => false
  | n + 1, id => match h[id]? with
    | some (some cs) => cs.all (refV (refB h n) 2)
    | _ => false
/-- A value that a callee may be handed: what it holds of ours is there. -/
def refOk (h : Hp) (d : Nat) (v : V) : Bool := refV (refB h 3) d v

/-- A conversion; one of a string to bytes makes a block. -/
def convG (P : Program) (h : Hp) (sT d : TypeId) (x : V) (K : V → Hp → Prop) : Prop :=
  match x with
  | .str b => convB (isU8S P d) (isStr P sT = true ∧ K (.osl h.length 0 b.size 1) [some (strCells b)]) (convH P h sT d (.str b) fun v => K v [])
  | x => convH P h sT d x fun v => K v []
/-- The operations that change no block: what they give, and the blocks that they make. -/
def gop (P : Program) (h : Hp) (ρ : Operand → V) (op : Op) (K : V → Hp → Prop) : Prop :=
  match op with
  | .alloc t => match zeroOf P t with
    | some zs => K (.ptr h.length 0) [some zs]
    | none => False
  | .box _ x => match cellsOf (ρ x) with
    | some cs => K (.ptr h.length 0) [some cs]
    | none => False
  | .build t parts => buildV P t (parts.toList.map fun p => (p.1, ρ p.2)) fun v => K v []
  | .buildSlice t n parts => match elOf P t with
    | some (e, sz, _) => match zeroOf P e with
      | some _ => match seqV sz 0 (parts.toList.map fun p => (p.1, ρ p.2)) with
        | some cs => parts.size = n ∧ n * sz ≤ 16777216 ∧ cs.length = n * sz ∧ K (.osl h.length 0 n sz) [some cs]
        | none => False
      | none => False
    | none => False
  | .makeSlice t l c => atInt (ρ l) fun _ n => atInt (ρ c) fun _ n' => n' = n ∧ match elOf P t with
    | some (e, sz, by_) => match zeroOf P e with
      | some zs => 0 ≤ n ∧ (by_ : Int) * n ≤ 281474976710656 ∧ n ≤ 9223372036854775807 ∧ K (.osl h.length 0 n.toNat sz) [some (zrow (n.toNat * sz) zs)]
      | none => False
    | none => False
  | .call { callee := .value f, args, .. } => (refOk h 4 (ρ f) = true ∧ (args.toList.map ρ).all (refOk h 3) = true) ∧ callA P h (ρ f) (args.toList.map ρ) fun r hout => K (ren (shf h.length) 3 r) (shH h.length hout)
  | .convert sT d x => convG P h sT d (ρ x) K
  | op => qop P h ρ op fun v => K v []

section
variable {P : Program} {w : World} {m : Nat → Nat} {hc ht : Hp} {av : Nat → Prop}

theorem ren_refV {p : Nat → Bool} {f g : Nat → R} (hp : ∀ id cs, hc[id]? = some (some cs) → p id = true → f id = g id) {o : Bool} {v : Value} {x : V} (hx : RV w m hc av o v x) :
    ∀ d e, refV p d x = true → ren f e x = ren g e x := by
  induction hx with
  | osl id off n cap wd cs hid hl hc' hs =>
    intro d e h
    have h' : p id = true := by cases d <;> exact h
    have := hp id cs hid.1 h'
    cases e <;> simp only [ren, this]
  | ptr id off cs hid =>
    intro d e h
    have h' : p id = true := by cases d <;> exact h
    have := hp id cs hid.1 h'
    cases e <;> simp only [ren, this]
  | mp id cs hid hm => intro d e h; cases d <;> simp [refV] at h
  | fn f a c a' c' ha hc' hra hrc iha ihc =>
    intro d e h
    cases d with
    | zero => simp [refV] at h
    | succ d =>
      simp only [refV, Bool.and_eq_true, List.all_eq_true] at h
      cases e with
      | zero => rfl
      | succ e =>
        simp only [ren]
        congr 1
        · refine List.map_congr_left fun x hx => ?_
          obtain ⟨i, hi, rfl⟩ := List.getElem_of_mem hx
          exact iha i hi d e (h.1 _ hx)
        · refine List.map_congr_left fun x hx => ?_
          obtain ⟨i, hi, rfl⟩ := List.getElem_of_mem hx
          exact ihc i hi d e (h.2 _ hx)
  | agg a a' ha hra iha =>
    intro d e h
    cases d with
    | zero => simp [refV] at h
    | succ d =>
      simp only [refV, List.all_eq_true] at h
      cases e with
      | zero => rfl
      | succ e =>
        simp only [ren]
        congr 1
        refine List.map_congr_left fun x hx => ?_
        obtain ⟨i, hi, rfl⟩ := List.getElem_of_mem hx
        exact iha i hi d e (h _ hx)
  | tup a a' ha hra iha =>
    intro d e h
    cases d with
    | zero => simp [refV] at h
    | succ d =>
      simp only [refV, List.all_eq_true] at h
      cases e with
      | zero => rfl
      | succ e =>
        simp only [ren]
        congr 1
        refine List.map_congr_left fun x hx => ?_
        obtain ⟨i, hi, rfl⟩ := List.getElem_of_mem hx
        exact iha i hi d e (h _ hx)
  | _ => intro d e _; cases e <;> rfl
theorem snap_ref (H : RH w m hc av) (hcmp : ∀ (id : Nat) (cs cs' : List V), hc[id]? = some (some cs) → ht[id]? = some (some cs') → cs = cs') :
    ∀ n k id cs, hc[id]? = some (some cs) → refB ht n id = true → snapR ht k id = snapR hc k id := by
  intro n
  induction n with
  | zero => intro k id cs _ h; simp [refB] at h
  | succ n ih =>
    intro k id cs hid h
    cases k with
    | zero => rfl
    | succ k =>
      unfold refB at h
      split at h
      · rename_i cs' h1
        have := hcmp id cs cs' hid h1
        subst this
        simp only [snapR, h1, hid]
        congr 1
        refine List.map_congr_left fun x hx => ?_
        by_cases hmb : isMb cs = true
        · match cs, hmb, hx with
          | [y], hmb, hx =>
            have := List.mem_singleton.1 hx
            subst this
            cases x <;> first | rfl | (simp [isMb, isMbV] at hmb; done)
        · obtain ⟨C, T, _, _, _, _, g3⟩ := (H.blk id cs hid).cells (by simpa using hmb)
          obtain ⟨i, hi, rfl⟩ := List.getElem_of_mem hx
          exact ren_refV (fun j c hj hp => ih k j c hj hp) (g3 i hi) 2 2 (List.all_eq_true.1 h _ hx)
      · cases h
theorem ren_ref (H : RH w m hc av) (hcmp : ∀ (id : Nat) (cs cs' : List V), hc[id]? = some (some cs) → ht[id]? = some (some cs') → cs = cs') {o : Bool} {v : Value} {x : V} (hx : RV w m hc av o v x) :
    ∀ d e, refOk ht d x = true → ren (snapR ht 3) e x = ren (snapR hc 3) e x := fun d e h =>
  ren_refV (fun j c hj hp => snap_ref H hcmp 3 3 j c hj hp) hx d e h

theorem callA_cmp (H : RH w m hc av) (hcmp : ∀ (id : Nat) (cs cs' : List V), hc[id]? = some (some cs) → ht[id]? = some (some cs') → cs = cs') {fv : V} {u : Value} {args : List V} {vs : List Value} (hf : RV w m hc av true u fv)
    (hlen : vs.length = args.length) (ha : ∀ i (hi : i < args.length), RV w m hc av true (vs.getD i Go.undef) args[i]) (hrf : refOk ht 4 fv = true) (hra : args.all (refOk ht 3) = true)
    {K : V → Hp → Prop} (hq : callA P ht fv args K) : callA P hc fv args K := by
  unfold callA at *
  split at hq
  · rename_i g a c
    obtain ⟨as', r, hout, hle, h1, h2, h3⟩ := hq
    refine ⟨as', r, hout, ?_, h1, h2, h3⟩
    have e : (a ++ args ++ c).map (ren (snapR hc 3) 3) = (a ++ args ++ c).map (ren (snapR ht 3) 3) := by
      simp only [refOk, refV, Bool.and_eq_true, List.all_eq_true] at hrf
      cases hf with
      | fn f aa ca a' c' haa hca hraa hrca =>
        refine List.map_congr_left fun x hx => ?_
        simp only [List.mem_append] at hx
        rcases hx with (hx | hx) | hx
        · obtain ⟨i, hi, rfl⟩ := List.getElem_of_mem hx
          exact (ren_ref H hcmp (hraa i hi) 3 3 (hrf.1 _ hx)).symm
        · obtain ⟨i, hi, rfl⟩ := List.getElem_of_mem hx
          exact (ren_ref H hcmp (ha i hi) 3 3 (List.all_eq_true.1 hra _ hx)).symm
        · obtain ⟨i, hi, rfl⟩ := List.getElem_of_mem hx
          exact (ren_ref H hcmp (hrca i hi) 3 3 (hrf.2 _ hx)).symm
    rw [e]
    exact hle
  · exact hq

def readsHp : Op → Bool
  | .load _ _ => true
  | .lookup _ _ _ _ => true
  | .convert _ _ _ => true
  | _ => false

theorem qop_same {ρ : Operand → V} {op : Op} {K : V → Prop} (hr : readsHp op = false) : qop P ht ρ op K = qop P hc ρ op K := by
  unfold qop
  split <;> first | rfl | (simp [readsHp] at hr)

theorem qop_cmp (hcmp : ∀ (id : Nat) (cs cs' : List V), hc[id]? = some (some cs) → ht[id]? = some (some cs') → cs = cs') {a : Operand → Value} {ρ : Operand → V} (hρ : ∀ x, RV w m hc av true (a x) (ρ x)) {op : Op} {K : V → Prop}
    (hq : qop P ht ρ op K) : qop P hc ρ op K := by
  by_cases hr : readsHp op = false
  · rw [← qop_same (ht := ht) hr]; exact hq
  · cases op with
    | load t x =>
      change loadV P ht t (ρ x) K at hq
      show loadV P hc t (ρ x) K
      have hx := hρ x
      clear hρ
      unfold loadV at *
      generalize a x = vv at hx
      generalize ρ x = y at hx hq ⊢
      cases hx with
      | ptr id off cs hid =>
        dsimp only at *
        split at hq
        · split at hq
          · rename_i cs' h1
            have := hcmp id cs cs' hid.1 h1
            subst this
            simp only [hid.1]
            exact hq
          · exact hq.elim
        · exact hq.elim
      | _ => exact hq
    | lookup t x y ok =>
      change lookupV P ht t (ρ x) (ρ y) ok K at hq
      show lookupV P hc t (ρ x) (ρ y) ok K
      have hx := hρ x
      clear hρ
      unfold lookupV at *
      generalize a x = vv at hx
      generalize ρ x = z at hx hq ⊢
      cases hx with
      | mp id cs hid hm =>
        dsimp only at *
        split at hq
        · rename_i es h1
          have := hcmp id cs _ hid h1
          subst this
          simp only [hid]
          exact hq
        · exact hq.elim
      | _ => exact hq
    | convert s d x =>
      change convH P ht s d (ρ x) K at hq
      show convH P hc s d (ρ x) K
      have hx := hρ x
      clear hρ
      generalize a x = vv at hx
      generalize ρ x = z at hx hq ⊢
      cases hx with
      | osl id off n cap wd cs hid hl hc' hs =>
        unfold convH at *
        dsimp only at *
        refine ⟨hq.1, ?_⟩
        replace hq := hq.2
        split at hq
        · rename_i cs' h1
          have := hcmp id cs cs' hid.1 h1
          subst this
          simp only [hid.1]
          exact hq
        · exact hq.elim
      | _ => exact hq
    | _ => simp [readsHp] at hr

end

/-- Blocks put at their places. -/
def placeH : Hp → Nat → Hp → Hp
  | h, _, [] => h
  | h, off, b :: bs => placeH (h.set off b) (off + 1) bs

theorem placeH_length : ∀ (bs h : Hp) (off : Nat), (placeH h off bs).length = h.length
  | [], h, off => rfl
  | b :: bs, h, off => by
    show (placeH (h.set off b) (off + 1) bs).length = _
    rw [placeH_length bs]; simp
theorem placeH_other : ∀ (bs h : Hp) (off j : Nat), (j < off ∨ off + bs.length ≤ j) → (placeH h off bs)[j]? = h[j]?
  | [], h, off, j, _ => rfl
  | b :: bs, h, off, j, hj => by
    simp only [List.length_cons] at hj
    show (placeH (h.set off b) (off + 1) bs)[j]? = _
    rw [placeH_other bs _ _ j (by omega), List.getElem?_set_ne (by omega)]
theorem placeH_get : ∀ (bs h : Hp) (off p : Nat), off + bs.length ≤ h.length → p < bs.length → (placeH h off bs)[off + p]? = bs[p]?
  | [], h, off, p, _, hp => by simp at hp
  | b :: bs, h, off, p, hl, hp => by
    simp only [List.length_cons] at hl hp
    show (placeH (h.set off b) (off + 1) bs)[off + p]? = _
    cases p with
    | zero => rw [placeH_other bs _ _ _ (by omega), Nat.add_zero, List.getElem?_set_self (by omega)]; rfl
    | succ p =>
      have := placeH_get bs (h.set off b) (off + 1) p (by simp; omega) (by omega)
      rw [show off + (p + 1) = off + 1 + p by omega, this]; rfl

section
variable {P : Program} {w0 : World} {m0 : Nat → Nat} {h0 : Hp} {av0 : Nat → Prop} {s : St} {a : Act} {w : World} {m : Nat → Nat}

def mplace (m m' : Nat → Nat) (off n : Nat) : Nat → Nat := fun id => if off ≤ id ∧ id < off + n then m' (id - off) else m id

theorem Left.place {w' : World} {v : Value} {r : V} {hout : Hp} {m' : Nat → Nat} {avX : Nat → Prop} (L : Left w0 m0 h0 av0 s a w m w' v r hout m' avX) (dst : Option Tmp) (off : Nat)
    (hpl : ∀ j, j < hout.length → s.h[off + j]? = some none) (hoff : h0.length ≤ off) :
    Inv w0 m0 h0 av0 (({ s with h := placeH s.h off (shH off hout) } : St).put dst (ren (shf off) 3 r)) (a.put dst v) w' (mplace m m' off hout.length) := by
  have I : Inv w0 m0 h0 av0 s a w m := L.inv
  have hsl : (shH off hout).length = hout.length := by simp [shH]
  have hfit : hout.length = 0 ∨ off + hout.length ≤ s.h.length := by
    rcases Nat.eq_zero_or_pos hout.length with e | e
    · exact .inl e
    · have := (List.getElem?_eq_some_iff.1 (hpl (hout.length - 1) (by omega))).1
      exact .inr (by omega)
  have hold : ∀ (j : Nat) (c : List V), s.h[j]? = some (some c) → (placeH s.h off (shH off hout))[j]? = some (some c) := fun j c h => by
    rw [placeH_other _ _ _ _ (by
      rw [hsl]
      rcases Nat.lt_or_ge j off with h1 | h1
      · exact .inl h1
      · rcases Nat.lt_or_ge j (off + hout.length) with h2 | h2
        · have := hpl (j - off) (by omega)
          rw [show off + (j - off) = j by omega, h] at this
          cases this
        · exact .inr h2)]
    exact h
  have hmo : ∀ (j : Nat) (c : List V), s.h[j]? = some (some c) → mplace m m' off hout.length j = m j := fun j c h => by
    unfold mplace
    rw [if_neg]
    rintro ⟨h1, h2⟩
    have := hpl (j - off) (by omega)
    rw [show off + (j - off) = j by omega, h] at this
    cases this
  have hmn : ∀ j, j < hout.length → mplace m m' off hout.length (off + j) = m' j := fun j hj => by
    unfold mplace
    rw [if_pos (by omega)]; congr 1; omega
  have hcase : ∀ (j : Nat) (c : List V), (placeH s.h off (shH off hout))[j]? = some (some c) → s.h[j]? = some (some c) ∨ ∃ j' c', j' < hout.length ∧ j = off + j' ∧ hout[j']? = some (some c') ∧ c = c'.map (ren (shf off) 2) := by
    intro j c h
    by_cases hr : off ≤ j ∧ j < off + hout.length
    · have h1 : (placeH s.h off (shH off hout))[off + (j - off)]? = (shH off hout)[j - off]? := placeH_get _ _ _ _ (by rw [hsl]; omega) (by rw [hsl]; omega)
      rw [show off + (j - off) = j by omega, h] at h1
      refine .inr ⟨j - off, ?_⟩
      simp only [shH, List.getElem?_map] at h1
      cases h2 : hout[j - off]? with
      | none => simp [h2] at h1
      | some b =>
        cases b with
        | none => simp [h2, shB] at h1
        | some c' => simp [h2, shB] at h1; exact ⟨c', by omega, by omega, rfl, h1⟩
    · rw [placeH_other _ _ _ _ (by rw [hsl]; omega)] at h
      exact .inl h
  have hlt' : ∀ (j : Nat) (c : List V), hout[j]? = some (some c) → j < hout.length := fun j c h => id_lt h
  have hnew : ∀ (j : Nat) (c : List V), hout[j]? = some (some c) → (placeH s.h off (shH off hout))[off + j]? = some (some (c.map (ren (shf off) 2))) := by
    intro j c h
    have := hlt' j c h
    rw [placeH_get _ _ _ _ (by rw [hsl]; omega) (by rw [hsl]; omega)]
    simp [shH, h, shB]
  have hown : ∀ b, own (mplace m m' off hout.length) (placeH s.h off (shH off hout)) b → own m s.h b ∨ own m' hout b := by
    rintro b ⟨j, c, h1, rfl⟩
    rcases hcase j c h1 with h2 | ⟨j', c', hj, rfl, h2, _⟩
    · exact .inl ⟨j, c, h2, (hmo j c h2).symm⟩
    · exact .inr ⟨j', c', h2, (hmn j' hj).symm⟩
  have hnlt : ∀ b, own m' hout b → w.heap.size ≤ b := by
    rintro b ⟨j, c, h1, rfl⟩
    exact L.new j c h1
  have hstep : ∀ {o : Bool} {v : Value} {x : V}, RV w m s.h (avm av0 m s.h) o v x → RV w' (mplace m m' off hout.length) (placeH s.h off (shH off hout)) (avm av0 (mplace m m' off hout.length) (placeH s.h off (shH off hout))) o v x :=
    fun hx => hx.step (fun b off' v hb hc => ⟨fun h => by
        rcases h with h | h
        · exact hb (.inl h)
        · rcases hown b h with h2 | h2
          · exact hb (.inr h2)
          · have := hnlt b h2
            have := World.block_lt_of_cell? w _ hc
            simp at this; omega, L.ext.cell hc (fun h => h)⟩)
      (fun id c hid => ⟨c, hold id c hid, Nat.le_refl _, hmo id c hid, L.ext.row _ (L.avlt _ (.inr ⟨id, c, hid, rfl⟩)), rfl⟩)
  have hR : Ren w' w' m' (mplace m m' off hout.length) hout (placeH s.h off (shH off hout)) avX (avm av0 (mplace m m' off hout.length) (placeH s.h off (shH off hout))) (shf off) := by
    refine ⟨fun b off' v hb hc => ⟨fun h => hb (L.hX b ?_), hc⟩, fun id cs j hid hf => ?_, fun id cs cs' hid hf => by simp [shf] at hf⟩
    · rcases h with h | h
      · exact .inl (.inl h)
      · rcases hown b h with h2 | h2
        · exact .inl (.inr h2)
        · exact .inr h2
    · simp [shf] at hf; subst hf
      exact ⟨_, hnew id cs hid, by simp, hmn id (hlt' id cs hid), Nat.le_refl _, isMb_ren _ _ _⟩
  have J : Inv w0 m0 h0 av0 { s with h := placeH s.h off (shH off hout) } a w' (mplace m m' off hout.length) := by
    refine ⟨⟨?_, ?_, ?_⟩, I.size, fun i hi => hstep (I.slots i hi), I.defers, I.ext.trans' L.ext (fun _ _ h => h.elim), ?_, I.lt, I.lent, I.gl, I.k, by rw [placeH_length]; exact I.len⟩
    · intro i j ci cj h1 h2 he
      rcases hcase i ci h1 with h3 | ⟨i', c', hi, rfl, h3, _⟩ <;> rcases hcase j cj h2 with h4 | ⟨j', d', hj, rfl, h4, _⟩
      · rw [hmo i ci h3, hmo j cj h4] at he
        exact I.rh.inj i j ci cj h3 h4 he
      · rw [hmo i ci h3, hmn _ hj] at he
        have := I.rh.lt h3
        have := L.new j' d' h4
        omega
      · rw [hmn _ hi, hmo j cj h4] at he
        have := I.rh.lt h4
        have := L.new i' c' h3
        omega
      · rw [hmn _ hi, hmn _ hj] at he
        rw [L.inj i' j' c' d' h3 h4 he]
    · intro j c h1
      exact .inr ⟨j, c, h1, rfl⟩
    · intro j c h1
      rcases hcase j c h1 with h2 | ⟨j', c', hj, rfl, h2, rfl⟩
      · rw [hmo j c h2]
        exact (I.rh.blk j c h2).step (L.ext.block _ (I.rh.lt h2) (fun h => h)) (fun v x => hstep)
      · rw [hmn _ hj]
        exact (L.blk j' c' h2).map rfl (ren_mb _ 2) (fun v x hx => hx.ren hR 2)
    · intro j c h1
      rcases hcase j c h1 with h2 | ⟨j', c', hj, rfl, h2, _⟩
      · rw [hmo j c h2]
        exact I.ids j c h2
      · refine .inr ⟨by omega, ?_⟩
        rw [hmn _ hj]
        exact Nat.le_trans I.ext.size (L.new j' c' h2)
  exact J.put (L.res.ren hR 3)

/-- A new block at a place of its own. -/
theorem Inv.place1F (fr : Nat × Nat) (I : Inv w0 m0 h0 av0 s a w m) (C : Array Value) (T : TypeId) (cs : List V) (off : Nat) (hpl : s.h[off]? = some none) (hoff : h0.length ≤ off) (hfr : FrOk fr C.size) (hl : cs.length ≤ C.size)
    (hc : ∀ i (hi : i < cs.length), RV w m s.h (avm av0 m s.h) true (C.getD i Go.undef) cs[i]) :
    Inv w0 m0 h0 av0 { s with h := s.h.set off (some cs) } a (w.alloc (.cells C T fr)) (mext m off w.heap.size) := by
  have hE : Ext (fun _ => False) w (w.alloc (.cells C T fr)) := Ext.alloc _ w _
  have hne : ∀ id c, s.h[id]? = some (some c) → id ≠ off := by rintro id c h rfl; rw [hpl] at h; cases h
  have hid0 : ∀ id c, s.h[id]? = some (some c) → mext m off w.heap.size id = m id := fun id c hid => if_neg (hne id c hid)
  have hnew : mext m off w.heap.size off = w.heap.size := if_pos rfl
  have hcase : ∀ (j : Nat) (c : List V), (s.h.set off (some cs))[j]? = some (some c) → (s.h[j]? = some (some c) ∧ j ≠ off) ∨ (j = off ∧ c = cs) := by
    intro j c h
    rcases hp_set hpl h with ⟨h1, h2⟩ | ⟨h1, h2⟩
    · exact .inr ⟨h1, h2⟩
    · exact .inl ⟨h2, h1⟩
  have hown : ∀ b, own (mext m off w.heap.size) (s.h.set off (some cs)) b → own m s.h b ∨ b = w.heap.size := by
    rintro b ⟨id, c, h1, rfl⟩
    rcases hcase id c h1 with ⟨h2, _⟩ | ⟨rfl, _⟩
    · exact .inl ⟨id, c, h2, (hid0 id c h2).symm⟩
    · exact .inr hnew
  have hav : ∀ b, b < w.heap.size → avm av0 (mext m off w.heap.size) (s.h.set off (some cs)) b → avm av0 m s.h b := by
    rintro b hb (h1 | h1)
    · exact .inl h1
    · rcases hown b h1 with h2 | h2
      · exact .inr h2
      · omega
  have hold : ∀ id c, s.h[id]? = some (some c) → (s.h.set off (some cs))[id]? = some (some c) := fun id c hid => by rw [List.getElem?_set_ne (Ne.symm (hne id c hid))]; exact hid
  have hstep : ∀ {o : Bool} {v : Value} {x : V}, RV w m s.h (avm av0 m s.h) o v x → RV (w.alloc (.cells C T fr)) (mext m off w.heap.size) (s.h.set off (some cs)) (avm av0 (mext m off w.heap.size) (s.h.set off (some cs))) o v x :=
    fun hx => hx.step (fun b off' v hb hcell => ⟨fun h => hb (hav b (World.block_lt_of_cell? w _ hcell) h), hE.cell hcell (fun h => h)⟩)
      (fun id c hid => ⟨c, hold id c hid, Nat.le_refl _, hid0 id c hid, hE.row _ (I.rh.lt hid), rfl⟩)
  refine ⟨⟨?_, ?_, ?_⟩, I.size, fun i hi => hstep (I.slots i hi), I.defers, I.ext.trans' hE (fun _ _ h => h.elim), ?_, I.lt, I.lent, I.gl, I.k, by simpa using I.len⟩
  · intro i j ci cj h1 h2 he
    rcases hcase i ci h1 with ⟨h3, _⟩ | ⟨h3, _⟩ <;> rcases hcase j cj h2 with ⟨h4, _⟩ | ⟨h4, _⟩
    · rw [hid0 i ci h3, hid0 j cj h4] at he
      exact I.rh.inj i j ci cj h3 h4 he
    · rw [hid0 i ci h3, h4, hnew] at he
      have := I.rh.lt h3; omega
    · rw [hid0 j cj h4, h3, hnew] at he
      have := I.rh.lt h4; omega
    · rw [h3, h4]
  · intro id c h1
    exact .inr ⟨id, c, h1, rfl⟩
  · intro id c h1
    rcases hcase id c h1 with ⟨h1, _⟩ | ⟨rfl, rfl⟩
    · rw [hid0 id c h1]
      exact (I.rh.blk id c h1).step (hE.block _ (I.rh.lt h1) (fun h => h)) (fun v x => hstep)
    · refine .inl ⟨C, T, fr, ?_, hfr, hl, fun i hi => hstep (hc i hi)⟩
      rw [hnew]
      exact heap_alloc_new w _
  · intro id c h1
    rcases hcase id c h1 with ⟨h1, _⟩ | ⟨rfl, _⟩
    · rw [hid0 id c h1]
      exact I.ids id c h1
    · exact .inr ⟨hoff, by rw [hnew]; exact I.ext.size⟩

theorem Inv.place1 (I : Inv w0 m0 h0 av0 s a w m) (C : Array Value) (T : TypeId) (cs : List V) (off : Nat) (hpl : s.h[off]? = some none) (hoff : h0.length ≤ off) (hl : cs.length ≤ C.size)
    (hc : ∀ i (hi : i < cs.length), RV w m s.h (avm av0 m s.h) true (C.getD i Go.undef) cs[i]) :
    Inv w0 m0 h0 av0 { s with h := s.h.set off (some cs) } a (w.alloc (.cells C T)) (mext m off w.heap.size) :=
  I.place1F (0, 0) C T cs off hpl hoff (.inl rfl) hl hc
theorem ptr_at {C : Array Value} {T : TypeId} {cs : List V} {off : Nat} (hpl : s.h[off]? = some none) (hmb : isMb cs = false) :
    RV (w.alloc (.cells C T)) (mext m off w.heap.size) (s.h.set off (some cs)) (avm av0 (mext m off w.heap.size) (s.h.set off (some cs))) true (.pointer (some ⟨w.heap.size, 0, none⟩)) (.ptr off 0) := by
  have := RV.ptr (w := w.alloc (.cells C T)) (m := mext m off w.heap.size) (h := s.h.set off (some cs)) (av := avm av0 (mext m off w.heap.size) (s.h.set off (some cs))) off 0 cs ⟨by rw [List.getElem?_set_self (id_lt hpl)], hmb⟩
  rw [show mext m off w.heap.size off = w.heap.size from if_pos rfl] at this
  exact this

theorem osl_at {C : Array Value} {T : TypeId} {cs : List V} {n sz off : Nat} (hpl : s.h[off]? = some none) (hmb : isMb cs = false) (hC : C.size = n * sz) (hcs : cs.length = n * sz) :
    RV (w.alloc (.cells C T)) (mext m off w.heap.size) (s.h.set off (some cs)) (avm av0 (mext m off w.heap.size) (s.h.set off (some cs))) true (.slice (some ⟨w.heap.size, 0, none⟩) n n) (.osl off 0 n sz) := by
  have e : mext m off w.heap.size off = w.heap.size := if_pos rfl
  have := RV.osl (w := w.alloc (.cells C T)) (m := mext m off w.heap.size) (h := s.h.set off (some cs)) (av := avm av0 (mext m off w.heap.size) (s.h.set off (some cs))) off 0 n n sz cs ⟨by rw [List.getElem?_set_self (id_lt hpl)], hmb⟩ (by omega) (Nat.le_refl _) (by
    rw [e]
    simp only [rowSize, heap_alloc_new]
    omega)
  rw [e] at this
  exact this

/-- Such an operation, over a state that bears its blocks' places. -/
theorem gop_ok (I : Inv w0 m0 h0 av0 s a w m) {ht : Hp} (hcmp : ∀ (id : Nat) (cs cs' : List V), s.h[id]? = some (some cs) → ht[id]? = some (some cs') → cs = cs') (hoff : h0.length ≤ ht.length) {o : Oper} {x0 : V} {n0 : Hp}
    (hpl : ∀ j, j < n0.length → s.h[ht.length + j]? = some none) (hq : gop P ht (ev s.t) o.op fun x n => x = x0 ∧ n = n0) {Kc : Act → World → Prop} {Q : Exit → Act → World → Prop}
    (hk : ∀ v w' m', Inv w0 m0 h0 av0 (({ s with h := placeH s.h ht.length n0 } : St).put o.dst x0) (a.put o.dst v) w' m' → Kc (a.put o.dst v) w') : o.wp P a w Kc Q := by
  obtain ⟨dst, op, ty, pos, after, guard⟩ := o
  unfold gop at hq
  dsimp only at hq
  split at hq
  · rename_i t
    split at hq
    · rename_i zs hz
      obtain ⟨i, z, h1, h2, rfl⟩ := zeroOf_some hz
      obtain ⟨rfl, rfl⟩ := hq
      have hp0 := hpl 0 (by simp)
      rw [Nat.add_zero] at hp0
      have hrow := row_zero (w := w) (m := m) (h := s.h) (av := avm av0 m s.h) z.cells
      have J := I.place1 z.cells t _ ht.length hp0 hoff (Nat.le_of_eq hrow.1.symm) hrow.2
      exact wp_value (v := .pointer (some ⟨w.heap.size, 0, none⟩)) (w' := w.alloc (.cells z.cells t)) (by simp [execOp, Instr.alloc, zeroValue, typeInfo, h1, h2, newVar, newRow]) (hk _ _ _ (J.put (ptr_at hp0 (notMb hrow.2))))
    · exact hq.elim
  · rename_i t x
    split at hq
    · rename_i cs hcs
      obtain ⟨rfl, rfl⟩ := hq
      have hp0 := hpl 0 (by simp)
      rw [Nat.add_zero] at hp0
      obtain ⟨g1, g2, g3⟩ := cellsOf_ok (I.ev x) hcs
      have J := I.place1 (a.eval x).cells t cs ht.length hp0 hoff (Nat.le_of_eq g1.symm) g2
      exact wp_value (v := .pointer (some ⟨w.heap.size, 0, none⟩)) (w' := w.alloc (.cells (a.eval x).cells t)) (by simp [execOp, Instr.box, newVar, newRow]) (hk _ _ _ (J.put (ptr_at hp0 (notMb g2))))
    · exact hq.elim
  · rename_i t parts
    obtain ⟨v, x, ⟨rfl, rfl⟩, h2, h3⟩ := build_ok (P := P) I.ev hq
    exact wp_value (v := v) (w' := w) (by simp [execOp, h3]) (hk _ _ _ (I.put h2))
  · rename_i t n parts
    split at hq
    · rename_i e sz by_ he
      split at hq
      · rename_i zs hz
        split at hq
        · rename_i cs hs
          obtain ⟨h1, h2, h3, rfl, rfl⟩ := hq
          have hp0 := hpl 0 (by simp)
          rw [Nat.add_zero] at hp0
          obtain ⟨D, hD, hrun⟩ := buildSlice_ok (P := P) I.ev he hz h1 h2 hs
          have J := I.place1 D e cs ht.length hp0 hoff (Nat.le_of_eq hD.1.symm) hD.2
          exact wp_value (v := .slice (some ⟨w.heap.size, 0, none⟩) n n) (w' := w.alloc (.cells D e)) (by simp [execOp, hrun]) (hk _ _ _ (J.put (osl_at hp0 (notMb hD.2) (by rw [hD.1, h3]) h3)))
        · exact hq.elim
      · exact hq.elim
    · exact hq.elim
  · rename_i t l c
    obtain ⟨k, n, h1, _, hq⟩ := at_int (I.ev l) hq
    obtain ⟨k', n', h2, _, hq⟩ := at_int (I.ev c) hq
    obtain ⟨rfl, hq⟩ := hq
    split at hq
    · rename_i e sz by_ he
      split at hq
      · rename_i zs hz
        obtain ⟨g1, g2, g3, rfl, rfl⟩ := hq
        have hp0 := hpl 0 (by simp)
        rw [Nat.add_zero] at hp0
        obtain ⟨D, hD, hrun⟩ := makeSlice_ok (P := P) (w := w) (m := m) (h := s.h) (av := avm av0 m s.h) he hz (k := k) (k' := k') g1 g2 g3
        have J := I.place1 D e _ ht.length hp0 hoff (Nat.le_of_eq hD.1.symm) hD.2
        have hl : (zrow (n'.toNat * sz) zs).length = n'.toNat * sz := by simp [zrow]
        exact wp_value (v := .slice (some ⟨w.heap.size, 0, none⟩) n'.toNat n'.toNat) (w' := w.alloc (.cells D e)) (by simp [execOp, h1, h2, hrun]) (hk _ _ _ (J.put (osl_at hp0 (notMb hD.2) (by rw [hD.1, hl]) hl)))
      · exact hq.elim
    · exact hq.elim
  · rename_i f args ts
    obtain ⟨⟨hr1, hr2⟩, hq⟩ := hq
    have hrm := rows_map (s := s) (av0 := av0) I.ev args
    have hq' : callA P s.h (ev s.t f) (args.toList.map (ev s.t)) fun r hout => ren (shf ht.length) 3 r = x0 ∧ shH ht.length hout = n0 :=
      callA_cmp I.rh hcmp (I.ev f) (vs := (args.map a.eval).toList) (by simp) (fun i hi => by
        have := hrm.2 i hi
        rw [Array.getD_eq_getD_getElem?] at this
        rw [List.getD_eq_getElem?_getD, Array.getElem?_toList]
        exact this) hr1 hr2 hq
    refine call_wp I I.ev hq' (fun r hout w' v m' avX h1 L => ?_)
    obtain ⟨rfl, rfl⟩ := h1
    refine hk v w' _ (L.place dst ht.length (fun j hj => hpl j (by simpa [shH] using hj)) hoff)
  · rename_i sT d x
    have quiet : (convH P ht sT d (ev s.t x) fun v => v = x0 ∧ [] = n0) → (⟨dst, .convert sT d x, ty, pos, after, guard⟩ : Oper).wp P a w Kc Q := by
      intro hq
      have hq : qop P ht (ev s.t) (.convert sT d x) fun v => v = x0 ∧ [] = n0 := hq
      have hq' := qop_cmp (P := P) hcmp I.ev hq
      obtain ⟨v, y, ⟨rfl, rfl⟩, h2, h3⟩ := qop_ok (P := P) I.rh I.ev (⟨dst, .convert sT d x, ty, pos, after, guard⟩ : Oper) hq'
      exact wp_value h3 (hk _ _ _ (I.put h2))
    have hx := I.ev x
    generalize hu : a.eval x = u at hx
    generalize hy : ev s.t x = y at hx hq
    cases y with
    | str b =>
      change convB (isU8S P d) _ _ at hq
      generalize hu8 : isU8S P d = t at hq
      cases t with
      | false => exact quiet (by rw [hy]; exact hq)
      | true =>
        obtain ⟨hs, rfl, rfl⟩ := hq
        have hp0 := hpl 0 (by simp)
        rw [Nat.add_zero] at hp0
        obtain ⟨e, g1, g2⟩ := isU8S_some hu8
        obtain ⟨C, hC1, hC2, hrun⟩ := run_stringToBytes (P := P) w sT d e g1 g2 (isStr_some hs) b
        have hge := grownCap_ge w b.size 0 e
        have hl : (strCells b).length = b.size := by simp [strCells]
        have ID := I.world (Ext.drew (fun _ => False) w)
        have hub : u = .string b := by cases hx; rfl
        have hrow : ∀ i (hi : i < (strCells b).length), RV w.drew m s.h (avm av0 m s.h) true (C.getD i Go.undef) (strCells b)[i] := by
          intro i hi
          rw [hC2 i hi]
          have hi2 : i < b.size := by omega
          have : (strCells b)[i] = .int .u8 ((b.data.toList.getD i 0).toNat) := by simp [strCells, List.getD, hi2]
          rw [this]
          exact .int _ _
        have J := ID.place1F (C.size, C.size + 1) C e (strCells b) ht.length hp0 hoff (.inr (Nat.le_refl _)) (by omega) hrow
        refine wp_value (v := .slice (some ⟨w.heap.size, 0, none⟩) b.size (grownCap w b.size 0 e)) (w' := w.drew.alloc (.cells C e (C.size, C.size + 1))) (by simp [execOp, hu, hub, hrun]) (hk _ _ _ (J.put ?_))
        have e1 : mext m ht.length w.drew.heap.size ht.length = w.heap.size := if_pos rfl
        have := RV.osl (w := w.drew.alloc (.cells C e (C.size, C.size + 1))) (m := mext m ht.length w.drew.heap.size) (h := s.h.set ht.length (some (strCells b))) (av := avm av0 (mext m ht.length w.drew.heap.size) (s.h.set ht.length (some (strCells b)))) ht.length 0 b.size (grownCap w b.size 0 e) 1 (strCells b) ⟨by rw [List.getElem?_set_self (id_lt hp0)], notMb hrow⟩ (by omega) hge (by
          rw [e1]
          have := heap_alloc_new w.drew (.cells C e (C.size, C.size + 1))
          have hd : w.drew.heap.size = w.heap.size := rfl
          rw [hd] at this
          simp only [rowSize, this]
          omega)
        rw [e1] at this
        exact this
    | _ => exact quiet (by rw [hy]; exact hq)
  · have hq' := qop_cmp (P := P) hcmp I.ev hq
    obtain ⟨v, x, ⟨rfl, rfl⟩, h2, h3⟩ := qop_ok (P := P) I.rh I.ev (⟨dst, op, ty, pos, after, guard⟩ : Oper) hq'
    exact wp_value h3 (hk _ _ _ (I.put h2))

end
end Go.Lv
