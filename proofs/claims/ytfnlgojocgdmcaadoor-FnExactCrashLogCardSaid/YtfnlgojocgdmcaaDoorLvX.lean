/-
  Chains of appends in a region whose order is drawn: what they do in the world. Conditions: none.
-/
import Derived.Test.YtfnlgojocgdmcaaDoorLvN
set_option linter.unusedSimpArgs false
set_option linter.unusedVariables false
namespace Go.Lv

def cutF (n id : Nat) : R := if id < n then .to id else .kill
def cutB (n : Nat) (b : Option (List V)) : Option (List V) := b.map (List.map (ren (cutF n) 2))
def cutH (n : Nat) (h : Hp) : Hp := (h.take n).map (cutB n)

section
variable {P : Program} {w0 : World} {m0 : Nat → Nat} {h0 : Hp} {av0 : Nat → Prop} {s : St} {a : Act} {w : World} {m : Nat → Nat}

/-- Slots of which less is said. -/
theorem Inv.le {t t2 : List V} {h : Hp} {k : Nat} (I : Inv w0 m0 h0 av0 ⟨t, h, k⟩ a w m) (hl : t2.length = t.length) (hle : ∀ i (hi : i < t.length) (hi' : i < t2.length), t2[i] = t[i] ∨ t2[i] = .undef) : Inv w0 m0 h0 av0 ⟨t2, h, k⟩ a w m := by
  refine ⟨I.rh, by rw [I.size]; exact hl.symm, fun i hi => ?_, I.defers, I.ext, I.ids, I.lt, I.lent, I.gl, I.k, I.len⟩
  have hi' : i < t.length := by simpa [hl] using hi
  rcases hle i hi' hi with e | e
  · dsimp only; rw [e]; exact I.slots i hi'
  · dsimp only; rw [e]; exact .undef _

/-- An append to a block that nobody else may know of: what is said of other slots stays. -/
theorem app_ghost (I : Inv w0 m0 h0 av0 s a w m) {t ty : TypeId} {y : V} {xv yv : Value} {g n e sz by_ : Nat} {zs cs cs2 : List V} {n2 : Nat} (hx : RV w m s.h (avm av0 m s.h) true xv (.osl g 0 n sz)) (hg : s.h[g]? = some (some cs)) (hn : n * sz = cs.length)
    (he : elOf P t = some (e, sz, by_)) (hz : zeroOf P e = some zs) (hzl : zs.length = sz) (hy : RV w m s.h (avm av0 m s.h) true yv y) (hsrc : srcV s.h sz none y fun k ys => k = n2 ∧ ys = cs2)
    (hb : (n + n2) * by_ ≤ 140737488355328) (h63 : n + n2 ≤ 4611686018427387904) :
    ∃ v w' m', (Builtin.append_ #[t, t] ty #[xv, yv]).run P w = .ok v w' ∧
      ((Inv w0 m0 h0 av0 { s with h := s.h.set g (some (cs ++ cs2)) } a w' m' ∧ RV w' m' (s.h.set g (some (cs ++ cs2))) (avm av0 m' (s.h.set g (some (cs ++ cs2)))) true v (.osl g 0 (n + n2) sz)) ∨
       (Inv w0 m0 h0 av0 { s with h := s.h ++ [some (cs ++ cs2)] } a w' m' ∧ RV w' m' (s.h ++ [some (cs ++ cs2)]) (avm av0 m' (s.h ++ [some (cs ++ cs2)])) true v (.osl s.h.length 0 (n + n2) sz))) := by
  obtain ⟨i, h1, h2, rfl, rfl⟩ := elOf_some he
  obtain ⟨i', z, h5, h6, rfl⟩ := zeroOf_some hz
  rw [h2] at h5; simp at h5; subst h5
  have hzs : z.cells.size = i.size := by simpa using hzl
  cases hx with
  | osl id off n cap wd cs' hid hl hc hs =>
    have hcs : cs' = cs := by
      have := hid.1
      rw [hg] at this
      simpa using this.symm
    subst hcs
    obtain ⟨k2, ys, news, ⟨rfl, rfl⟩, hlen, hf, hl1, hl2, hone, hr⟩ := src_ok (P := P) I.rh hy hsrc
    obtain ⟨C, T, fr, hC, hfr, hCl, hCr⟩ := (I.rh.blk g cs' hid.1).cells hid.2
    have hrs : rowSize w (m g) = C.size := by simp [rowSize, hC]
    rw [hrs] at hs
    by_cases hroom : n + k2 ≤ cap
    · have hfit : 0 + n * i.size + news.length ≤ C.size := by
        rw [hl1]
        have : (n + k2) * i.size ≤ cap * i.size := Nat.mul_le_mul_right _ hroom
        rw [Nat.add_mul] at this
        omega
      have hrun := run_append_fit (P := P) (w := w) t t ty e i e h1 h1 h2 (m g) 0 n cap C T hC hfr yv k2 news (hlen w) (hf w (fun _ => rfl)) hone hroom hfit
      have hD : (C.toList.take (0 + n * i.size) ++ news ++ C.toList.drop (0 + n * i.size + news.length)).toArray.size = C.size := by simp; omega
      have hrow := row_both (w := w) (m := m) (s := s) (av0 := av0) (cs := cs') (cs2 := ys) (olds := C.toList.take (0 + n * i.size)) (news := news) (by simp; omega) (by omega)
        (fun j hj => by
          have hj' : j < C.size := by omega
          have := hCr j hj
          rw [Array.getD_eq_getD_getElem?] at this
          rw [List.getD, List.getElem?_take_of_lt (by omega), Array.getElem?_toList]
          exact this) hr (C.toList.drop (0 + n * i.size + news.length)).toArray
      obtain ⟨J, _⟩ := I.setRow (cs' := cs' ++ ys) hid hC hfr hD (by simp) (by simp; omega) (fun j hj => by simpa using hrow j hj)
      refine ⟨_, _, _, hrun, .inl ⟨J, ?_⟩⟩
      have hmb : isMb (cs' ++ ys) = false := notMb (C := (C.toList.take (0 + n * i.size) ++ news ++ C.toList.drop (0 + n * i.size + news.length)).toArray) (fun j hj => by simpa using hrow j hj)
      refine .osl g 0 (n + k2) cap i.size (cs' ++ ys) ⟨by rw [List.getElem?_set_self (id_lt hid.1)], hmb⟩ (by simp; rw [hl2, Nat.add_mul]; omega) hroom ?_
      simp only [rowSize, setRow_heap w (m g) C _ T _ hC]
      omega
    · have hfit : Builtin.nextslicecap (n + k2) cap * i.bytes ≤ 281474976710656 := growslice_fits (by omega) hb
      have holds : (Builtin.firstCells i.size n (.slice (some ⟨m g, 0, none⟩) n cap)).run P w.drew = .ok (C.toList.take (n * i.size)).toArray w.drew := by
        refine run_firstCells_some w.drew i.size n ⟨m g, 0, none⟩ n cap _ (by simp; omega) (fun j v hj => ?_)
        have hlt : j < n * i.size := by
          have := (List.getElem?_eq_some_iff.1 hj).1
          simp at this; omega
        rw [List.getElem?_take_of_lt hlt, Array.getElem?_toList] at hj
        rw [Addr.add_lit, Nat.zero_add]
        exact (cell_of_row w (m g) j C T fr hC).trans hj
      have hrun := run_append_more (P := P) (w := w) t t ty e i z e h1 h1 h2 h6 (some ⟨m g, 0, none⟩) n cap (C.toList.take (n * i.size)) yv k2 news (hlen w) (hf w.drew (fun _ => rfl)) holds (by omega) (by omega) hfit
      have ID := I.world (Ext.drew (fun _ => False) w)
      have hstep : ∀ {o : Bool} {v : Value} {x : V}, RV w m s.h (avm av0 m s.h) o v x → RV w.drew m s.h (avm av0 m s.h) o v x :=
        fun hx => RV.step (w := w) (w' := w.drew) (m := m) (m' := m) (h := s.h) (h' := s.h) (av := avm av0 m s.h) (av' := avm av0 m s.h) (fun b off v hb hc => ⟨hb, hc⟩) (fun id c hid => ⟨c, hid, Nat.le_refl _, rfl, Nat.le_refl _, rfl⟩) hx
      have hrow := row_both (w := w) (m := m) (s := s) (av0 := av0) (cs := cs') (cs2 := ys) (olds := C.toList.take (n * i.size)) (news := news) (by simp; omega) (by omega)
        (fun j hj => by
          have hj' : j < C.size := by omega
          have := hCr j hj
          rw [Array.getD_eq_getD_getElem?] at this
          rw [List.getD, List.getElem?_take_of_lt (by omega), Array.getElem?_toList]
          exact this) hr (Builtin.zeroCells z.cells (grownCap w (n + k2) cap e - (n + k2)))
      obtain ⟨J, _⟩ := ID.alloc ((C.toList.take (n * i.size)).toArray ++ news.toArray ++ Builtin.zeroCells z.cells (grownCap w (n + k2) cap e - (n + k2))) e (cs' ++ ys) (by simp; omega) (fun j hj => hstep (hrow j hj))
      refine ⟨_, _, _, hrun, .inr ⟨J, ?_⟩⟩
      have hmb : isMb (cs' ++ ys) = false := notMb hrow
      have hge := grownCap_ge w (n + k2) cap e
      have hdrew : w.drew.heap.size = w.heap.size := rfl
      have := RV.osl (w := w.drew.alloc (.cells ((C.toList.take (n * i.size)).toArray ++ news.toArray ++ Builtin.zeroCells z.cells (grownCap w (n + k2) cap e - (n + k2))) e)) (m := mext m s.h.length w.drew.heap.size) (h := s.h ++ [some (cs' ++ ys)])
        (av := avm av0 (mext m s.h.length w.drew.heap.size) (s.h ++ [some (cs' ++ ys)])) s.h.length 0 (n + k2) (grownCap w (n + k2) cap e) i.size (cs' ++ ys) ⟨by simp, hmb⟩ (by simp; rw [hl2, Nat.add_mul]; omega) (by omega) (by
          rw [mext_new]
          simp only [rowSize, heap_alloc_new, Array.size_append, List.size_toArray, List.length_take, Array.length_toList, size_zeroCells, hzs, hl1]
          have e1 : min (n * i.size) C.size = n * i.size := by omega
          rw [e1, ← Nat.add_mul, ← Nat.add_mul, Nat.zero_add]
          exact Nat.mul_le_mul_right _ (by omega))
      rw [mext_new] at this
      simpa using this

/-- The blocks from n on are forgotten, but for some that are told: these come behind. -/
theorem Inv.close {t t2 : List V} {h : Hp} {k : Nat} (I : Inv w0 m0 h0 av0 ⟨t, h, k⟩ a w m) (n : Nat) (hk : k ≤ n) (hn : n ≤ h.length) (gs : List (Nat × List V)) (hgs : ∀ p ∈ gs, n ≤ p.1 ∧ h[p.1]? = some (some p.2) ∧ p.2.all (noOwn 2) = true ∧ isMb p.2 = false)
    (hnd : ∀ (i j : Nat) (p q : Nat × List V), gs[i]? = some p → gs[j]? = some q → i ≠ j → p.1 ≠ q.1) (hl : t2.length = t.length)
    (ht : ∀ i (hi : i < t.length) (hi' : i < t2.length), LeV (Lv.ren (cutF n) 3 t[i]) t2[i] ∨ ∃ j p c d, gs[j]? = some p ∧ t[i] = .osl p.1 0 c d ∧ t2[i] = .osl (n + j) 0 c d) :
    ∃ m', Inv w0 m0 h0 av0 ⟨t2, cutH n h ++ gs.map fun p => some p.2, k⟩ a w m' := by
  let m' : Nat → Nat := fun j => if j < n then m j else m ((gs[j - n]?).getD (0, [])).1
  have hcl : (cutH n h).length = n := by simp [cutH]; omega
  have hcase : ∀ (j : Nat) (c : List V), (cutH n h ++ gs.map fun p => some p.2)[j]? = some (some c) → (j < n ∧ ∃ c0, h[j]? = some (some c0) ∧ c = c0.map (Lv.ren (cutF n) 2)) ∨ (n ≤ j ∧ ∃ p, gs[j - n]? = some p ∧ c = p.2) := by
    intro j c hj
    rcases Nat.lt_or_ge j n with hlt | hge
    · rw [List.getElem?_append_left (by omega)] at hj
      simp only [cutH, List.getElem?_map, List.getElem?_take_of_lt hlt] at hj
      cases h2 : h[j]? with
      | none => simp [h2] at hj
      | some b =>
        cases b with
        | none => simp [h2, cutB] at hj
        | some c0 => simp [h2, cutB] at hj; exact .inl ⟨hlt, c0, rfl, hj.symm⟩
    · rw [List.getElem?_append_right (by omega), hcl, List.getElem?_map] at hj
      cases h2 : gs[j - n]? with
      | none => simp [h2] at hj
      | some p => simp [h2] at hj; exact .inr ⟨hge, p, rfl, hj.symm⟩
  have hold : ∀ j, j < n → m' j = m j := fun j hj => if_pos hj
  have hnew : ∀ j p, n ≤ j → gs[j - n]? = some p → m' j = m p.1 := fun j p hj hp => by
    show (if j < n then _ else _) = _
    rw [if_neg (by omega), hp]; rfl
  have hmem : ∀ {j : Nat} {p : Nat × List V}, gs[j]? = some p → n ≤ p.1 ∧ h[p.1]? = some (some p.2) ∧ p.2.all (noOwn 2) = true ∧ isMb p.2 = false := fun hp => hgs _ (List.mem_of_getElem? hp)
  have hown : ∀ b, own m' (cutH n h ++ gs.map fun p => some p.2) b → own m h b := by
    rintro b ⟨j, c, h1, rfl⟩
    rcases hcase j c h1 with ⟨hlt, c0, h2, _⟩ | ⟨hge, p, h2, _⟩
    · exact ⟨j, c0, h2, (hold j hlt).symm⟩
    · exact ⟨p.1, p.2, (hmem h2).2.1, (hnew j p hge h2).symm⟩
  have hput : ∀ (j : Nat) (c : List V), j < n → h[j]? = some (some c) → (cutH n h ++ gs.map fun p => some p.2)[j]? = some (some (c.map (Lv.ren (cutF n) 2))) := by
    intro j c hlt hj
    rw [List.getElem?_append_left (by omega)]
    simp [cutH, List.getElem?_take_of_lt hlt, hj, cutB]
  have hR : Ren w w m m' h (cutH n h ++ gs.map fun p => some p.2) (avm av0 m h) (avm av0 m' (cutH n h ++ gs.map fun p => some p.2)) (cutF n) := by
    refine ⟨fun b off v hb hc => ⟨fun h => hb (h.imp (fun x => x) (hown b)), hc⟩, fun j c j' hj hf => ?_, fun j c c' hj hf => ?_⟩
    · unfold cutF at hf
      split at hf
      · rename_i hlt; simp at hf; subst hf
        exact ⟨_, hput j c hlt hj, by simp, hold j hlt, Nat.le_refl _, isMb_ren _ _ _⟩
      · cases hf
    · unfold cutF at hf
      split at hf <;> cases hf
  have hro : ∀ {v : Value} {x : V}, noOwn 2 x = true → RV w m h (avm av0 m h) true v x → RV w m' (cutH n h ++ gs.map fun p => some p.2) (avm av0 m' (cutH n h ++ gs.map fun p => some p.2)) true v x := fun hx hv =>
    ((RV.noOwn 2 _ hx hv).ro_step (fun b off u hb hc => ⟨fun h => hb (h.imp (fun x => x) (hown b)), hc⟩) rfl).weak
  refine ⟨m', ⟨fun i j ci cj h1 h2 he => ?_, fun j c h1 => .inr ⟨j, c, h1, rfl⟩, fun j c h1 => ?_⟩, by rw [I.size]; exact hl.symm, fun i hi => ?_, I.defers, I.ext, fun j c h1 => ?_, I.lt, I.lent, I.gl, I.k, ?_⟩
  · rcases hcase i ci h1 with ⟨l1, c0, g1, _⟩ | ⟨l1, p, g1, _⟩ <;> rcases hcase j cj h2 with ⟨l2, c1, g2, _⟩ | ⟨l2, q, g2, _⟩
    · rw [hold i l1, hold j l2] at he
      exact I.rh.inj i j c0 c1 g1 g2 he
    · rw [hold i l1, hnew j q l2 g2] at he
      have := I.rh.inj i q.1 c0 q.2 g1 (hmem g2).2.1 he
      have := (hmem g2).1
      omega
    · rw [hnew i p l1 g1, hold j l2] at he
      have := I.rh.inj p.1 j p.2 c1 (hmem g1).2.1 g2 he
      have := (hmem g1).1
      omega
    · rw [hnew i p l1 g1, hnew j q l2 g2] at he
      have h3 := I.rh.inj p.1 q.1 p.2 q.2 (hmem g1).2.1 (hmem g2).2.1 he
      by_cases e : i = j
      · exact e
      · exact absurd h3 (hnd (i - n) (j - n) p q g1 g2 (by omega))
  · rcases hcase j c h1 with ⟨l1, c0, g1, rfl⟩ | ⟨l1, p, g1, rfl⟩
    · rw [hold j l1]
      exact (I.rh.blk j c0 g1).map rfl (ren_mb _ 2) (fun v x hx => hx.ren hR 2)
    · rw [hnew j p l1 g1]
      have hpl := (hmem g1).2.2.1
      have hmb := (hmem g1).2.2.2
      rcases I.rh.blk p.1 p.2 (hmem g1).2.1 with ⟨C, T, fr, hC, hfr, hCl, hCr⟩ | ⟨E, c, es, g3, g4, g5⟩
      · exact .inl ⟨C, T, fr, hC, hfr, hCl, fun i hi => hro (List.all_eq_true.1 hpl _ (List.getElem_mem _)) (hCr i hi)⟩
      · rw [g4] at hmb
        cases hmb
  · have hi' : i < t.length := by rw [← hl]; exact hi
    rcases ht i hi' hi with hle | ⟨j, p, c, d, hp, e1, e2⟩
    · exact ((I.slots i hi').ren hR 3).le hle
    · have hx := I.slots i hi'
      dsimp only at hx ⊢
      rw [e1] at hx
      rw [e2]
      generalize a.tmps.getD i Go.undef = u at hx
      cases hx with
      | osl id off n' cap wd cs hid hl' hc hs =>
        have hj : (n + j) - n = j := by omega
        have hm := hnew (n + j) p (by omega) (by rw [hj]; exact hp)
        rw [← hm]
        have hcs : cs = p.2 := by
          have := (hmem hp).2.1
          rw [hid.1] at this
          simpa using this
        subst hcs
        refine .osl (n + j) 0 c cap d p.2 ⟨?_, hid.2⟩ hl' hc (by rw [hm]; exact hs)
        rw [List.getElem?_append_right (by omega), hcl, hj, List.getElem?_map, hp]
        rfl
  · rcases hcase j c h1 with ⟨l1, c0, g1, rfl⟩ | ⟨l1, p, g1, _⟩
    · rw [hold j l1, List.length_map]; exact I.ids j c0 g1
    · rw [hnew j p l1 g1]
      rcases I.ids p.1 p.2 (hmem g1).2.1 with ⟨g2, _⟩ | ⟨g2, g3⟩
      · have := (hmem g1).1
        have hk0 := I.k
        dsimp only at hk0
        omega
      · exact .inr ⟨by have hk0 := I.k; dsimp only at hk0; omega, g3⟩
  · have hk0 := I.k
    dsimp only at hk0 ⊢
    rw [List.length_append, hcl]
    omega
end
end Go.Lv
