/-
  Each operation that only reads does in the world what it does on pure values. Conditions: none.
-/
import Derived.Test.YtfnlgojocgdmcaaDoorLvB
set_option linter.unusedSimpArgs false
set_option linter.unusedVariables false
namespace Go.Lv

section
variable {P : Program} {w : World} {m : Nat → Nat} {h : Hp} {av : Nat → Prop}

theorem rv_agg {o : Bool} {v : Value} {cs : List V} (hx : RV w m h av o v (.agg cs)) : ∃ a : Array Value, v = .agg a ∧ a.size = cs.length ∧ ∀ i (hi : i < cs.length), RV w m h av o (a.getD i Go.undef) cs[i] := by
  cases hx with
  | agg a a' ha hra => exact ⟨a, rfl, ha, hra⟩

/-- The cells at an address, as a load of a whole variable meets them. -/
theorem run_load_cells (t : TypeId) (i : TypeInfo) (d : TypeDesc) (hi : P.info? t = some i) (hd : P.underlying t = some d) (b off : Nat) (cs : List V) {o : Bool}
    (hc : ∀ j (hj : j < cs.length), ∃ v, w.cell? ⟨b, off + j, none⟩ = some v ∧ RV w m h av o v cs[j]) (hsz : i.size ≤ cs.length) (hag : isAggD d = true ∨ i.size = 1) :
    ∃ v, (loadVar t ⟨b, off, none⟩).run P w = .ok v w ∧ RV w m h av o v (mk (isAggD d) (cs.take i.size)) := by
  have hcell : ∀ j, j < i.size → w.cell? ((⟨b, off, none⟩ : Addr).add j) = some ((w.cell? ⟨b, off + j, none⟩).getD Go.undef) := by
    intro j hj
    obtain ⟨v, hv, _⟩ := hc j (by omega)
    rw [Addr.add_lit, hv]
    rfl
  have hrl := run_loadCells (P := P) w ⟨b, off, none⟩ i.size (fun j => (w.cell? ⟨b, off + j, none⟩).getD Go.undef) hcell
  by_cases hd' : isAggD d = true
  · have e : (isAgg t).run P w = .ok true w := by
      unfold isAgg
      simp only [Sem.run_bind, run_underlying hd, Result.andThen_ok]
      cases d <;> simp [isAggD] at hd' <;> rfl
    refine ⟨_, by simp only [loadVar, Sem.run_bind, e, Result.andThen_ok, if_true, sizeOf, typeInfo, run_program, hi, Sem.run_pure, hrl]; rfl, ?_⟩
    rw [hd']
    refine .agg _ _ (by simp; omega) (fun j hj => ?_)
    have hj' : j < i.size := by simp at hj; omega
    obtain ⟨v, hv, hr⟩ := hc j (by omega)
    simp only [List.getElem_take]
    have : (((List.range i.size).map fun j => (w.cell? ⟨b, off + j, none⟩).getD Go.undef).toArray).getD j Go.undef = v := by
      simp [Array.getD, hj', hv]
    rw [this]
    exact hr
  · have hs1 : i.size = 1 := hag.resolve_left hd'
    have hdf : isAggD d = false := by simpa using hd'
    have e : (isAgg t).run P w = .ok false w := by
      unfold isAgg
      simp only [Sem.run_bind, run_underlying hd, Result.andThen_ok]
      cases d <;> simp [isAggD] at hd' <;> rfl
    obtain ⟨v, hv, hr⟩ := hc 0 (by omega)
    refine ⟨v, by simp only [loadVar, Sem.run_bind, e, Result.andThen_ok]; simpa using (by rw [run_load, show (⟨b, off, none⟩ : Addr) = ⟨b, off + 0, none⟩ from rfl, hv] : (load ⟨b, off, none⟩).run P w = .ok v w), ?_⟩
    rw [hdf, hs1]
    have : mk false (cs.take 1) = cs[0] := by
      cases cs with
      | nil => simp at hsz; omega
      | cons c l => rfl
    rw [this]
    exact hr

theorem run_part_cells (t : TypeId) (i : TypeInfo) (d : TypeDesc) (hi : P.info? t = some i) (hd : P.underlying t = some d) (off : Nat) (a : Array Value) (cs : List V) {o : Bool}
    (ha : a.size = cs.length) (hc : ∀ j (hj : j < cs.length), RV w m h av o (a.getD j Go.undef) cs[j]) (hsz : off + i.size ≤ cs.length) (hag : isAggD d = true ∨ i.size = 1) :
    ∃ v, (part t a off).run P w = .ok v w ∧ RV w m h av o v (mk (isAggD d) ((cs.drop off).take i.size)) := by
  by_cases hd' : isAggD d = true
  · have e : (isAgg t).run P w = .ok true w := by
      unfold isAgg
      simp only [Sem.run_bind, run_underlying hd, Result.andThen_ok]
      cases d <;> simp [isAggD] at hd' <;> rfl
    refine ⟨_, by simp only [part, Sem.run_bind, e, Result.andThen_ok, if_true, sizeOf, typeInfo, run_program, hi, Sem.run_pure]; rfl, ?_⟩
    rw [hd']
    refine .agg _ _ (by simp; omega) (fun j hj => ?_)
    have hj' : j < i.size := by simp at hj; omega
    simp only [List.getElem_take, List.getElem_drop]
    have := hc (off + j) (by omega)
    have e2 : (a.extract off (off + i.size)).getD j Go.undef = a.getD (off + j) Go.undef := by
      simp [Array.getD, show j < min (off + i.size) a.size - off from by omega, show off + j < a.size from by omega]
    rw [e2]
    exact this
  · have hs1 : i.size = 1 := hag.resolve_left hd'
    have hdf : isAggD d = false := by simpa using hd'
    have e : (isAgg t).run P w = .ok false w := by
      unfold isAgg
      simp only [Sem.run_bind, run_underlying hd, Result.andThen_ok]
      cases d <;> simp [isAggD] at hd' <;> rfl
    have hlt : off < a.size := by omega
    refine ⟨a[off], by simp only [part, Sem.run_bind, e, Result.andThen_ok]; simp [Array.getElem?_eq_getElem hlt], ?_⟩
    rw [hdf, hs1]
    have : mk false ((cs.drop off).take 1) = cs[off]'(by omega) := by
      have hlt' : off < cs.length := by omega
      rw [List.drop_eq_getElem_cons hlt']
      rfl
    rw [this]
    have := hc off (by omega)
    simpa [Array.getD, hlt] using this

theorem tszOf_some {t sz : Nat} {ag : Bool} (ht : tszOf P t = some (sz, ag)) : ∃ i d, P.info? t = some i ∧ P.underlying t = some d ∧ i.size = sz ∧ isAggD d = ag := by
  unfold tszOf at ht
  split at ht
  · rename_i i d h1 h2
    simp at ht
    exact ⟨i, d, h1, h2, ht.1, ht.2⟩
  · cases ht

theorem elOf_some {t e sz by_ : Nat} (ht : elOf P t = some (e, sz, by_)) : ∃ i, P.underlying t = some (.slice e) ∧ P.info? e = some i ∧ i.size = sz ∧ i.bytes = by_ := by
  unfold elOf at ht
  split at ht
  · rename_i e' h1
    split at ht
    · rename_i i h2
      simp at ht
      obtain ⟨rfl, h3, h4⟩ := ht
      exact ⟨i, h1, h2, h3, h4⟩
    · cases ht
  · cases ht

theorem fdOf_some {t f off sz : Nat} {ag : Bool} (ht : fdOf P t f = some (off, sz, ag)) : ∃ fs fd i d, P.underlying t = some (.struct fs) ∧ fs[f]? = some fd ∧ fd.offset = off ∧
    P.info? fd.type = some i ∧ P.underlying fd.type = some d ∧ i.size = sz ∧ isAggD d = ag := by
  unfold fdOf at ht
  split at ht
  · rename_i fs h1
    split at ht
    · rename_i fd h2
      split at ht
      · rename_i sz' ag' h3
        obtain ⟨i, d, h4, h5, h6, h7⟩ := tszOf_some h3
        simp at ht
        obtain ⟨h8, rfl, rfl⟩ := ht
        exact ⟨fs, fd, i, d, h1, h2, h8, h4, h5, h6, h7⟩
      · cases ht
    · cases ht
  · cases ht

theorem arOf_some {t n sz : Nat} {ag : Bool} (ht : arOf P t = some (n, sz, ag)) : ∃ e i d, P.underlying t = some (.array n e) ∧ P.info? e = some i ∧ P.underlying e = some d ∧ i.size = sz ∧ isAggD d = ag := by
  unfold arOf at ht
  split at ht
  · rename_i n' e h1
    split at ht
    · rename_i sz' ag' h3
      obtain ⟨i, d, h4, h5, h6, h7⟩ := tszOf_some h3
      simp at ht
      obtain ⟨rfl, rfl, rfl⟩ := ht
      exact ⟨e, i, d, h1, h4, h5, h6, h7⟩
    · cases ht
  · cases ht

/-- What the run of a pure operation gives. -/
def Gives (P : Program) (w : World) (m : Nat → Nat) (h : Hp) (av : Nat → Prop) (s : Sem Value) (K : V → Prop) : Prop :=
  ∃ v x, K x ∧ RV w m h av true v x ∧ s.run P w = .ok v w

theorem Gives.mk' {s : Sem Value} {K : V → Prop} {v : Value} {x : V} (hk : K x) (hr : RV w m h av true v x) (he : s.run P w = .ok v w) : Gives P w m h av s K := ⟨v, x, hk, hr, he⟩

theorem intBin_ok {op : BinOp} {k : IntKind} {a b : Int} {K : V → Prop} {t : TypeId} (hq : intBin op k a b K) : Gives P w m h av (binOp op t (.int k a) (.int k b)) K := by
  cases op <;> simp only [intBin] at hq
  case add => exact .mk' hq (.int _ _) (by simp [binOp, Op.intArith])
  case sub => exact .mk' hq (.int _ _) (by simp [binOp, Op.intArith])
  case mul => exact .mk' hq (.int _ _) (by simp [binOp, Op.intArith])
  case quo => exact .mk' hq.2 (.int _ _) (by simp [binOp, Op.intDiv, hq.1])
  case rem => exact .mk' hq.2 (.int _ _) (by simp [binOp, Op.intDiv, hq.1])
  case and => exact .mk' hq (.int _ _) (by simp [binOp, Op.intBits, andI])
  case shr => exact .mk' hq.2 (.int _ _) (by simp [binOp, Op.shift, shrI, show ¬ b < 0 from Int.not_lt.2 hq.1])
  case eql => exact .mk' hq (.bool _) (by simp [binOp, Op.intCmp])
  case neq => exact .mk' hq (.bool _) (by simp [binOp, Op.intCmp])
  case lss => exact .mk' hq (.bool _) (by simp [binOp, Op.intCmp])
  case leq => exact .mk' hq (.bool _) (by simp [binOp, Op.intCmp])
  case gtr => exact .mk' hq (.bool _) (by simp [binOp, Op.intCmp])
  case geq => exact .mk' hq (.bool _) (by simp [binOp, Op.intCmp])

theorem strBin_ok {op : BinOp} {a b : ByteArray} {K : V → Prop} {t : TypeId} (hq : strBin op a b K) : Gives P w m h av (binOp op t (.string a) (.string b)) K := by
  cases op <;> simp only [strBin] at hq
  case add =>
    refine .mk' hq.2 (.str _) ?_
    have : ¬ (9223372036854775807 < ((a.size : Int) + (b.size : Int))) := by omega
    simp [binOp, Op.stringOp, this]
  case eql => exact .mk' hq (.bool _) (by simp [binOp, Op.stringOp])
  case neq => exact .mk' hq (.bool _) (by simp [binOp, Op.stringOp])
  case lss => exact .mk' hq (.bool _) (by simp [binOp, Op.stringOp])
  case leq => exact .mk' hq (.bool _) (by simp [binOp, Op.stringOp])
  case gtr => exact .mk' hq (.bool _) (by simp [binOp, Op.stringOp])
  case geq => exact .mk' hq (.bool _) (by simp [binOp, Op.stringOp])

theorem eqV_ok {t : TypeId} {d : TypeDesc} (hd : P.underlying t = some d) {u v : Value} {x y : V} {r : Bool} (hx : RV w m h av true u x) (hy : RV w m h av true v y) (he : eqV d x y = some r) (n : Nat) :
    (Op.equalIn (n + 1) t u v).run P w = .ok r w := by
  unfold eqV at he
  split at he
  · split at he
    · rename_i hk; subst hk
      simp at he; subst he
      cases hx; cases hy
      exact run_equalIn_int w n t _ _ _ _ hd
    · cases he
  · simp at he; subst he
    cases hx; cases hy
    exact run_equalIn_bool w n t _ _ hd
  · simp at he; subst he
    cases hx; cases hy
    exact run_equalIn_string w n t _ _ hd
  · cases he

theorem eqFields_ok {xs ys : Array Value} {a b : List V} (hxs : xs.size = a.length) (hys : ys.size = b.length) (ha : ∀ i (hi : i < a.length), RV w m h av true (xs.getD i Go.undef) a[i])
    (hb : ∀ i (hi : i < b.length), RV w m h av true (ys.getD i Go.undef) b[i]) (n : Nat) : ∀ (fs : List Field) (i : Nat) (ds : List TypeDesc) (r : Bool), flatFs P fs i = some ds →
    eqL ds (a.drop i) (b.drop i) = some r → (Op.eqFields (n + 1) xs ys fs).run P w = .ok r w
  | [], i, ds, r, hf, he => by
    simp [flatFs] at hf; subst hf
    unfold eqL at he
    split at he
    · simp at he; subst he; rfl
    · rename_i heq _ _; cases heq
    · cases he
  | f :: fs, i, ds, r, hf, he => by
    simp only [flatFs] at hf
    split at hf
    · rename_i hc
      simp only [Bool.and_eq_true, beq_iff_eq, bne_iff_ne] at hc
      obtain ⟨hoff, hname⟩ := hc
      split at hf
      · rename_i inf d h1 h2
        split at hf
        · rename_i hty
          simp only [Bool.and_eq_true, beq_iff_eq] at hty
          cases hr : flatFs P fs (i + 1) with
          | none => simp [hr] at hf
          | some ds' =>
            simp [hr] at hf; subst hf
            have hia : i < a.length := by
              rcases Nat.lt_or_ge i a.length with h | h
              · exact h
              · rw [List.drop_of_length_le h] at he; simp [eqL] at he
            have hib : i < b.length := by
              rcases Nat.lt_or_ge i b.length with h | h
              · exact h
              · rw [List.drop_of_length_le h] at he; simp [eqL] at he
            rw [List.drop_eq_getElem_cons hia, List.drop_eq_getElem_cons hib] at he
            simp only [eqL] at he
            split at he
            · rename_i x y hx hy
              simp at he; subst he
              have hag : isAggD d = false := by
                have := hty.2
                cases d <;> simp_all [plainD, isAggD]
              have one : ∀ {zs : Array Value} {c : List V} (hz : zs.size = c.length) (hc : ∀ i (hi : i < c.length), RV w m h av true (zs.getD i Go.undef) c[i]) (hi : i < c.length), ∃ v, (part f.type zs f.offset).run P w = .ok v w ∧ RV w m h av true v c[i] := by
                intro zs c hz hc hi
                obtain ⟨v, hv, hr⟩ := run_part_cells (P := P) (w := w) (m := m) (h := h) (av := av) f.type inf d h1 h2 f.offset zs c hz hc (by rw [hoff, hty.1]; omega) (.inr hty.1)
                refine ⟨v, hv, ?_⟩
                rw [hag, hty.1, hoff] at hr
                rw [List.drop_eq_getElem_cons hi] at hr
                exact hr
              obtain ⟨u, hu, hru⟩ := one hxs ha hia
              obtain ⟨v, hv, hrv⟩ := one hys hb hib
              have heq := eqV_ok (P := P) h2 hru hrv hx n
              have ih := eqFields_ok hxs hys ha hb n fs (i + 1) ds' y hr hy
              simp only [Op.eqFields]
              rw [if_pos hname]
              simp only [Sem.run_bind, hu, hv, heq, Result.andThen_ok]
              cases x
              · simp
              · simpa using ih
            · cases he
        · cases hf
      · cases hf
    · cases hf

theorem bin_ok {op : BinOp} {x y : V} {u v : Value} {K : V → Prop} {t : TypeId} {ox oy : Operand} (hx : RV w m h av true u x) (hy : RV w m h av true v y) (hq : bin P op t x y K) :
    Gives P w m h av (do eqGuard op t ox oy u v; binOp op t u v) K := by
  unfold bin at hq
  split at hq
  · obtain ⟨rfl, hq⟩ := hq
    cases hx; cases hy
    obtain ⟨v, x, h1, h2, h3⟩ := intBin_ok (P := P) (w := w) (m := m) (h := h) (av := av) (t := t) hq
    exact ⟨v, x, h1, h2, by simp [eqGuard_at_int, h3]⟩
  · cases hx; cases hy
    obtain ⟨v, x, h1, h2, h3⟩ := strBin_ok (P := P) (w := w) (m := m) (h := h) (av := av) (t := t) hq
    exact ⟨v, x, h1, h2, by simp [eqGuard_at_string, h3]⟩
  · cases hx; cases hy
    obtain ⟨hb, hq⟩ := hq
    have hu : P.underlying t = some .bool := by
      unfold isBoolT at hb
      split at hb
      · assumption
      · cases hb
    split at hq
    · exact .mk' hq (.bool _) (by simp [eqGuard_at_bool, run_eql_bool _ _ _ _ hu])
    · exact .mk' hq (.bool _) (by simp [eqGuard_at_bool, run_neq_bool _ _ _ _ hu])
    · exact hq.elim
  · cases hx with
    | agg xs a ha hra => cases hy with
      | agg ys b hb hrb =>
        split at hq
        · rename_i ds hfl
          split at hq
          · rename_i r heq
            unfold flatEq at hfl
            split at hfl
            · rename_i fs hu
              split at hfl
              · cases hfl
              · rename_i hc
                simp only [Bool.or_eq_true, not_or, Bool.not_eq_true] at hc
                have hfo : P.fieldsOf t = fs := by simp [Program.fieldsOf, hu]
                have hrun : (Op.equalIn 10000 t (.agg xs) (.agg ys)).run P w = .ok r w := by
                  rw [run_equalIn_struct w 9999 t xs ys (by rw [hfo]; exact hu) hc.1, hfo]
                  exact eqFields_ok ha hb hra hrb 9998 fs.toList 0 ds r hfl (by simpa using heq)
                have hg : ∀ o, (eqGuard o t ox oy (.agg xs) (.agg ys)).run P w = .ok () w := fun o => run_eqGuard_agg w o t ox oy xs ys hc.2
                split at hq
                · exact .mk' hq (.bool _) (by simp only [Sem.run_bind, hg, Result.andThen_ok, run_eql_struct, hrun])
                · exact .mk' hq (.bool _) (by simp only [Sem.run_bind, hg, Result.andThen_ok, run_neq_struct, hrun])
                · exact hq.elim
            · cases hfl
          · exact hq.elim
        · exact hq.elim
  · exact hq.elim

theorem isStr_some {t : TypeId} (hb : isStr P t = true) : P.underlying t = some .string := by
  unfold isStr at hb
  split at hb
  · assumption
  · cases hb
theorem isSl_some {t : TypeId} (hb : isSl P t = true) : ∃ e, P.underlying t = some (.slice e) := by
  unfold isSl at hb
  split at hb
  · exact ⟨_, by assumption⟩
  · cases hb
theorem isIntT_some {t : TypeId} {k : IntKind} (hb : isIntT P t = some k) : P.underlying t = some (.int k) := by
  unfold isIntT at hb
  split at hb
  · simp at hb; subst hb; assumption
  · cases hb

theorem load_ok {u : Value} {x : V} {t : TypeId} {K : V → Prop} (H : RH w m h av) (hx : RV w m h av true u x) (hq : loadV P h t x K) : Gives P w m h av (Instr.loadAt t u) K := by
  unfold loadV at hq
  split at hq
  · rename_i sz ag ht
    obtain ⟨i, d, hi, hd, rfl, rfl⟩ := tszOf_some ht
    cases hx with
    | pt b off cs vals ha hv hr =>
      obtain ⟨h1, h2, h3⟩ := hq
      obtain ⟨v, hv, hr⟩ := run_load_cells (P := P) t i d hi hd b off cs (o := false) (fun j hj => ⟨_, hv j hj, hr j hj⟩) h1 h2
      exact .mk' h3 hr.weak (by simpa [Instr.loadAt, Instr.sureAddr] using hv)
    | ptr id off cs hid =>
      simp only [hid.1] at hq
      obtain ⟨h1, h2, h3⟩ := hq
      obtain ⟨v, hv, hr⟩ := run_load_cells (P := P) t i d hi hd (m id) off (cs.drop off) (o := true) (fun j hj => by
        obtain ⟨v, hv, hr⟩ := H.cell hid (i := off + j) (by simp at hj; omega)
        exact ⟨v, hv, by simpa using hr⟩) (by simp; omega) h2
      exact .mk' h3 hr (by simpa [Instr.loadAt, Instr.sureAddr] using hv)
    | _ => exact False.elim hq
  · exact hq.elim

theorem fieldAddr_ok {u : Value} {x : V} {s : TypeId} {f : Nat} {K : V → Prop} (hx : RV w m h av true u x) (hq : fieldAddrV P s f x K) : Gives P w m h av (Instr.fieldAt s u f) K := by
  unfold fieldAddrV at hq
  split at hq
  · rename_i off sz ag ht
    obtain ⟨fs, fd, i, d, h1, h2, rfl, h4, h5, rfl, h7⟩ := fdOf_some ht
    obtain ⟨hpos, hq⟩ := hq
    have hne : ¬ i.size = 0 := by omega
    have run : ∀ b o, (Instr.fieldAt s (.pointer (some ⟨b, o, none⟩)) f).run P w = .ok (.pointer (some ⟨b, o + fd.offset, none⟩)) w := by
      intro b o
      simp [Instr.fieldAt, run_underlying h1, h2, Instr.sureAddr, fieldPlace, sizeOf, typeInfo, h4, hne, Addr.add_lit]
    cases hx with
    | pt b o cs vals ha hv hr =>
      refine .mk' hq (.pt b (o + fd.offset) _ (fun j => vals (fd.offset + j)) (fun hne => ha (by rintro rfl; simp at hne)) (fun j hj => ?_) (fun j hj => ?_)) (run b o)
      · rw [Nat.add_assoc]; exact hv _ (by simp at hj; omega)
      · rw [List.getElem_drop]; exact hr _ _
    | ptr id o cs hid => exact .mk' hq (.ptr id _ cs hid) (run _ o)
    | _ => exact False.elim hq
  · exact hq.elim

theorem field_ok {u : Value} {x : V} {s : TypeId} {f : Nat} {K : V → Prop} (hx : RV w m h av true u x) (hq : fieldV P s f x K) : Gives P w m h av (Instr.field s u f) K := by
  unfold fieldV at hq
  split at hq
  · rename_i off sz ag ht
    obtain ⟨fs, fd, i, d, h1, h2, rfl, h4, h5, rfl, rfl⟩ := fdOf_some ht
    cases hx with
    | agg a cs ha hra =>
      obtain ⟨h6, h7, hk⟩ := hq
      obtain ⟨v, hv, hr⟩ := run_part_cells (P := P) (w := w) (m := m) (h := h) (av := av) fd.type i d h4 h5 fd.offset a cs ha hra h6 h7
      exact .mk' hk hr (by simp [Instr.field, run_underlying h1, h2, asAgg, hv])
    | _ => exact False.elim hq
  · exact hq.elim

theorem run_indexAt_sl (t e : TypeId) (i : TypeInfo) (ht : P.underlying t = some (.slice e)) (hi : P.info? e = some i) (b off n cap : Nat) (k : IntKind) (z : Int) (h0 : 0 ≤ z) (h1 : z < n) :
    (Instr.indexAt t (.slice (some ⟨b, off, none⟩) n cap) (.int k z)).run P w = .ok (.pointer (some ⟨b, off + z.toNat * i.size, none⟩)) w := by
  simp [Instr.indexAt, asIntOf, run_underlying ht, h0, h1, sizeOf, typeInfo, hi, Addr.add_lit]

theorem run_indexAt_ar (t e l : TypeId) (i : TypeInfo) (ht : P.underlying t = some (.array l e)) (hi : P.info? e = some i) (b off : Nat) (k : IntKind) (z : Int) (h0 : 0 ≤ z) (h1 : z < l) :
    (Instr.indexAt t (.pointer (some ⟨b, off, none⟩)) (.int k z)).run P w = .ok (.pointer (some ⟨b, off + z.toNat * i.size, none⟩)) w := by
  simp [Instr.indexAt, Instr.sureAddr, asIntOf, run_underlying ht, h0, h1, sizeOf, typeInfo, hi, Addr.add_lit]

theorem mul_room {i n w L : Nat} (h : i < n) (hl : L = n * w) : i * w + w ≤ L := by
  subst hl
  calc i * w + w = (i + 1) * w := by rw [Nat.add_mul, Nat.one_mul]
    _ ≤ n * w := Nat.mul_le_mul_right _ h

theorem indexAddr_ok {u v : Value} {x : V} {k : IntKind} {z : Int} {t : TypeId} {K : V → Prop} (hx : RV w m h av true u x) (hv : v = .int k z) (hq : indexAddrV P t x z K) : Gives P w m h av (Instr.indexAt t u v) K := by
  unfold indexAddrV at hq
  subst hv
  cases hx with
  | sl b off n cap wd cs vals hl ha hc hcell hr =>
    dsimp only at hq
    split at hq
    · rename_i e sz by_ he
      obtain ⟨i, h1, h2, rfl, h4⟩ := elOf_some he
      obtain ⟨⟨h5, h6⟩, rfl, hk⟩ := hq
      have hzn : z.toNat < n := by omega
      have hroom : z.toNat * i.size + i.size ≤ cs.length := mul_room hzn hl
      refine .mk' hk (.pt b (off + z.toNat * i.size) _ (fun j => vals (z.toNat * i.size + j)) (fun hne => ha (by rintro rfl; simp at hne)) (fun j hj => ?_) (fun j hj => ?_)) (run_indexAt_sl t e i h1 h2 b off n cap k z h5 h6)
      · rw [Nat.add_assoc]; exact hcell _ (by simp at hj; omega)
      · simp only [List.getElem_take, List.getElem_drop]; exact hr _ _
    · exact hq.elim
  | slz a c wd =>
    dsimp only at hq
    split at hq
    · exact absurd hq.1 (by omega)
    · exact hq.elim
  | osl id off n cap wd cs hid hl hc hs =>
    dsimp only at hq
    split at hq
    · rename_i e sz by_ he
      obtain ⟨i, h1, h2, rfl, h4⟩ := elOf_some he
      obtain ⟨⟨h5, h6⟩, rfl, hk⟩ := hq
      exact .mk' hk (.ptr id _ cs hid) (run_indexAt_sl t e i h1 h2 _ off n cap k z h5 h6)
    · exact hq.elim
  | ptr id off cs hid =>
    dsimp only at hq
    split at hq
    · rename_i n sz ag he
      obtain ⟨e, i, d, h1, h2, h3, rfl, rfl⟩ := arOf_some he
      obtain ⟨⟨h5, h6⟩, hk⟩ := hq
      exact .mk' hk (.ptr id _ cs hid) (run_indexAt_ar t e n i h1 h2 _ off k z h5 h6)
    · exact hq.elim
  | pt b off cs vals ha hcell hr =>
    dsimp only at hq
    split at hq
    · rename_i n sz ag he
      obtain ⟨e, i, d, h1, h2, h3, rfl, rfl⟩ := arOf_some he
      obtain ⟨⟨h5, h6⟩, hk⟩ := hq
      refine .mk' hk (.pt b (off + z.toNat * i.size) _ (fun j => vals (z.toNat * i.size + j)) (fun hne => ha (by rintro rfl; simp at hne)) (fun j hj => ?_) (fun j hj => ?_)) (run_indexAt_ar t e n i h1 h2 b off k z h5 h6)
      · rw [Nat.add_assoc]; exact hcell _ (by simp at hj; omega)
      · simp only [List.getElem_drop]; exact hr _ _
    · exact hq.elim
  | _ => exact False.elim hq

theorem index_ok {u v : Value} {x : V} {k : IntKind} {z : Int} {t : TypeId} {K : V → Prop} (hx : RV w m h av true u x) (hv : v = .int k z) (hq : indexV P t x z K) : Gives P w m h av (Instr.index t u v) K := by
  unfold indexV at hq
  subst hv
  cases hx with
  | str s =>
    obtain ⟨hs, hi, hk⟩ := hq
    have hu := isStr_some hs
    refine .mk' hk (.int _ _) ?_
    have hget : s[z.toNat]? = some (s[z.toNat]'hi.2) := by
      simp [getElem?_pos, hi.2]
    simp [Instr.index, asIntOf, run_underlying hu, hi.1, hget]
  | agg a cs ha hra =>
    dsimp only at hq
    split at hq
    · rename_i n sz ag he
      obtain ⟨e, i, d, h1, h2, h3, rfl, rfl⟩ := arOf_some he
      obtain ⟨⟨h5, h6⟩, h7, h8, hk⟩ := hq
      obtain ⟨v, hv, hr⟩ := run_part_cells (P := P) (w := w) (m := m) (h := h) (av := av) e i d h2 h3 (z.toNat * i.size) a cs ha hra h7 h8
      exact .mk' hk hr (by simp [Instr.index, asIntOf, run_underlying h1, h5, h6, sizeOf, typeInfo, h2, hv])
    · exact hq.elim
  | _ => exact False.elim hq

end
end Go.Lv
