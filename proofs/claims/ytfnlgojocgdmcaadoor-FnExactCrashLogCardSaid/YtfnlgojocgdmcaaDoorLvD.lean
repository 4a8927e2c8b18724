/-
  The remaining operations that only read, and all of them together. Conditions: none.
-/
import Derived.Test.YtfnlgojocgdmcaaDoorLvC
import Derived.Laws.Slices
set_option linter.unusedSimpArgs false
set_option linter.unusedVariables false
open Go.MapKept (IsKey)
namespace Go.Lv

section
variable {P : Program} {w : World} {m : Nat → Nat} {h : Hp} {av : Nat → Prop}

theorem run_sl {t e : TypeId} {i : TypeInfo} (ht : P.underlying t = some (.slice e)) (hi : P.info? e = some i) (b off n cap : Nat) (l u : Nat) (lo hi' : Option Value)
    (hb : (Instr.sliceBounds true n cap lo hi' none).run P w = .ok (l, u, cap) w) :
    (Instr.sliceAt t (.slice (some ⟨b, off, none⟩) n cap) lo hi' none).run P w = .ok (.slice (some (if cap = l then ⟨b, off, none⟩ else ⟨b, off + l * i.size, none⟩)) (u - l) (cap - l)) w := by
  simp only [Instr.sliceAt, Sem.run_bind, run_underlying ht, Result.andThen_ok, Instr.slice, hb, sizeOf, typeInfo, run_program, hi, Sem.run_pure]
  split <;> simp [Addr.add_lit]

theorem run_slz {t e : TypeId} {i : TypeInfo} (ht : P.underlying t = some (.slice e)) (hi : P.info? e = some i) (a : Option Addr) (n cap : Nat) (l u : Nat) (lo hi' : Option Value)
    (hb : (Instr.sliceBounds true n cap lo hi' none).run P w = .ok (l, u, cap) w) :
    ∃ a', (Instr.sliceAt t (.slice a n cap) lo hi' none).run P w = .ok (.slice a' (u - l) (cap - l)) w := by
  refine ⟨if cap = l then a else a.map (·.add (l * i.size)), ?_⟩
  simp only [Instr.sliceAt, Sem.run_bind, run_underlying ht, Result.andThen_ok, Instr.slice, hb, sizeOf, typeInfo, run_program, hi, Sem.run_pure]

theorem run_str {t : TypeId} (ht : P.underlying t = some .string) (s : ByteArray) (l u : Nat) (lo hi' : Option Value) (x : Nat)
    (hb : (Instr.sliceBounds false s.size s.size lo hi' none).run P w = .ok (l, u, x) w) :
    (Instr.sliceAt t (.string s) lo hi' none).run P w = .ok (.string (s.extract l u)) w := by
  simp only [Instr.sliceAt, Sem.run_bind, run_underlying ht, Result.andThen_ok, Instr.slice]
  simp [hb]

theorem run_bounds_none (b : Bool) (n cap : Nat) (lo : Option Value) (l : Int) (hlo : lo = none ∧ l = 0 ∨ ∃ k, lo = some (.int k l)) (h0 : 0 ≤ l) (h1 : l ≤ n) :
    (Instr.sliceBounds b n cap lo none none).run P w = .ok (l.toNat, n, cap) w := by
  rcases hlo with ⟨rfl, rfl⟩ | ⟨k, rfl⟩
  · simp [Instr.sliceBounds]
  · simp [Instr.sliceBounds, Instr.sliceBound, asIntOf, h0, h1]

theorem run_bounds_some (b : Bool) (n cap : Nat) (lo : Option Value) (l : Int) (ku : IntKind) (u : Int) (hlo : lo = none ∧ l = 0 ∨ ∃ k, lo = some (.int k l)) (h0 : 0 ≤ l) (h1 : l ≤ u) (h2 : u ≤ cap) :
    (Instr.sliceBounds b n cap lo (some (.int ku u)) none).run P w = .ok (l.toNat, u.toNat, cap) w := by
  have h3 : 0 ≤ u := by omega
  rcases hlo with ⟨rfl, rfl⟩ | ⟨k, rfl⟩
  · simp [Instr.sliceBounds, Instr.sliceBound, asIntOf, h2, h3]
  · simp [Instr.sliceBounds, Instr.sliceBound, asIntOf, h0, h2, h3]
    intro h5
    omega

theorem rv_int {o : Bool} {v : Value} {k : IntKind} {z : Int} (hx : RV w m h av o v (.int k z)) : v = .int k z := by cases hx; rfl

theorem low_ok {a : Operand → Value} {ρ : Operand → V} (hρ : ∀ x, RV w m h av true (a x) (ρ x)) {lo : Option Operand} {l : Int} (hl : lowOf ρ lo = some l) :
    lo.map a = none ∧ l = 0 ∨ ∃ k, lo.map a = some (.int k l) := by
  cases lo with
  | none => simp [lowOf] at hl; exact .inl ⟨rfl, hl.symm⟩
  | some x =>
    have hx := hρ x
    simp only [lowOf] at hl
    split at hl
    · rename_i k z he
      simp at hl; subst hl
      rw [he] at hx
      exact .inr ⟨k, by simp [rv_int hx]⟩
    · cases hl

theorem slice_ok {a : Operand → Value} {ρ : Operand → V} (hρ : ∀ x, RV w m h av true (a x) (ρ x)) {x : Operand} {t : TypeId} {l : Int} {lo hi : Option Operand} {K : V → Prop}
    (hl : lowOf ρ lo = some l) (hq : sliceV P ρ t (ρ x) l hi K) : Gives P w m h av (Instr.sliceAt t (a x) (lo.map a) (hi.map a) none) K := by
  have hx := hρ x
  have hlo := low_ok hρ hl
  generalize ρ x = xv at hx hq
  generalize a x = u at hx
  unfold sliceV at hq
  cases hx with
  | sl b off n cap wd cs vals hl ha hc hcell hr =>
    dsimp only at hq
    split at hq
    · rename_i e sz by_ he
      obtain ⟨i, h1, h2, rfl, h4⟩ := elOf_some he
      split at hq
      · obtain ⟨⟨h5, h6⟩, rfl, hk⟩ := hq
        have hrun := run_sl (P := P) (w := w) h1 h2 b off n cap l.toNat n _ none (run_bounds_none true n cap _ l hlo h5 h6)
        by_cases hz : n - l.toNat = 0
        · have hcs : cs.drop (l.toNat * i.size) = [] := by
            have : l.toNat = n := by omega
            rw [this, List.drop_eq_nil_iff, hl]
            exact Nat.le_refl _
          rw [hz] at hrun
          refine .mk' hk ?_ hrun
          rw [hcs, hz]
          exact .slz _ _ _
        · have hne : ¬ cap = l.toNat := by omega
          rw [if_neg hne] at hrun
          refine .mk' hk (.sl b (off + l.toNat * i.size) (n - l.toNat) (cap - l.toNat) i.size _ (fun j => vals (l.toNat * i.size + j)) (by simp [hl, Nat.sub_mul]) (fun hne => ha (by rintro rfl; simp at hne)) (by omega) (fun j hj => ?_) (fun j hj => ?_)) hrun
          · rw [Nat.add_assoc]; exact hcell _ (by simp at hj; omega)
          · rw [List.getElem_drop]; exact hr _ _
      · rename_i hh
        split at hq
        · rename_i ku u he2
          obtain ⟨⟨h5, h6, h7⟩, rfl, hk⟩ := hq
          have hu := hρ hh
          rw [he2] at hu
          have hrun := run_sl (P := P) (w := w) h1 h2 b off n cap l.toNat u.toNat _ (some (.int ku u)) (run_bounds_some true n cap _ l ku u hlo h5 h6 (by omega))
          have hmul : (u.toNat - l.toNat) * i.size + l.toNat * i.size ≤ cs.length := by
            rw [hl, ← Nat.add_mul]
            exact Nat.mul_le_mul_right _ (by omega)
          by_cases hz : u.toNat - l.toNat = 0
          · rw [hz] at hrun
            refine .mk' hk ?_ (by simpa [rv_int hu] using hrun)
            rw [hz, Nat.zero_mul, List.take_zero]
            exact .slz _ _ _
          · have hne : ¬ cap = l.toNat := by omega
            rw [if_neg hne] at hrun
            refine .mk' hk (.sl b (off + l.toNat * i.size) (u.toNat - l.toNat) (cap - l.toNat) i.size _ (fun j => vals (l.toNat * i.size + j)) (by simp; omega) (fun hne => ha (by rintro rfl; simp at hne)) (by omega) (fun j hj => ?_) (fun j hj => ?_)) (by simpa [rv_int hu] using hrun)
            · rw [Nat.add_assoc]; exact hcell _ (by simp at hj; omega)
            · simp only [List.getElem_take, List.getElem_drop]; exact hr _ _
        · exact hq.elim
    · exact hq.elim
  | slz ad c wd =>
    dsimp only at hq
    split at hq
    · rename_i e sz by_ he
      obtain ⟨i, h1, h2, rfl, h4⟩ := elOf_some he
      split at hq
      · obtain ⟨⟨h5, h6⟩, rfl, hk⟩ := hq
        obtain ⟨a', hrun⟩ := run_slz (P := P) (w := w) h1 h2 ad 0 c l.toNat 0 _ none (run_bounds_none true 0 c _ l hlo h5 h6)
        refine .mk' hk ?_ hrun
        simp only [Nat.zero_sub, List.drop_nil]
        exact .slz _ _ _
      · rename_i hh
        split at hq
        · rename_i ku u he2
          obtain ⟨⟨h5, h6, h7⟩, rfl, hk⟩ := hq
          have hu := hρ hh
          rw [he2] at hu
          obtain ⟨a', hrun⟩ := run_slz (P := P) (w := w) h1 h2 ad 0 c l.toNat u.toNat _ (some (.int ku u)) (run_bounds_some true 0 c _ l ku u hlo h5 h6 (by omega))
          have hz : u.toNat - l.toNat = 0 := by omega
          rw [hz] at hrun
          refine .mk' hk ?_ (by simpa [rv_int hu] using hrun)
          rw [hz]
          simp only [Nat.zero_mul, List.take_zero]
          exact .slz _ _ _
        · exact hq.elim
    · exact hq.elim
  | osl id off n cap wd cs hid hl hc hs =>
    dsimp only at hq
    split at hq
    · rename_i e sz by_ he
      obtain ⟨i, h1, h2, rfl, h4⟩ := elOf_some he
      split at hq
      · obtain ⟨⟨h5, h6⟩, rfl, hk⟩ := hq
        have hrun := run_sl (P := P) (w := w) h1 h2 (m id) off n cap l.toNat n _ none (run_bounds_none true n cap _ l hlo h5 (by omega))
        have e1 : l.toNat * i.size + (n - l.toNat) * i.size = n * i.size := by rw [← Nat.add_mul]; congr 1; omega
        have e2 : l.toNat * i.size + (cap - l.toNat) * i.size = cap * i.size := by rw [← Nat.add_mul]; congr 1; omega
        by_cases hlt : l = 0 ∨ l < n
        · rw [if_pos hlt] at hk
          have hrun' : (Instr.sliceAt t (.slice (some ⟨m id, off, none⟩) n cap) (lo.map a) (none.map a) none).run P w = .ok (.slice (some ⟨m id, off + l.toNat * i.size, none⟩) (n - l.toNat) (cap - l.toNat)) w := by
            show (Instr.sliceAt t (.slice (some ⟨m id, off, none⟩) n cap) (lo.map a) none none).run P w = _
            rw [hrun]
            by_cases hz : cap = l.toNat
            · have : l.toNat = 0 := by omega
              simp [hz, this]
            · rw [if_neg hz]
          exact .mk' hk (.osl id _ _ (cap - l.toNat) _ cs hid (by omega) (by omega) (by omega)) hrun'
        · rw [if_neg hlt] at hk
          have hz : n - l.toNat = 0 := by omega
          rw [hz] at hrun
          exact .mk' hk (.slz _ _ _) hrun
      · rename_i hh
        split at hq
        · rename_i ku u he2
          obtain ⟨⟨h5, h6, h7⟩, rfl, hk⟩ := hq
          have hu := hρ hh
          rw [he2] at hu
          have hrun := run_sl (P := P) (w := w) h1 h2 (m id) off n cap l.toNat u.toNat _ (some (.int ku u)) (run_bounds_some true n cap _ l ku u hlo h5 (by omega) (by omega))
          have e1 : l.toNat * i.size + (u.toNat - l.toNat) * i.size ≤ n * i.size := by rw [← Nat.add_mul]; exact Nat.mul_le_mul_right _ (by omega)
          have e2 : l.toNat * i.size + (cap - l.toNat) * i.size = cap * i.size := by rw [← Nat.add_mul]; congr 1; omega
          have hsome : (some hh).map a = some (.int ku u) := by simp [rv_int hu]
          by_cases hlt : l = 0 ∨ l < u
          · rw [if_pos hlt] at hk
            have hrun' : (Instr.sliceAt t (.slice (some ⟨m id, off, none⟩) n cap) (lo.map a) ((some hh).map a) none).run P w = .ok (.slice (some ⟨m id, off + l.toNat * i.size, none⟩) (u.toNat - l.toNat) (cap - l.toNat)) w := by
              rw [hsome, hrun]
              by_cases hz : cap = l.toNat
              · have : l.toNat = 0 := by omega
                simp [hz, this]
              · rw [if_neg hz]
            exact .mk' hk (.osl id _ _ (cap - l.toNat) _ cs hid (by omega) (by omega) (by omega)) hrun'
          · rw [if_neg hlt] at hk
            have hz : u.toNat - l.toNat = 0 := by omega
            rw [hz] at hrun
            exact .mk' hk (.slz _ _ _) (by rw [hsome]; exact hrun)
        · exact hq.elim
    · exact hq.elim
  | str s =>
    obtain ⟨hs, hq⟩ := hq
    have hu := isStr_some hs
    split at hq
    · obtain ⟨⟨h5, h6⟩, hk⟩ := hq
      exact .mk' hk (.str _) (run_str hu s _ _ _ none _ (run_bounds_none false s.size s.size _ l hlo h5 h6))
    · rename_i hh
      split at hq
      · rename_i ku u he2
        obtain ⟨⟨h5, h6, h7⟩, hk⟩ := hq
        have hu2 := hρ hh
        rw [he2] at hu2
        exact .mk' hk (.str _) (by simpa [rv_int hu2] using run_str (P := P) (w := w) hu s _ _ _ (some (.int ku u)) _ (run_bounds_some false s.size s.size _ l ku u hlo h5 h6 h7))
      · exact hq.elim
  | _ => exact False.elim hq

theorem makeFunc_list {a : Operand → Value} {ρ : Operand → V} (hρ : ∀ x, RV w m h av true (a x) (ρ x)) (xs : Array Operand) :
    (xs.map a).size = (xs.toList.map ρ).length ∧ ∀ i (hi : i < (xs.toList.map ρ).length), RV w m h av true ((xs.map a).getD i Go.undef) (xs.toList.map ρ)[i] := by
  refine ⟨by simp, fun i hi => ?_⟩
  have hi' : i < xs.size := by simpa using hi
  have : (xs.map a).getD i Go.undef = a xs[i] := by simp [Array.getD, hi']
  rw [this]
  simpa using hρ xs[i]

theorem at_int {a : Value} {x : V} {K : IntKind → Int → Prop} (hx : RV w m h av true a x) (hq : atInt x K) : ∃ k z, a = .int k z ∧ x = .int k z ∧ K k z := by
  cases hx with
  | int k n => exact ⟨k, n, rfl, rfl, hq⟩
  | _ => exact False.elim hq

theorem at_bool {a : Value} {x : V} {K : Bool → Prop} (hx : RV w m h av true a x) (hq : atBool x K) : ∃ b, a = .bool b ∧ x = .bool b ∧ K b := by
  cases hx with
  | bool b => exact ⟨b, rfl, rfl, hq⟩
  | _ => exact False.elim hq

theorem len_ok {u : Value} {x : V} {t ty : TypeId} {K : V → Prop} (hx : RV w m h av true u x) (hq : lenV P t x K) : Gives P w m h av (Builtin.len_ #[t] ty #[u]) K := by
  unfold lenV at hq
  cases hx with
  | sl b off n cap wd cs vals hl ha hc hv hr =>
    obtain ⟨e, he⟩ := isSl_some hq.1
    exact .mk' hq.2 (.int _ _) (by simp [Builtin.len_, run_underlying he, goInt])
  | slz ad c wd =>
    obtain ⟨e, he⟩ := isSl_some hq.1
    exact .mk' hq.2 (.int _ _) (by simp [Builtin.len_, run_underlying he, goInt])
  | osl id off n cap wd cs hid hl hc hs =>
    obtain ⟨e, he⟩ := isSl_some hq.1
    exact .mk' hq.2 (.int _ _) (by simp [Builtin.len_, run_underlying he, goInt])
  | nilsl =>
    obtain ⟨e, he⟩ := isSl_some hq.1
    exact .mk' hq.2 (.int _ _) (by simp [Builtin.len_, run_underlying he, goInt])
  | str s =>
    have he := isStr_some hq.1
    exact .mk' hq.2 (.int _ _) (by simp [Builtin.len_, run_underlying he, goInt])
  | _ => exact False.elim hq

theorem conv_ok {u : Value} {x : V} {s d : TypeId} {K : V → Prop} (hx : RV w m h av true u x) (hq : convV P s d x K) : Gives P w m h av (convert s d u) K := by
  unfold convV at hq
  obtain ⟨h1, hq⟩ := hq
  obtain ⟨ds, hs⟩ := Option.isSome_iff_exists.1 h1
  cases hx with
  | int k n =>
    dsimp only at hq
    split at hq
    · rename_i k' h2
      have hd := isIntT_some h2
      exact .mk' hq (.int _ _) (by cases ds <;> simp [convert, run_underlying hs, run_underlying hd, Conv.intToInt])
    · have hd := isStr_some hq.1
      exact .mk' hq.2 (.str _) (by cases ds <;> simp [convert, run_underlying hs, run_underlying hd, Conv.intToString])
  | str b =>
    obtain ⟨h2, hq⟩ := hq
    have hd := isStr_some h2
    exact .mk' hq (.str _) (by cases ds <;> simp [convert, run_underlying hs, run_underlying hd])
  | _ => exact False.elim hq

theorem bytesL_some : ∀ (cs : List V) (xs : List Int), bytesL cs = some xs → cs = xs.map (V.int .u8)
  | [], xs, h => by simp [bytesL] at h; subst h; rfl
  | c :: cs, xs, h => by
    cases c <;> try (simp [bytesL] at h; done)
    rename_i k n
    cases k <;> try (simp [bytesL] at h; done)
    simp only [bytesL, Option.map_eq_some_iff] at h
    obtain ⟨ys, h1, rfl⟩ := h
    rw [bytesL_some cs ys h1, List.map_cons]

theorem isU8S_some {s : TypeId} (h : isU8S P s = true) : ∃ e, P.underlying s = some (.slice e) ∧ P.underlying e = some (.int .u8) := by
  unfold isU8S at h
  split at h
  · rename_i e h1
    split at h
    · rename_i h2; exact ⟨e, h1, h2⟩
    · cases h
  · cases h

theorem convH_ok (H : RH w m h av) {u : Value} {x : V} {s d : TypeId} {K : V → Prop} (hx : RV w m h av true u x) (hq : convH P h s d x K) : Gives P w m h av (convert s d u) K := by
  cases hx with
  | osl id off n cap wd cs hid hl hc hs =>
    obtain ⟨⟨h1, h2, rfl⟩, hq⟩ := hq
    simp only [hid.1] at hq
    split at hq
    · rename_i xs hb
      obtain ⟨e, g1, g2⟩ := isU8S_some h1
      have hd := isStr_some h2
      have hcs := bytesL_some _ _ hb
      have hlen : xs.length = n := by
        have := congrArg List.length hcs
        simp at this
        omega
      refine .mk' hq (.str _) (run_convert_bytes_arg w s e g1 g2 (m id) off n cap xs hlen (fun i hi => ?_) d hd)
      obtain ⟨v, h3, h4⟩ := H.cell hid (i := off + i) (by omega)
      rw [h3]
      have hg : cs[off + i]'(by omega) = .int .u8 (xs.getD i 0) := by
        have h5 : ((cs.drop off).take n)[i]? = (xs.map (V.int .u8))[i]? := by rw [hcs]
        rw [List.getElem?_take_of_lt hi, List.getElem?_drop, List.getElem?_eq_getElem (by omega), List.getElem?_map, List.getElem?_eq_getElem (by omega)] at h5
        simp only [Option.map_some, Option.some.injEq] at h5
        rw [h5, List.getD, List.getElem?_eq_getElem (by omega)]
        rfl
      rw [hg] at h4
      rw [rv_int h4]
    · exact hq.elim
  | undef => exact conv_ok (.undef _) hq
  | skip => exact conv_ok .skip hq
  | bool b => exact conv_ok (.bool b) hq
  | int k n => exact conv_ok (.int k n) hq
  | str b => exact conv_ok (.str b) hq
  | _ => exact hq.2.elim

theorem findNow_mp (d : TypeDesc) (k : Value) : ∀ (E : List MapEntry) (i : Nat), Instr.findNow d k E i = mpFind d k (E.map fun e => (e.key, e.val)) i
  | [], _ => rfl
  | e :: E, i => by
    simp only [Instr.findNow, List.map_cons, mpFind]
    rw [findNow_mp d k E (i + 1)]
    cases Instr.sameNow d k e.key with
    | none => rfl
    | some b => cases b <;> rfl

theorem keyV_ok {v : Value} {y : V} {k : Value} (hy : RV w m h av true v y) (hk : keyV y = some k) : v = k := by
  cases hy <;> simp [keyV] at hk <;> exact hk

theorem keyOk_key {d : TypeDesc} {k : Value} (hk : keyOk d k = true) : IsKey d k := by
  cases d <;> cases k <;> simp_all [keyOk, IsKey]

theorem mapOf_some {t : TypeId} {d : TypeDesc} {z : V} (hm : mapOf P t = some (d, z)) : ∃ k e i zv, P.underlying t = some (.map k e) ∧ P.underlying k = some d ∧ P.info? e = some i ∧ i.zero = some zv ∧ z = lf zv := by
  unfold mapOf at hm
  split at hm
  · rename_i k e h1
    split at hm
    · rename_i d' i h2 h3
      split at hm
      · rename_i zv h4
        simp at hm
        obtain ⟨rfl, rfl⟩ := hm
        exact ⟨k, e, i, zv, h1, h2, h3, h4, rfl⟩
      · cases hm
    · cases hm
  · cases hm

/-- A map of our own, in the world. -/
theorem map_at (H : RH w m h av) {u : Value} {id : Nat} (hx : RV w m h av true u (.mp id)) {es : List (Value × Value)} (hid : h[id]? = some (some [.mb es])) :
    u = .map (some (m id)) ∧ ∃ E c, w.heap[m id]? = some (.map E c) ∧ es = E.toList.map fun e => (e.key, e.val) := by
  cases hx with
  | mp id cs hid' hm =>
    refine ⟨rfl, ?_⟩
    rcases H.blk id _ hid with ⟨C, T, fr, h1, _, h2, h3⟩ | ⟨E, c, es', h1, h2, h3⟩
    · have := notMb h3
      cases this
    · simp at h2; subst h2
      exact ⟨E, c, h1, h3⟩

theorem lookup_ok (H : RH w m h av) {t : TypeId} {x y : V} {u v : Value} {ok : Bool} {K : V → Prop} (hx : RV w m h av true u x) (hy : RV w m h av true v y) (hq : lookupV P h t x y ok K) : Gives P w m h av (Instr.lookup t u v ok) K := by
  unfold lookupV at hq
  split at hq
  · rename_i id
    split at hq
    · rename_i es hid
      obtain ⟨rfl, E, c, hb, he⟩ := map_at H hx hid
      split at hq
      · rename_i k d z hk hm
        obtain ⟨hko, hq⟩ := hq
        have := keyV_ok hy hk
        subst this
        obtain ⟨kt, e, i, zv, h1, h2, h3, h4, rfl⟩ := mapOf_some hm
        have hck := MapKept.run_checkKey (P := P) (w := w) h2 (keyOk_key hko) E.isEmpty 9999
        split at hq
        · rename_i j val hf
          rw [he, ← findNow_mp] at hf
          refine .mk' hq ?_ (v := if ok then .tuple #[val, .bool true] else val) ?_
          · cases ok
            · exact rv_lf ..
            · refine .tup _ _ rfl (fun i hi => ?_)
              match i, hi with
              | 0, _ => exact rv_lf ..
              | 1, _ => exact .bool _
          · simp [Instr.lookup, run_underlying h1, MapKept.run_getObj_map hb, hck, MapKept.run_findKey h2 hf]
        · rename_i hf
          rw [he, ← findNow_mp] at hf
          refine .mk' hq ?_ (v := if ok then .tuple #[zv, .bool false] else zv) ?_
          · cases ok
            · exact rv_lf ..
            · refine .tup _ _ rfl (fun i hi => ?_)
              match i, hi with
              | 0, _ => exact rv_lf ..
              | 1, _ => exact .bool _
          · simp [Instr.lookup, run_underlying h1, MapKept.run_getObj_map hb, hck, MapKept.run_findKey h2 hf, zeroValue, typeInfo, h3, h4]
        · exact hq.elim
      · exact hq.elim
    · exact hq.elim
  · exact hq.elim

/-- The quiet operations in the world. -/
theorem qop_ok (H : RH w m h av) {a : Operand → Value} {ρ : Operand → V} (hρ : ∀ x, RV w m h av true (a x) (ρ x)) (o : Oper) {K : V → Prop} (hq : qop P h ρ o.op K) :
    ∃ v x, K x ∧ RV w m h av true v x ∧ (execOp a o).run P w = .ok (.value v) w := by
  have fin : ∀ {s : Sem Value}, Gives P w m h av s K → (∀ v, s.run P w = .ok v w → (execOp a o).run P w = .ok (.value v) w) → ∃ v x, K x ∧ RV w m h av true v x ∧ (execOp a o).run P w = .ok (.value v) w :=
    fun ⟨v, x, h1, h2, h3⟩ h4 => ⟨v, x, h1, h2, h4 v h3⟩
  obtain ⟨dst, op, ty, pos, after, guard⟩ := o
  dsimp only at hq fin ⊢
  unfold qop at hq
  split at hq
  · rename_i x
    exact ⟨a x, _, hq, hρ x, rfl⟩
  · rename_i x
    exact ⟨a x, _, hq, hρ x, rfl⟩
  · rename_i c x y
    obtain ⟨t, h1, h2, hq⟩ := at_bool (hρ c) hq
    cases t
    · exact ⟨a y, _, hq, by simpa using hρ y, by simp [execOp, asBool, h1]⟩
    · exact ⟨a x, _, hq, by simpa using hρ x, by simp [execOp, asBool, h1]⟩
  · rename_i t x
    exact fin (load_ok H (hρ x) hq) (fun v hv => by simp [execOp, hv])
  · rename_i s x f
    exact fin (fieldAddr_ok (hρ x) hq) (fun v hv => by simp [execOp, hv])
  · rename_i s x f
    exact fin (field_ok (hρ x) hq) (fun v hv => by simp [execOp, hv])
  · rename_i t x i
    obtain ⟨k, z, h1, h2, hq⟩ := at_int (hρ i) hq
    exact fin (indexAddr_ok (hρ x) h1 hq) (fun v hv => by simp [execOp, hv])
  · rename_i t x i
    obtain ⟨k, z, h1, h2, hq⟩ := at_int (hρ i) hq
    exact fin (index_ok (hρ x) h1 hq) (fun v hv => by simp [execOp, hv])
  · rename_i t x lo hi
    split at hq
    · exact hq.elim
    · rename_i l hl
      exact fin (slice_ok hρ hl hq) (fun v hv => by simp [execOp, hv])
  · rename_i op t x y ty'
    exact fin (bin_ok (ox := x) (oy := y) (hρ x) (hρ y) hq) (fun v hv => by simp only [execOp, Sem.run_bind, hv, Result.andThen_ok, Sem.run_pure])
  · rename_i t x
    obtain ⟨b, h1, h2, hq⟩ := at_bool (hρ x) hq
    exact ⟨.bool (!b), _, hq, .bool _, by simp [execOp, Op.unary, h1]⟩
  · rename_i t x
    obtain ⟨k, n, h1, h2, hq⟩ := at_int (hρ x) hq
    exact ⟨.int k (k.wrap (0 - n)), _, hq, .int _ _, by simp [execOp, h1, Op.unary, Op.intArith]⟩
  · rename_i s d x
    exact fin (convH_ok H (hρ x) hq) (fun v hv => by simp [execOp, hv])
  · rename_i x i
    have hx := hρ x
    generalize hu : a x = u at hx
    generalize ρ x = xv at hx hq
    cases hx with
    | tup ar vs ha hra =>
      unfold atTup at hq
      dsimp only at hq
      split at hq
      · rename_i v hv
        have hlt : i < vs.length := (List.getElem?_eq_some_iff.1 hv).1
        have hr := hra i hlt
        rw [(List.getElem?_eq_some_iff.1 hv).2] at hr
        refine ⟨_, v, hq, hr, ?_⟩
        have hlt' : i < ar.size := by omega
        simp [execOp, hu, Instr.extract, Array.getD, hlt']
      · exact hq.elim
    | _ => exact False.elim hq
  · rename_i x
    have hx := hρ x
    generalize hu : a x = u at hx
    generalize ρ x = xv at hx hq
    cases hx with
    | ptr id off cs hid => exact ⟨_, _, hq, .ptr id off cs hid, by simp [execOp, hu]⟩
    | pt b off cs vals ha hv hr => exact ⟨_, _, hq, .pt b off cs vals ha hv hr, by simp [execOp, hu]⟩
    | fn f a1 c1 a' c' ha hc hra hrc =>
      cases f with
      | func f => exact ⟨_, _, hq, .fn _ a1 c1 _ _ ha hc hra hrc, by simp [execOp, hu]⟩
      | _ => exact False.elim hq
    | _ => exact False.elim hq
  · rename_i t x y ok
    exact fin (lookup_ok H (hρ x) (hρ y) hq) (fun v hv => by simp [execOp, hv])
  · rename_i f b c
    have hb := makeFunc_list hρ b
    have hc := makeFunc_list hρ c
    exact ⟨_, _, hq, .fn f _ _ _ _ hb.1 hc.1 hb.2 hc.2, by simp [execOp, Instr.makeFunc]⟩
  · rename_i x t
    exact fin (len_ok (ty := ty) (hρ x) hq) (fun v hv => by simp [execOp, resolve, invoke, builtin, hv])
  · rename_i x y _
    obtain ⟨k, p, h1, h2, hq⟩ := at_int (hρ x) hq
    obtain ⟨k', q, h3, h4, hq⟩ := at_int (hρ y) hq
    exact ⟨_, _, hq, .int _ _, by simp [execOp, resolve, invoke, builtin, h1, h3, run_max_int2]⟩
  · rename_i x y _
    obtain ⟨k, p, h1, h2, hq⟩ := at_int (hρ x) hq
    obtain ⟨k', q, h3, h4, hq⟩ := at_int (hρ y) hq
    exact ⟨_, _, hq, .int _ _, by simp [execOp, resolve, invoke, builtin, h1, h3, run_min_int2]⟩
  · exact hq.elim

end
end Go.Lv
