/-
  slices.Delete of one shock. Conditions: none.
-/
import Derived.Test.YtekhnmibkkinaaaF25i
import Derived.Shelf.RegionOpenPlain
import Derived.WalkKit
import Derived.Deep.LoopGhost
import Derived.Deep.RegionLaw
import Derived.Lib.Walk
import Derived.Sort.WalkB12
import Derived.Lib.SliceRun
import Derived.Deep.Upon
import Derived.Deep.MidRow
import Derived.Laws.IdiomCopy
import Derived.Lib.Hide
set_option linter.unusedSimpArgs false
set_option linter.unusedVariables false
set_option maxRecDepth 100000
set_option maxHeartbeats 4000000
namespace Go.Proofs
open Go.Lv
open Go.Shelf Go.RowKit Go.Lib Go.Sort
/-- A contract out of what a call does in the world. -/
theorem Ctr.raw {P : Program} {f : FuncId} {args : List V} {hin : Hp} {r : V} {hout : Hp} (hok : okF P f = true)
    (h : ∀ (w : World) (vs : Array Value) (m : Nat → Nat) (av : Nat → Prop), Inv w m hin av ⟨args, hin, hin.length⟩ { tmps := vs, defers := [] } w m → vs.size = args.length →
      Calls P f vs w fun e w' => ∃ v m' s a, e = .returned v ∧ s.h = hout ∧ Inv w m hin av s a w' m' ∧ RV w' m' hout (avm av m' hout) true v r) : Ctr P f args hin r hout := by
  refine ⟨hok, fun w vs m av hH hav hgl hs ha => ?_⟩
  have hav' : ∀ b, avm av m hin b → av b := fun b hb => by
    rcases hb with hb | ⟨id, cs, h1, rfl⟩
    · exact hb
    · exact hH.avd id cs h1
  have hstep : ∀ {o : Bool} {v : Value} {x : V}, RV w m hin av o v x → RV w m hin (avm av m hin) o v x :=
    fun {o v x} hx => RV.step (w := w) (w' := w) (m := m) (m' := m) (h := hin) (h' := hin) (av := av) (av' := avm av m hin) (fun b off v hb hc => ⟨fun h => hb (hav' b h), hc⟩) (fun id c hid => ⟨c, hid, Nat.le_refl _, rfl, Nat.le_refl _, rfl⟩) hx
  have I : Inv w m hin av ⟨args, hin, hin.length⟩ { tmps := vs, defers := [] } w m := by
    refine ⟨⟨hH.inj, fun id cs h => .inr ⟨id, cs, h, rfl⟩, fun id cs h => ?_⟩, hs, fun i hi => hstep (ha i hi), rfl, Ext.refl _ _, fun id cs h => .inl ⟨id_lt h, cs, h, Nat.le_refl _, .inl rfl⟩, hav, fun b ⟨id, cs, h1, h2⟩ => h2 ▸ hH.avd id cs h1, hgl, rfl, Nat.le_refl _⟩
    exact (hH.blk id cs h).step rfl (fun v x => hstep)
  refine (h w vs m av I hs).mono ?_
  rintro e w' ⟨v, m', s, a, rfl, rfl, I', hv⟩
  exact ⟨v, m', rfl, I'.ext, I'.rh, hv, I'.ids⟩
/-- Cells written one after the other. -/
def putV (C : Array Value) : Nat → List Value → Array Value
  | _, [] => C
  | o, v :: r => putV (C.setIfInBounds o v) (o + 1) r
theorem putV_size : ∀ (vs : List Value) (C : Array Value) (o : Nat), (putV C o vs).size = C.size
  | [], _, _ => rfl
  | v :: r, C, o => by rw [putV, putV_size r]; simp
theorem putV_out : ∀ (vs : List Value) (C : Array Value) (o k : Nat), (k < o ∨ o + vs.length ≤ k) → (putV C o vs).getD k Go.undef = C.getD k Go.undef
  | [], _, _, _, _ => rfl
  | v :: r, C, o, k, hk => by
    simp only [List.length_cons] at hk
    rw [putV, putV_out r _ _ _ (by omega), Array.getD_eq_getD_getElem?, Array.getD_eq_getD_getElem?, Array.getElem?_setIfInBounds_ne (by omega)]
theorem putV_in : ∀ (vs : List Value) (C : Array Value) (o j : Nat) (hj : j < vs.length), o + vs.length ≤ C.size → (putV C o vs).getD (o + j) Go.undef = vs[j]
  | v :: r, C, o, 0, _, h => by
    simp only [List.length_cons] at h
    rw [putV, putV_out r _ _ _ (by omega), Array.getD_eq_getD_getElem?, Nat.add_zero, Array.getElem?_setIfInBounds_self_of_lt (by omega)]
    rfl
  | v :: r, C, o, j + 1, hj, h => by
    simp only [List.length_cons] at h
    have := putV_in r (C.setIfInBounds o v) (o + 1) j (by simpa using hj) (by simp; omega)
    rw [putV, show o + (j + 1) = o + 1 + j by omega, this]
    rfl
theorem setCells_row (b : Nat) : ∀ (vs : List Value) (o : Nat) (w : World) (C : Array Value) (T : TypeId) (fr : Nat × Nat), w.heap[b]? = some (.cells C T fr) → w.setCells b o vs = w.setRow b (putV C o vs)
  | [], _, w, C, T, fr, hb => (setRow_self w b C T fr hb).symm
  | v :: r, o, w, C, T, fr, hb => by
    rw [World.setCells, setCell_eq_setRow w b o C T fr v hb, setCells_row b r (o + 1) _ _ T fr (setRow_heap w b C _ T fr hb), setRow_setRow]
    rfl
/-- 'clear(s)' on a slice of one element of some cells. -/
theorem run_clear_one {P : Program} (w : World) (t e ty : TypeId) (z : Value) (ht : P.underlying t = some (.slice e)) (hv : ∀ w, (zeroValue e).run P w = .ok z w) (h1 : ∀ u ∈ z.cells.toList, u.oneCell' = true) (b o c : Nat)
    (hc : ∀ j, j < z.cells.size → (w.cell? ⟨b, o + j, none⟩).isSome = true) (hf : ∀ j, j < z.cells.size → w.frozen? ⟨b, o + j, none⟩ = false) :
    (Builtin.clear_ #[t] ty #[.slice (some ⟨b, o, none⟩) 1 c]).run P w = .ok (.tuple #[]) (w.setCells b o z.cells.toList) := by
  have hzc : (Builtin.zeroCells z.cells 1).toList = z.cells.toList := by
    simp [Builtin.zeroCells]
    apply List.ext_getElem
    · simp
    · intro i h1 h2
      simp at h1
      simp [Nat.mod_eq_of_lt h1, h1]
  have hst := run_storeCells_cells (P := P) b o z.cells.toList 0 w (by simpa using hc) (by simpa using hf) (by intro v hv'; exact h1 v hv')
  simp only [Nat.add_zero] at hst
  simp [Builtin.clear_, run_underlying ht, hv, hzc, hst]
def zeroShock : Value := .agg #[.int .i64 0, .int .i64 0, .int .i64 0, .int .i64 0, .int .i64 0]
theorem delShock_any (b n cap i : Nat) (C : Array Value) (T : TypeId) (w : World) (hb : w.heap[b]? = some (.cells C T (0, 0))) (hC : cap * 5 ≤ C.size) (hn : n ≤ cap) (hi : i < n) (news : List Value) (hnl : news.length = (n - (i + 1)) * 5)
    (hng : ∀ t, t < (n - (i + 1)) * 5 → news[t]? = some (C.getD ((i + 1) * 5 + t) Go.undef)) (h1 : ∀ u ∈ news, u.oneCell' = true) :
    Calls Try.prog 253 #[.slice (some ⟨b, 0, none⟩) n cap, .int .i64 i, .int .i64 ((i : Int) + 1)] w fun e w' =>
      e = .returned (.slice (some ⟨b, 0, none⟩) (n - 1) cap) ∧ w' = ((w.drew).setCells b (i * 5) news).setCells b ((n - 1) * 5) zeroShock.cells.toList := by
  have he : elOf Try.prog 81 = some (93, 5, 40) := by kernel_rfl
  obtain ⟨i0, t81, hi0, hz5, _⟩ := elOf_some he
  have hzv : ∀ w, (zeroValue 93).run Try.prog w = .ok zeroShock w := by
    have hz : (Try.prog.info? 93).bind (·.zero) = some zeroShock := by kernel_rfl
    intro w
    rw [hi0] at hz
    simp only [Option.bind_some] at hz
    simp [zeroValue, typeInfo, hi0, hz]
  have hcell : ∀ k, k < C.size → w.cell? ⟨b, k, none⟩ = some (C.getD k Go.undef) := fun k hk => by simp [World.cell?, hb, Array.getD, hk]
  have hfrz : ∀ (k : Nat), w.frozen? ⟨b, k, none⟩ = false := fun k => by simp [World.frozen?, hb]
  obtain ⟨A, hA, hsrc⟩ : ∃ A : Addr, (if cap = i + 1 then some (⟨b, 0, none⟩ : Addr) else some ⟨b, (i + 1) * 5, none⟩) = some A ∧ Hid (∀ t u, news[t]? = some u → w.drew.cell? (A.add t) = some u) := by
    by_cases h : cap = i + 1
    · refine ⟨⟨b, 0, none⟩, by simp [h], fun t u hu => ?_⟩
      have h0 : news.length = 0 := by rw [hnl]; omega
      rw [List.length_eq_zero_iff.1 h0] at hu
      simp at hu
    · refine ⟨⟨b, (i + 1) * 5, none⟩, by simp [h], fun t u hu => ?_⟩
      have ht : t < (n - (i + 1)) * 5 := by
        have := (List.getElem?_eq_some_iff.1 hu).1
        rwa [hnl] at this
      rw [hng t ht] at hu
      rw [Addr.add_lit]
      exact (hcell ((i + 1) * 5 + t) (by omega)).trans hu
  have s1 : Hid (news.length = (n - (i + 1)) * 5) := hnl
  have s2 : Hid (∀ u ∈ news, u.oneCell' = true) := h1
  have s3 : Hid (∀ t, t < news.length → (w.drew.cell? ⟨b, 0 + i * 5 + t, none⟩).isSome = true ∧ w.drew.frozen? ⟨b, 0 + i * 5 + t, none⟩ = false) := by
    intro t ht
    rw [hnl] at ht
    exact ⟨by show (w.cell? _).isSome = true; rw [hcell _ (by omega)]; rfl, hfrz _⟩
  obtain ⟨W1, hW1⟩ : ∃ W1, W1 = w.drew.setCells b (i * 5) news := ⟨_, rfl⟩
  have hsome : ∀ k, k < C.size → (W1.cell? ⟨b, k, none⟩).isSome = true := fun k hk => by
    rw [hW1]
    exact World.isSome_setCells b news _ w.drew _ (by show (w.cell? _).isSome = true; rw [hcell k hk]; rfl)
  have hcl : ∀ ty, (Builtin.clear_ #[81] ty #[.slice (some ⟨b, (i + (n - (i + 1))) * 5, none⟩) (n - (i + (n - (i + 1)))) (cap - (i + (n - (i + 1))))]).run Try.prog W1 = .ok (.tuple #[]) (W1.setCells b ((i + (n - (i + 1))) * 5) zeroShock.cells.toList) := by
    intro ty
    have e1 : n - (i + (n - (i + 1))) = 1 := by omega
    rw [e1]
    refine run_clear_one W1 _ _ ty zeroShock t81 hzv (by decide) b _ _ (fun j hj => hsome _ ?_) (fun j hj => ?_)
    · have : j < 5 := hj
      omega
    · rw [hW1, World.frozen?_setCells]
      exact hfrz _
  obtain ⟨zc, hzc⟩ : ∃ zc, zc = zeroShock.cells.toList := ⟨_, rfl⟩
  rw [← hzc] at hcl
  have Z : Aside (zc = zeroShock.cells.toList) := hzc
  have X : Aside (W1 = w.drew.setCells b (i * 5) news) := hW1
  have hW : Hid (W1 = w.drew.setCells b (0 + i * 5) news) := by rw [Nat.zero_add]; exact hW1
  have hic : i ≤ cap := by omega
  have hjc : i + 1 ≤ cap := by omega
  have hz5' : Hid (i0.size = 5) := hz5
  have mixed := Try.mixed
  have hb1 : (0 : Int) ≤ (i : Int) + 1 ∧ (i : Int) + 1 ≤ (n : Int) := by omega
  have hb2 : (0 : Int) ≤ (i : Int) + 1 := by omega
  have hb3 : (i : Int) + 1 ≤ (n : Int) := by omega
  clear hzc hzv hW1 hnl hng h1 hcell hfrz hb hsome
  go_enter Try.func253, Try.ntmps253
  go_wp2_with fail
  go_region_law_o (refine step_append_room rfl (.tmp 22) (.tmp 25) 81 rfl 93 i0 5 t81 hi0 hz5'.out b 0 i cap (by simp [Act.eval, Act.put]) A (n - (i + 1)) (cap - (i + 1)) news (by simp [Act.eval, Act.put]) s1.out hsrc.out s2.out (by omega) s3.out ?_; rw [← hW.out])
  go_wp2
  go_ret
  have e1 : i + (n - (i + 1)) = n - 1 := by omega
  refine ⟨?_, ?_⟩
  · rw [e1]
    rfl
  · rw [e1, X.out, Z.out]
theorem delShock_ok (L : List Shock) (i : Nat) (hi : i < L.length) : Ctr Try.prog 253 [.osl 0 0 L.length 5, .int .i64 i, .int .i64 ((i : Int) + 1)] [some (rows Shock.cs L)] (.osl 0 0 (L.length - 1) 5)
    [some (rows Shock.cs (L.take i ++ L.drop (i + 1)) ++ [.int .i64 0, .int .i64 0, .int .i64 0, .int .i64 0, .int .i64 0])] := by
  refine Ctr.raw (by kernel_rfl) (fun w vs m av I hs => ?_)
  obtain ⟨n, hn⟩ : ∃ n, n = L.length := ⟨_, rfl⟩
  have hlen : (rows Shock.cs L).length = n * 5 := by rw [rows_len5, hn]
  have h0 := I.slots 0 (by simp)
  have h1 := I.slots 1 (by simp)
  have h2 := I.slots 2 (by simp)
  dsimp only [List.getElem_cons_zero, List.getElem_cons_succ] at h0 h1 h2
  have e1 := rv_int h1
  have e2 := rv_int h2
  obtain ⟨v0, hv0⟩ : ∃ v0, v0 = vs.getD 0 Go.undef := ⟨_, rfl⟩
  rw [← hv0] at h0
  have hvs : vs = #[v0, .int .i64 i, .int .i64 ((i : Int) + 1)] := by
    have hsz : vs.size = 3 := hs
    apply Array.ext
    · simpa using hsz
    · intro k hk hk'
      have hk3 : k < 3 := by omega
      have hg : vs[k] = vs.getD k Go.undef := by simp [Array.getD, hk]
      rw [hg]
      rcases (show k = 0 ∨ k = 1 ∨ k = 2 by omega) with rfl | rfl | rfl
      · exact hv0.symm
      · exact e1
      · exact e2
  cases h0 with
  | osl _ _ _ cap _ cs hid hl hc hsz =>
    have hcs : cs = rows Shock.cs L := by
      have := hid.1
      simpa using this.symm
    subst hcs
    rcases I.rh.blk 0 _ hid.1 with ⟨C, T, hb, hle, hr⟩ | ⟨E, c, es, hb, hmb, _⟩
    rotate_left
    · have := hid.2
      rw [hmb] at this
      cases this
    have hrow : rowSize w (m 0) = C.size := by simp [rowSize, hb]
    rw [hrow] at hsz
    rw [← hn] at hc hi ⊢
    obtain ⟨news, hnews⟩ : ∃ news : List Value, news = (List.range ((n - (i + 1)) * 5)).map fun t => C.getD ((i + 1) * 5 + t) Go.undef := ⟨_, rfl⟩
    have hnl : news.length = (n - (i + 1)) * 5 := by rw [hnews]; simp
    have hng : ∀ t, t < (n - (i + 1)) * 5 → news[t]? = some (C.getD ((i + 1) * 5 + t) Go.undef) := fun t ht => by rw [hnews]; simp [ht]
    have hcellAll := rows_cell (cs := Shock.cs) L
    have h1c : ∀ u ∈ news, u.oneCell' = true := by
      intro u hu
      rw [hnews] at hu
      obtain ⟨t, ht, rfl⟩ := List.mem_map.1 hu
      have ht' := List.mem_range.1 ht
      have hk : (i + 1) * 5 + t < (rows Shock.cs L).length := by rw [hlen]; omega
      exact (one_of (hr _ hk) (List.all_eq_true.1 hcellAll _ (List.getElem_mem hk))).1
    rw [hvs, ← hn]
    refine (delShock_any (m 0) n cap i C T w hb (by omega) hc hi news hnl hng h1c).mono ?_
    rintro e w' ⟨rfl, rfl⟩
    have hbd : w.drew.heap[m 0]? = some (.cells C T (0, 0)) := hb
    have hw : ((w.drew).setCells (m 0) (i * 5) news).setCells (m 0) ((n - 1) * 5) zeroShock.cells.toList = w.drew.setRow (m 0) (putV (putV C (i * 5) news) ((n - 1) * 5) zeroShock.cells.toList) := by
      rw [setCells_row (m 0) news _ w.drew C T _ hbd, setCells_row (m 0) _ _ _ _ T _ (setRow_heap w.drew (m 0) C _ T _ hbd), setRow_setRow]
    rw [hw]
    have I1 := I.world (Ext.drew _ w)
    have hz5 : zeroShock.cells.toList.length = 5 := rfl
    have hcut : rows Shock.cs (L.take i ++ L.drop (i + 1)) = (rows Shock.cs L).take (i * 5) ++ (rows Shock.cs L).drop ((i + 1) * 5) := by rw [rowsOf_append, rows_take Shock.csl, rows_drop Shock.csl]
    have hl1 : ((rows Shock.cs L).take (i * 5)).length = i * 5 := by rw [List.length_take, hlen]; omega
    have hl2 : ((rows Shock.cs L).drop ((i + 1) * 5)).length = (n - (i + 1)) * 5 := by rw [List.length_drop, hlen]; omega
    rw [hcut]
    obtain ⟨J, hstep⟩ := I1.setRow (id := 0) (cs := rows Shock.cs L) (cs' := (rows Shock.cs L).take (i * 5) ++ (rows Shock.cs L).drop ((i + 1) * 5) ++ [.int .i64 0, .int .i64 0, .int .i64 0, .int .i64 0, .int .i64 0])
      (C := C) (C' := putV (putV C (i * 5) news) ((n - 1) * 5) zeroShock.cells.toList) (T := T) hid hbd (by rw [putV_size, putV_size]) (by simp only [List.length_append, hl1, hl2, hlen, List.length_cons, List.length_nil]; omega) (by simp only [List.length_append, hl1, hl2, putV_size, List.length_cons, List.length_nil]; omega) (fun k hk => by
        simp only [List.length_append, hl1, hl2, List.length_cons, List.length_nil] at hk
        have hrd : ∀ j (hj : j < (rows Shock.cs L).length), RV w.drew m [some (rows Shock.cs L)] (avm av m [some (rows Shock.cs L)]) true (C.getD j Go.undef) (rows Shock.cs L)[j] := by
          rcases I1.rh.blk 0 _ hid.1 with ⟨C2, T2, hb2, _, hr2⟩ | ⟨E, c, es, hb2, hmb, _⟩
          · rw [hbd] at hb2
            simp only [Option.some.injEq, Obj.cells.injEq] at hb2
            obtain ⟨rfl, _⟩ := hb2
            exact hr2
          · rw [hbd] at hb2; cases hb2
        rcases Nat.lt_or_ge k (i * 5) with h | h
        · rw [putV_out _ _ _ _ (by omega), putV_out _ _ _ _ (by omega)]
          have := hrd k (by omega)
          simpa [List.getElem_append, hl1, hl2, h, show k < i * 5 + (n - (i + 1)) * 5 by omega] using this
        · rcases Nat.lt_or_ge k ((n - 1) * 5) with h' | h'
          · rw [putV_out _ _ _ _ (by omega)]
            have hj : k - i * 5 < news.length := by omega
            have := putV_in news C (i * 5) (k - i * 5) hj (by omega)
            rw [show i * 5 + (k - i * 5) = k by omega] at this
            rw [this]
            have h3 := hng (k - i * 5) (by omega)
            rw [List.getElem?_eq_getElem hj] at h3
            simp only [Option.some.injEq] at h3
            rw [h3]
            have h4 := hrd ((i + 1) * 5 + (k - i * 5)) (by omega)
            have hlt : ¬ k < i * 5 := by omega
            simpa [List.getElem_append, hl1, hl2, hlt, show k < i * 5 + (n - (i + 1)) * 5 by omega, show k - i * 5 < (n - (i + 1)) * 5 by omega] using h4
          · have hj : k - (n - 1) * 5 < zeroShock.cells.toList.length := by rw [hz5]; omega
            have := putV_in zeroShock.cells.toList (putV C (i * 5) news) ((n - 1) * 5) (k - (n - 1) * 5) hj (by rw [putV_size]; omega)
            rw [show (n - 1) * 5 + (k - (n - 1) * 5) = k by omega] at this
            rw [this]
            have hge : ¬ k < i * 5 + (n - (i + 1)) * 5 := by omega
            have e5 : ∀ q, (hq : q < 5) → ([V.int .i64 0, .int .i64 0, .int .i64 0, .int .i64 0, .int .i64 0] : List V)[q]'(by simpa using hq) = .int .i64 0 := fun q hq => by
              rcases (show q = 0 ∨ q = 1 ∨ q = 2 ∨ q = 3 ∨ q = 4 by omega) with rfl | rfl | rfl | rfl | rfl <;> rfl
            have e6 : ∀ q, (hq : q < 5) → zeroShock.cells.toList[q]'(by rw [hz5]; exact hq) = .int .i64 0 := fun q hq => by
              rcases (show q = 0 ∨ q = 1 ∨ q = 2 ∨ q = 3 ∨ q = 4 by omega) with rfl | rfl | rfl | rfl | rfl <;> rfl
            rw [e6 _ (by omega), List.getElem_append_right (by rw [List.length_append, hl1, hl2]; omega), e5 _ (by rw [List.length_append, hl1, hl2]; omega)]
            exact .int _ _)
    refine ⟨_, m, _, _, rfl, ?_, J, ?_⟩
    · rfl
    · have := RV.osl (w := w.drew.setRow (m 0) (putV (putV C (i * 5) news) ((n - 1) * 5) zeroShock.cells.toList)) (m := m) (h := [some ((rows Shock.cs L).take (i * 5) ++ (rows Shock.cs L).drop ((i + 1) * 5) ++ [.int .i64 0, .int .i64 0, .int .i64 0, .int .i64 0, .int .i64 0])]) (av := avm av m [some ((rows Shock.cs L).take (i * 5) ++ (rows Shock.cs L).drop ((i + 1) * 5) ++ [.int .i64 0, .int .i64 0, .int .i64 0, .int .i64 0, .int .i64 0])]) 0 0 (n - 1) cap 5 _ ⟨rfl, ?_⟩ ?_ (by omega) ?_
      · exact this
      · have hlen2 : 5 ≤ ((rows Shock.cs L).take (i * 5) ++ (rows Shock.cs L).drop ((i + 1) * 5) ++ [V.int .i64 0,   .int .i64 0, .int .i64 0, .int .i64 0, .int .i64 0]).length := by simp only [List.length_append, List.length_cons, List.length_nil]; omega
        match h : ((rows Shock.cs L).take (i * 5) ++ (rows Shock.cs L).drop ((i + 1) * 5) ++ [V.int .i64 0, .int .i64 0, .int .i64 0, .int .i64 0, .int .i64 0]), hlen2 with
        | [], h2 => rfl
        | [x], h2 => simp at h2
        | _ :: _ :: _, _ => rfl
      · simp only [List.length_append, hl1, hl2, List.length_cons, List.length_nil]; omega
      · have : rowSize (w.drew.setRow (m 0) (putV (putV C (i * 5) news) ((n - 1) * 5) zeroShock.cells.toList)) (m 0) = C.size := by
          simp only [rowSize, setRow_heap w.drew (m 0) C _ T _ hbd, putV_size]
        rw [this]; omega
end Go.Proofs
