/-
  A part of the proof: texts put together by a program of the prover. Conditions: none.
-/
import Derived.Test.YtekhnmibkkinaaaZRunWatch5
import Derived.Shelf.RegionOpenPlain
import Derived.WalkKit
import Derived.Deep.LoopGhost
import Derived.Deep.RegionLaw
import Derived.Lib.Walk
import Derived.Sort.WalkB12
import Derived.Lib.SliceRun
import Derived.Deep.Upon
import Derived.Deep.MidRow
import Derived.Laws.IdiomCopy
import Derived.Lib.Hide
import Derived.ProofKit
import Derived.Deep.Slices
set_option linter.unusedSimpArgs false
set_option linter.unusedVariables false
section
set_option linter.unusedSimpArgs false
set_option linter.unusedVariables false
set_option maxRecDepth 100000
set_option maxHeartbeats 4000000
namespace Go.Proofs
open Go.Lv
open Go.Shelf Go.RowKit Go.Lib Go.Sort
/-- A contract out of what a call does in the world. -/
theorem Ctr.raw {P : Program} {f : FuncId} {args : List V} {hin : Hp} {r : V} {hout : Hp} (hok : okF P f = true)
    (h : ∀ (w : World) (vs : Array Value) (m : Nat → Nat) (av : Nat → Prop), Inv w m hin av ⟨args, hin, hin.length⟩ { tmps := vs, defers := [] } w m → vs.size = args.length →
      Calls P f vs w fun e w' => ∃ v m' s a, e = .returned v ∧ s.h = hout ∧ Inv w m hin av s a w' m' ∧ RV w' m' hout (avm av m' hout) true v r) : Ctr P f args hin r hout := by
  refine ⟨hok, fun w vs m av hH hav hgl hs ha => ?_⟩
  have hav' : ∀ b, avm av m hin b → av b := fun b hb => by
    rcases hb with hb | ⟨id, cs, h1, rfl⟩
    · exact hb
    · exact hH.avd id cs h1
  have hstep : ∀ {o : Bool} {v : Value} {x : V}, RV w m hin av o v x → RV w m hin (avm av m hin) o v x :=
    fun {o v x} hx => RV.step (w := w) (w' := w) (m := m) (m' := m) (h := hin) (h' := hin) (av := av) (av' := avm av m hin) (fun b off v hb hc => ⟨fun h => hb (hav' b h), hc⟩) (fun id c hid => ⟨c, hid, Nat.le_refl _, rfl, Nat.le_refl _, rfl⟩) hx
  have I : Inv w m hin av ⟨args, hin, hin.length⟩ { tmps := vs, defers := [] } w m := by
    refine ⟨⟨hH.inj, fun id cs h => .inr ⟨id, cs, h, rfl⟩, fun id cs h => ?_⟩, hs, fun i hi => hstep (ha i hi), rfl, Ext.refl _ _, fun id cs h => .inl ⟨id_lt h, cs, h, Nat.le_refl _, .inl rfl⟩, hav, fun b ⟨id, cs, h1, h2⟩ => h2 ▸ hH.avd id cs h1, hgl, rfl, Nat.le_refl _⟩
    exact (hH.blk id cs h).step rfl (fun v x => hstep)
  refine (h w vs m av I hs).mono ?_
  rintro e w' ⟨v, m', s, a, rfl, rfl, I', hv⟩
  exact ⟨v, m', rfl, I'.ext, I'.rh, hv, I'.ids⟩
/-- Cells written one after the other. -/
def putV (C : Array Value) : Nat → List Value → Array Value
  | _, [] => C
  | o, v :: r => putV (C.setIfInBounds o v) (o + 1) r
theorem putV_size : ∀ (vs : List Value) (C : Array Value) (o : Nat), (putV C o vs).size = C.size
  | [], _, _ => rfl
  | v :: r, C, o => by rw [putV, putV_size r]; simp
theorem putV_out : ∀ (vs : List Value) (C : Array Value) (o k : Nat), (k < o ∨ o + vs.length ≤ k) → (putV C o vs).getD k Go.undef = C.getD k Go.undef
  | [], _, _, _, _ => rfl
  | v :: r, C, o, k, hk => by
    simp only [List.length_cons] at hk
    rw [putV, putV_out r _ _ _ (by omega), Array.getD_eq_getD_getElem?, Array.getD_eq_getD_getElem?, Array.getElem?_setIfInBounds_ne (by omega)]
theorem putV_in : ∀ (vs : List Value) (C : Array Value) (o j : Nat) (hj : j < vs.length), o + vs.length ≤ C.size → (putV C o vs).getD (o + j) Go.undef = vs[j]
  | v :: r, C, o, 0, _, h => by
    simp only [List.length_cons] at h
    rw [putV, putV_out r _ _ _ (by omega), Array.getD_eq_getD_getElem?, Nat.add_zero, Array.getElem?_setIfInBounds_self_of_lt (by omega)]
    rfl
  | v :: r, C, o, j + 1, hj, h => by
    simp only [List.length_cons] at h
    have := putV_in r (C.setIfInBounds o v) (o + 1) j (by simpa using hj) (by simp; omega)
    rw [putV, show o + (j + 1) = o + 1 + j by omega, this]
    rfl
theorem setCells_row (b : Nat) : ∀ (vs : List Value) (o : Nat) (w : World) (C : Array Value) (T : TypeId) (fr : Nat × Nat), w.heap[b]? = some (.cells C T fr) → w.setCells b o vs = w.setRow b (putV C o vs)
  | [], _, w, C, T, fr, hb => (setRow_self w b C T fr hb).symm
  | v :: r, o, w, C, T, fr, hb => by
    rw [World.setCells, setCell_eq_setRow w b o C T fr v hb, setCells_row b r (o + 1) _ _ T fr (setRow_heap w b C _ T fr hb), setRow_setRow]
    rfl
/-- 'clear(s)' on a slice of one element of some cells. -/
theorem run_clear_one {P : Program} (w : World) (t e ty : TypeId) (z : Value) (ht : P.underlying t = some (.slice e)) (hv : ∀ w, (zeroValue e).run P w = .ok z w) (h1 : ∀ u ∈ z.cells.toList, u.oneCell' = true) (b o c : Nat)
    (hc : ∀ j, j < z.cells.size → (w.cell? ⟨b, o + j, none⟩).isSome = true) (hf : ∀ j, j < z.cells.size → w.frozen? ⟨b, o + j, none⟩ = false) :
    (Builtin.clear_ #[t] ty #[.slice (some ⟨b, o, none⟩) 1 c]).run P w = .ok (.tuple #[]) (w.setCells b o z.cells.toList) := by
  have hzc : (Builtin.zeroCells z.cells 1).toList = z.cells.toList := by
    simp [Builtin.zeroCells]
    apply List.ext_getElem
    · simp
    · intro i h1 h2
      simp at h1
      simp [Nat.mod_eq_of_lt h1, h1]
  have hst := run_storeCells_cells (P := P) b o z.cells.toList 0 w (by simpa using hc) (by simpa using hf) (by intro v hv'; exact h1 v hv')
  simp only [Nat.add_zero] at hst
  simp [Builtin.clear_, run_underlying ht, hv, hzc, hst]
def zeroShock : Value := .agg #[.int .i64 0, .int .i64 0, .int .i64 0, .int .i64 0, .int .i64 0]
theorem delShock_any (b n cap i : Nat) (C : Array Value) (T : TypeId) (w : World) (hb : w.heap[b]? = some (.cells C T (0, 0))) (hC : cap * 5 ≤ C.size) (hn : n ≤ cap) (hi : i < n) (news : List Value) (hnl : news.length = (n - (i + 1)) * 5)
    (hng : ∀ t, t < (n - (i + 1)) * 5 → news[t]? = some (C.getD ((i + 1) * 5 + t) Go.undef)) (h1 : ∀ u ∈ news, u.oneCell' = true) :
    Calls Try.prog 253 #[.slice (some ⟨b, 0, none⟩) n cap, .int .i64 i, .int .i64 ((i : Int) + 1)] w fun e w' =>
      e = .returned (.slice (some ⟨b, 0, none⟩) (n - 1) cap) ∧ w' = ((w.drew).setCells b (i * 5) news).setCells b ((n - 1) * 5) zeroShock.cells.toList := by
  have he : elOf Try.prog 81 = some (93, 5, 40) := by kernel_rfl
  obtain ⟨i0, t81, hi0, hz5, _⟩ := elOf_some he
  have hzv : ∀ w, (zeroValue 93).run Try.prog w = .ok zeroShock w := by
    have hz : (Try.prog.info? 93).bind (·.zero) = some zeroShock := by kernel_rfl
    intro w
    rw [hi0] at hz
    simp only [Option.bind_some] at hz
    simp [zeroValue, typeInfo, hi0, hz]
  have hcell : ∀ k, k < C.size → w.cell? ⟨b, k, none⟩ = some (C.getD k Go.undef) := fun k hk => by simp [World.cell?, hb, Array.getD, hk]
  have hfrz : ∀ (k : Nat), w.frozen? ⟨b, k, none⟩ = false := fun k => by simp [World.frozen?, hb]
  obtain ⟨A, hA, hsrc⟩ : ∃ A : Addr, (if cap = i + 1 then some (⟨b, 0, none⟩ : Addr) else some ⟨b, (i + 1) * 5, none⟩) = some A ∧ Hid (∀ t u, news[t]? = some u → w.drew.cell? (A.add t) = some u) := by
    by_cases h : cap = i + 1
    · refine ⟨⟨b, 0, none⟩, by simp [h], fun t u hu => ?_⟩
      have h0 : news.length = 0 := by rw [hnl]; omega
      rw [List.length_eq_zero_iff.1 h0] at hu
      simp at hu
    · refine ⟨⟨b, (i + 1) * 5, none⟩, by simp [h], fun t u hu => ?_⟩
      have ht : t < (n - (i + 1)) * 5 := by
        have := (List.getElem?_eq_some_iff.1 hu).1
        rwa [hnl] at this
      rw [hng t ht] at hu
      rw [Addr.add_lit]
      exact (hcell ((i + 1) * 5 + t) (by omega)).trans hu
  have s1 : Hid (news.length = (n - (i + 1)) * 5) := hnl
  have s2 : Hid (∀ u ∈ news, u.oneCell' = true) := h1
  have s3 : Hid (∀ t, t < news.length → (w.drew.cell? ⟨b, 0 + i * 5 + t, none⟩).isSome = true ∧ w.drew.frozen? ⟨b, 0 + i * 5 + t, none⟩ = false) := by
    intro t ht
    rw [hnl] at ht
    exact ⟨by show (w.cell? _).isSome = true; rw [hcell _ (by omega)]; rfl, hfrz _⟩
  obtain ⟨W1, hW1⟩ : ∃ W1, W1 = w.drew.setCells b (i * 5) news := ⟨_, rfl⟩
  have hsome : ∀ k, k < C.size → (W1.cell? ⟨b, k, none⟩).isSome = true := fun k hk => by
    rw [hW1]
    exact World.isSome_setCells b news _ w.drew _ (by show (w.cell? _).isSome = true; rw [hcell k hk]; rfl)
  have hcl : ∀ ty, (Builtin.clear_ #[81] ty #[.slice (some ⟨b, (i + (n - (i + 1))) * 5, none⟩) (n - (i + (n - (i + 1)))) (cap - (i + (n - (i + 1))))]).run Try.prog W1 = .ok (.tuple #[]) (W1.setCells b ((i + (n - (i + 1))) * 5) zeroShock.cells.toList) := by
    intro ty
    have e1 : n - (i + (n - (i + 1))) = 1 := by omega
    rw [e1]
    refine run_clear_one W1 _ _ ty zeroShock t81 hzv (by decide) b _ _ (fun j hj => hsome _ ?_) (fun j hj => ?_)
    · have : j < 5 := hj
      omega
    · rw [hW1, World.frozen?_setCells]
      exact hfrz _
  obtain ⟨zc, hzc⟩ : ∃ zc, zc = zeroShock.cells.toList := ⟨_, rfl⟩
  rw [← hzc] at hcl
  have Z : Aside (zc = zeroShock.cells.toList) := hzc
  have X : Aside (W1 = w.drew.setCells b (i * 5) news) := hW1
  have hW : Hid (W1 = w.drew.setCells b (0 + i * 5) news) := by rw [Nat.zero_add]; exact hW1
  have hic : i ≤ cap := by omega
  have hjc : i + 1 ≤ cap := by omega
  have hz5' : Hid (i0.size = 5) := hz5
  have mixed := Try.mixed
  have hb1 : (0 : Int) ≤ (i : Int) + 1 ∧ (i : Int) + 1 ≤ (n : Int) := by omega
  have hb2 : (0 : Int) ≤ (i : Int) + 1 := by omega
  have hb3 : (i : Int) + 1 ≤ (n : Int) := by omega
  clear hzc hzv hW1 hnl hng h1 hcell hfrz hb hsome
  go_enter Try.func253, Try.ntmps253
  go_wp2_with fail
  go_region_law_o (refine step_append_room rfl (.tmp 22) (.tmp 25) 81 rfl 93 i0 5 t81 hi0 hz5'.out b 0 i cap (by simp [Act.eval, Act.put]) A (n - (i + 1)) (cap - (i + 1)) news (by simp [Act.eval, Act.put]) s1.out hsrc.out s2.out (by omega) s3.out ?_; rw [← hW.out])
  go_wp2
  go_ret
  have e1 : i + (n - (i + 1)) = n - 1 := by omega
  refine ⟨?_, ?_⟩
  · rw [e1]
    rfl
  · rw [e1, X.out, Z.out]
theorem delShock_ok (L : List Shock) (i : Nat) (hi : i < L.length) : Ctr Try.prog 253 [.osl 0 0 L.length 5, .int .i64 i, .int .i64 ((i : Int) + 1)] [some (rows Shock.cs L)] (.osl 0 0 (L.length - 1) 5)
    [some (rows Shock.cs (L.take i ++ L.drop (i + 1)) ++ [.int .i64 0, .int .i64 0, .int .i64 0, .int .i64 0, .int .i64 0])] := by
  refine Ctr.raw (by kernel_rfl) (fun w vs m av I hs => ?_)
  obtain ⟨n, hn⟩ : ∃ n, n = L.length := ⟨_, rfl⟩
  have hlen : (rows Shock.cs L).length = n * 5 := by rw [rows_len5, hn]
  have h0 := I.slots 0 (by simp)
  have h1 := I.slots 1 (by simp)
  have h2 := I.slots 2 (by simp)
  dsimp only [List.getElem_cons_zero, List.getElem_cons_succ] at h0 h1 h2
  have e1 := rv_int h1
  have e2 := rv_int h2
  obtain ⟨v0, hv0⟩ : ∃ v0, v0 = vs.getD 0 Go.undef := ⟨_, rfl⟩
  rw [← hv0] at h0
  have hvs : vs = #[v0, .int .i64 i, .int .i64 ((i : Int) + 1)] := by
    have hsz : vs.size = 3 := hs
    apply Array.ext
    · simpa using hsz
    · intro k hk hk'
      have hk3 : k < 3 := by omega
      have hg : vs[k] = vs.getD k Go.undef := by simp [Array.getD, hk]
      rw [hg]
      rcases (show k = 0 ∨ k = 1 ∨ k = 2 by omega) with rfl | rfl | rfl
      · exact hv0.symm
      · exact e1
      · exact e2
  cases h0 with
  | osl _ _ _ cap _ cs hid hl hc hsz =>
    have hcs : cs = rows Shock.cs L := by
      have := hid.1
      simpa using this.symm
    subst hcs
    rcases I.rh.blk 0 _ hid.1 with ⟨C, T, hb, hle, hr⟩ | ⟨E, c, es, hb, hmb, _⟩
    rotate_left
    · have := hid.2
      rw [hmb] at this
      cases this
    have hrow : rowSize w (m 0) = C.size := by simp [rowSize, hb]
    rw [hrow] at hsz
    rw [← hn] at hc hi ⊢
    obtain ⟨news, hnews⟩ : ∃ news : List Value, news = (List.range ((n - (i + 1)) * 5)).map fun t => C.getD ((i + 1) * 5 + t) Go.undef := ⟨_, rfl⟩
    have hnl : news.length = (n - (i + 1)) * 5 := by rw [hnews]; simp
    have hng : ∀ t, t < (n - (i + 1)) * 5 → news[t]? = some (C.getD ((i + 1) * 5 + t) Go.undef) := fun t ht => by rw [hnews]; simp [ht]
    have hcellAll := rows_cell (cs := Shock.cs) L
    have h1c : ∀ u ∈ news, u.oneCell' = true := by
      intro u hu
      rw [hnews] at hu
      obtain ⟨t, ht, rfl⟩ := List.mem_map.1 hu
      have ht' := List.mem_range.1 ht
      have hk : (i + 1) * 5 + t < (rows Shock.cs L).length := by rw [hlen]; omega
      exact (one_of (hr _ hk) (List.all_eq_true.1 hcellAll _ (List.getElem_mem hk))).1
    rw [hvs, ← hn]
    refine (delShock_any (m 0) n cap i C T w hb (by omega) hc hi news hnl hng h1c).mono ?_
    rintro e w' ⟨rfl, rfl⟩
    have hbd : w.drew.heap[m 0]? = some (.cells C T (0, 0)) := hb
    have hw : ((w.drew).setCells (m 0) (i * 5) news).setCells (m 0) ((n - 1) * 5) zeroShock.cells.toList = w.drew.setRow (m 0) (putV (putV C (i * 5) news) ((n - 1) * 5) zeroShock.cells.toList) := by
      rw [setCells_row (m 0) news _ w.drew C T _ hbd, setCells_row (m 0) _ _ _ _ T _ (setRow_heap w.drew (m 0) C _ T _ hbd), setRow_setRow]
    rw [hw]
    have I1 := I.world (Ext.drew _ w)
    have hz5 : zeroShock.cells.toList.length = 5 := rfl
    have hcut : rows Shock.cs (L.take i ++ L.drop (i + 1)) = (rows Shock.cs L).take (i * 5) ++ (rows Shock.cs L).drop ((i + 1) * 5) := by rw [rowsOf_append, rows_take Shock.csl, rows_drop Shock.csl]
    have hl1 : ((rows Shock.cs L).take (i * 5)).length = i * 5 := by rw [List.length_take, hlen]; omega
    have hl2 : ((rows Shock.cs L).drop ((i + 1) * 5)).length = (n - (i + 1)) * 5 := by rw [List.length_drop, hlen]; omega
    rw [hcut]
    obtain ⟨J, hstep⟩ := I1.setRow (id := 0) (cs := rows Shock.cs L) (cs' := (rows Shock.cs L).take (i * 5) ++ (rows Shock.cs L).drop ((i + 1) * 5) ++ [.int .i64 0, .int .i64 0, .int .i64 0, .int .i64 0, .int .i64 0])
      (C := C) (C' := putV (putV C (i * 5) news) ((n - 1) * 5) zeroShock.cells.toList) (T := T) hid hbd (by rw [putV_size, putV_size]) (by simp only [List.length_append, hl1, hl2, hlen, List.length_cons, List.length_nil]; omega) (by simp only [List.length_append, hl1, hl2, putV_size, List.length_cons, List.length_nil]; omega) (fun k hk => by
        simp only [List.length_append, hl1, hl2, List.length_cons, List.length_nil] at hk
        have hrd : ∀ j (hj : j < (rows Shock.cs L).length), RV w.drew m [some (rows Shock.cs L)] (avm av m [some (rows Shock.cs L)]) true (C.getD j Go.undef) (rows Shock.cs L)[j] := by
          rcases I1.rh.blk 0 _ hid.1 with ⟨C2, T2, hb2, _, hr2⟩ | ⟨E, c, es, hb2, hmb, _⟩
          · rw [hbd] at hb2
            simp only [Option.some.injEq, Obj.cells.injEq] at hb2
            obtain ⟨rfl, _⟩ := hb2
            exact hr2
          · rw [hbd] at hb2; cases hb2
        rcases Nat.lt_or_ge k (i * 5) with h | h
        · rw [putV_out _ _ _ _ (by omega), putV_out _ _ _ _ (by omega)]
          have := hrd k (by omega)
          simpa [List.getElem_append, hl1, hl2, h, show k < i * 5 + (n - (i + 1)) * 5 by omega] using this
        · rcases Nat.lt_or_ge k ((n - 1) * 5) with h' | h'
          · rw [putV_out _ _ _ _ (by omega)]
            have hj : k - i * 5 < news.length := by omega
            have := putV_in news C (i * 5) (k - i * 5) hj (by omega)
            rw [show i * 5 + (k - i * 5) = k by omega] at this
            rw [this]
            have h3 := hng (k - i * 5) (by omega)
            rw [List.getElem?_eq_getElem hj] at h3
            simp only [Option.some.injEq] at h3
            rw [h3]
            have h4 := hrd ((i + 1) * 5 + (k - i * 5)) (by omega)
            have hlt : ¬ k < i * 5 := by omega
            simpa [List.getElem_append, hl1, hl2, hlt, show k < i * 5 + (n - (i + 1)) * 5 by omega, show k - i * 5 < (n - (i + 1)) * 5 by omega] using h4
          · have hj : k - (n - 1) * 5 < zeroShock.cells.toList.length := by rw [hz5]; omega
            have := putV_in zeroShock.cells.toList (putV C (i * 5) news) ((n - 1) * 5) (k - (n - 1) * 5) hj (by rw [putV_size]; omega)
            rw [show (n - 1) * 5 + (k - (n - 1) * 5) = k by omega] at this
            rw [this]
            have hge : ¬ k < i * 5 + (n - (i + 1)) * 5 := by omega
            have e5 : ∀ q, (hq : q < 5) → ([V.int .i64 0, .int .i64 0, .int .i64 0, .int .i64 0, .int .i64 0] : List V)[q]'(by simpa using hq) = .int .i64 0 := fun q hq => by
              rcases (show q = 0 ∨ q = 1 ∨ q = 2 ∨ q = 3 ∨ q = 4 by omega) with rfl | rfl | rfl | rfl | rfl <;> rfl
            have e6 : ∀ q, (hq : q < 5) → zeroShock.cells.toList[q]'(by rw [hz5]; exact hq) = .int .i64 0 := fun q hq => by
              rcases (show q = 0 ∨ q = 1 ∨ q = 2 ∨ q = 3 ∨ q = 4 by omega) with rfl | rfl | rfl | rfl | rfl <;> rfl
            rw [e6 _ (by omega), List.getElem_append_right (by rw [List.length_append, hl1, hl2]; omega), e5 _ (by rw [List.length_append, hl1, hl2]; omega)]
            exact .int _ _)
    refine ⟨_, m, _, _, rfl, ?_, J, ?_⟩
    · rfl
    · have := RV.osl (w := w.drew.setRow (m 0) (putV (putV C (i * 5) news) ((n - 1) * 5) zeroShock.cells.toList)) (m := m) (h := [some ((rows Shock.cs L).take (i * 5) ++ (rows Shock.cs L).drop ((i + 1) * 5) ++ [.int .i64 0, .int .i64 0, .int .i64 0, .int .i64 0, .int .i64 0])]) (av := avm av m [some ((rows Shock.cs L).take (i * 5) ++ (rows Shock.cs L).drop ((i + 1) * 5) ++ [.int .i64 0, .int .i64 0, .int .i64 0, .int .i64 0, .int .i64 0])]) 0 0 (n - 1) cap 5 _ ⟨rfl, ?_⟩ ?_ (by omega) ?_
      · exact this
      · have hlen2 : 5 ≤ ((rows Shock.cs L).take (i * 5) ++ (rows Shock.cs L).drop ((i + 1) * 5) ++ [V.int .i64 0,   .int .i64 0, .int .i64 0, .int .i64 0, .int .i64 0]).length := by simp only [List.length_append, List.length_cons, List.length_nil]; omega
        match h : ((rows Shock.cs L).take (i * 5) ++ (rows Shock.cs L).drop ((i + 1) * 5) ++ [V.int .i64 0, .int .i64 0, .int .i64 0, .int .i64 0, .int .i64 0]), hlen2 with
        | [], h2 => rfl
        | [x], h2 => simp at h2
        | _ :: _ :: _, _ => rfl
      · simp only [List.length_append, hl1, hl2, List.length_cons, List.length_nil]; omega
      · have : rowSize (w.drew.setRow (m 0) (putV (putV C (i * 5) news) ((n - 1) * 5) zeroShock.cells.toList)) (m 0) = C.size := by
          simp only [rowSize, setRow_heap w.drew (m 0) C _ T _ hbd, putV_size]
        rw [this]; omega
end Go.Proofs
end
section
set_option linter.unusedSimpArgs false
set_option linter.unusedVariables false
set_option maxRecDepth 100000
set_option maxHeartbeats 1000000
namespace Go.Proofs
open Go.Lv
def z5 : List V := [.int .i64 0, .int .i64 0, .int .i64 0, .int .i64 0, .int .i64 0]
theorem treat8_ok (w : Watch) (i : Nat) (n v : Int) (hw : wB w = true) (hi : i < w.Shocks.length) : Ctr Try.prog 215 [.ptr 0 0, .int .i64 i, .agg [.int .i64 8, .int .i64 n, .int .i64 v]] [some (w.oc 1 2), some (rows Post.cs w.Posts), some (rows Shock.cs w.Shocks)] (.bool (archB w w.Shocks[i]))
    [some ((archW w i).oc 1 2), some (rows Post.cs w.Posts), some (rows Shock.cs (w.Shocks.take i ++ w.Shocks.drop (i + 1)) ++ z5)] := by
  have W := wB_ok hw
  have hx := W.shocks _ (List.getElem_mem hi)
  have hb := shockB_iff.1 hx
  have hr := rows_at Shock.csl hi
  have sl := W.slen
  have hwi : IntKind.i64.wrap ((i : Int) + 1) = (i : Int) + 1 := wrap_i64 (by omega) (by omega)
  have hwa : IntKind.i64.wrap (w.Archived + 1) = w.Archived + 1 := by have := W.arch; exact wrap_i64 (by omega) (by omega)
  have hwn : IntKind.i64.wrap (w.Now - w.Shocks[i].Tick) = w.Now - w.Shocks[i].Tick := by have := W.now; exact wrap_i64 (by omega) (by omega)
  have e : (w.Shocks.take i ++ w.Shocks.drop (i + 1)).length = w.Shocks.length - 1 := by simp; omega
  have hall : (rows Shock.cs (w.Shocks.take i ++ w.Shocks.drop (i + 1)) ++ z5).all isCell = true := by
    rw [List.all_append, rows_cell]; rfl
  have hg : grown [some (rows Shock.cs w.Shocks)] [some (rows Shock.cs (w.Shocks.take i ++ w.Shocks.drop (i + 1)) ++ z5)] := by
    refine ⟨⟨?_, by rw [isMb_cells hall, isMb_rows]⟩, trivial⟩
    rw [List.length_append, rows_len5, rows_len5, e]
    show _ = (w.Shocks.length - 1) * 5 + 5
    omega
  refine Ctr.intro Try.mixed Try.func215 rfl Try.okF215 ?_
  simp -implicitDefEqProofs -dsimp only [go_sem, Nat.reduceSub, Nat.reduceAdd, Nat.reduceMul, Nat.reduceLT, Nat.reduceLeDiff, Nat.reduceEqDiff, Nat.reduceDiv, Nat.reduceMod, Int.reduceToNat, Int.reduceLE, Int.reduceLT, Int.reduceBEq, Int.reduceBNe, Int.reduceNeg, Int.reduceAdd, Int.reduceSub, Int.reduceMul, reduceCtorEq, Try.ntmps215, Try.results215]
  (repeat ((repeat1' (first | simp -implicitDefEqProofs -dsimp only [go_sem, Nat.reduceSub, Nat.reduceAdd, Nat.reduceMul, Nat.reduceLT, Nat.reduceLeDiff, Nat.reduceEqDiff, Nat.reduceDiv, Nat.reduceMod, Int.reduceToNat, Int.reduceLE, Int.reduceLT, Int.reduceBEq, Int.reduceBNe, Int.reduceNeg, Int.reduceAdd, Int.reduceSub, Int.reduceMul, reduceCtorEq, Watch.oc, hr, Shock.cs, hwi] | simp -implicitDefEqProofs -dsimp (disch := omega) only [wrap_i64])); repeat (with_reducible refine sideA ?_)))
  refine callS.lend [2] false ( delShock_ok w.Shocks i hi) (by decide) ⟨leO, leO, leO, trivial⟩ lendA ( hg) (.inl rfl) ?_
  (repeat ((repeat1' (first | simp -implicitDefEqProofs -dsimp only [go_sem, Nat.reduceSub, Nat.reduceAdd, Nat.reduceMul, Nat.reduceLT, Nat.reduceLeDiff, Nat.reduceEqDiff, Nat.reduceDiv, Nat.reduceMod, Int.reduceToNat, Int.reduceLE, Int.reduceLT, Int.reduceBEq, Int.reduceBNe, Int.reduceNeg, Int.reduceAdd, Int.reduceSub, Int.reduceMul, reduceCtorEq, Watch.oc, hwa] | simp -implicitDefEqProofs -dsimp (disch := omega) only [wrap_i64])); repeat (with_reducible refine sideA ?_)))
  clear hall hg
  repeat' (first | (refine guardT.splitT (fun _ => ?_) (fun _ => ?_) <;> (repeat ((repeat1' (first | simp -implicitDefEqProofs -dsimp only [go_sem, Nat.reduceSub, Nat.reduceAdd, Nat.reduceMul, Nat.reduceLT, Nat.reduceLeDiff, Nat.reduceEqDiff, Nat.reduceDiv, Nat.reduceMod, Int.reduceToNat, Int.reduceLE, Int.reduceLT, Int.reduceBEq, Int.reduceBNe, Int.reduceNeg, Int.reduceAdd, Int.reduceSub, Int.reduceMul, reduceCtorEq, *] | simp -implicitDefEqProofs -dsimp (disch := omega) only [wrap_i64])); repeat (with_reducible refine sideA ?_)))) | (refine guardT.splitF (fun _ => ?_) (fun _ => ?_) <;> (repeat ((repeat1' (first | simp -implicitDefEqProofs -dsimp only [go_sem, Nat.reduceSub, Nat.reduceAdd, Nat.reduceMul, Nat.reduceLT, Nat.reduceLeDiff, Nat.reduceEqDiff, Nat.reduceDiv, Nat.reduceMod, Int.reduceToNat, Int.reduceLE, Int.reduceLT, Int.reduceBEq, Int.reduceBNe, Int.reduceNeg, Int.reduceAdd, Int.reduceSub, Int.reduceMul, reduceCtorEq, *] | simp -implicitDefEqProofs -dsimp (disch := omega) only [wrap_i64])); repeat (with_reducible refine sideA ?_)))))
  all_goals
    refine WeakR.pick [0, 1, 2] (by decide) (fun j hj => by have hj' : j = 0 ∨ j = 1 ∨ j = 2 := (by omega); rcases hj' with rfl | rfl | rfl <;> rfl) (.inl (by first | rfl | (simp [ren, archB, *]; done))) ?_
    simp [pickH, pickB, ren, pickF, posOf, map_ren_rows, Watch.oc, archW, z5, *]
    try omega
theorem Watch.leT {h : Hp} {w : Watch} {i0 i1 n : Nat} {z : List V} (hn : n = w.Shocks.length) (h0 : h[i0]? = some (some (rows Post.cs w.Posts))) (h1 : h[i1]? = some (some (rows Shock.cs w.Shocks ++ z))) : LeV (ren (snapR h 3) 3 (.agg [.int .i64 w.Now, .osl i0 0 w.Posts.length 3, .osl i1 0 n 5, .int .i64 w.Next, .int .i64 w.Archived])) w.v := by
  subst hn
  refine .inl ?_
  have e : ∀ y : List V, (rows Shock.cs w.Shocks ++ y).take (w.Shocks.length * 5) = rows Shock.cs w.Shocks := fun y => List.take_left' (rows_len5 _)
  simp only [Watch.v, ren, List.map_cons, List.map_nil, snapR, h0, h1, map_ren_rows, List.drop_zero, take_rows, List.map_append, e]
def makeI (w : Watch) (k n v : Int) : Watch := if k = 1 then ⟨w.Now + (if 1000000 < v then 1000000 else v), w.Posts, w.Shocks, w.Next, w.Archived⟩ else makeW w k n v
theorem wstep1_ok (w : Watch) (n v : Int) (hw : wB w = true) (hv : 1 ≤ v) : Ctr Try.prog 129 [w.v, .agg [.int .i64 1, .int .i64 n, .int .i64 v]] [] (.tup [(makeI w 1 n v).o 0 1, .bool (doneW w 1 n v)]) [some (rows Post.cs w.Posts), some (rows Shock.cs w.Shocks)] := by
  have W := wB_ok hw
  have pl := W.plen
  have sl := W.slen
  have wn := W.now
  have hw1 : IntKind.i64.wrap (1000000 - w.Now) = 1000000 - w.Now := wrap_i64 (by omega) (by omega)
  have hw2 : IntKind.i64.wrap (w.Now + (if 1000000 < v then 1000000 else v)) = w.Now + (if 1000000 < v then 1000000 else v) := by split <;> exact wrap_i64 (by omega) (by omega)
  have hgood := iIsWatch_ok (makeI w 1 n v) (by simp [makeI]; omega) (by simp [makeI]; omega)
  have e2 : doneW w 1 n v = (decide (v ≤ 1000000 - w.Now) && wB (makeI w 1 n v)) := by
    by_cases h : v ≤ 1000000 - w.Now
    · have h2 : ¬ 1000000 < v := by omega
      simp [doneW, makeB, makeW, makeI, h, h2]
    · simp [doneW, makeB, h]
  have e1 : makeI w 1 n v = ⟨w.Now + (if 1000000 < v then 1000000 else v), w.Posts, w.Shocks, w.Next, w.Archived⟩ := by simp [makeI]
  rw [e2]
  rw [e1] at hgood ⊢
  simp only [Watch.v] at hgood
  refine Ctr.intro Try.mixed Try.func129 rfl Try.okF129 ?_
  simp -implicitDefEqProofs -dsimp only [go_sem, Nat.reduceSub, Nat.reduceAdd, Nat.reduceMul, Nat.reduceLT, Nat.reduceLeDiff, Nat.reduceEqDiff, Nat.reduceDiv, Nat.reduceMod, Int.reduceToNat, Int.reduceLE, Int.reduceLT, Int.reduceBEq, Int.reduceBNe, Int.reduceNeg, Int.reduceAdd, Int.reduceSub, Int.reduceMul, reduceCtorEq, Try.ntmps129, Try.results129]
  simp -implicitDefEqProofs -dsimp only [go_sem, Nat.reduceSub, Nat.reduceAdd, Nat.reduceMul, Nat.reduceLT, Nat.reduceLeDiff, Nat.reduceEqDiff, Nat.reduceDiv, Nat.reduceMod, Int.reduceToNat, Int.reduceLE, Int.reduceLT, Int.reduceBEq, Int.reduceBNe, Int.reduceNeg, Int.reduceAdd, Int.reduceSub, Int.reduceMul, reduceCtorEq, Watch.v]
  (first | refine callT.at (copiedWatch_ok w (by omega) (by omega)) ⟨(by first | exact leA | exact Watch.le rfl rfl | exact Watch.leT rfl rfl rfl), trivial⟩ ?_ | refine callS.at (copiedWatch_ok w (by omega) (by omega)) ⟨(by first | exact leA | exact Watch.le rfl rfl | exact Watch.leT rfl rfl rfl), trivial⟩ ?_)
  (repeat ((repeat1' (first | simp -implicitDefEqProofs -dsimp only [go_sem, Nat.reduceSub, Nat.reduceAdd, Nat.reduceMul, Nat.reduceLT, Nat.reduceLeDiff, Nat.reduceEqDiff, Nat.reduceDiv, Nat.reduceMod, Int.reduceToNat, Int.reduceLE, Int.reduceLT, Int.reduceBEq, Int.reduceBNe, Int.reduceNeg, Int.reduceAdd, Int.reduceSub, Int.reduceMul, reduceCtorEq, Watch.o, hw1, hw2] | simp -implicitDefEqProofs -dsimp (disch := omega) only [wrap_i64])); repeat (with_reducible refine sideA ?_)))
  refine guardT.splitT (fun g => ?_) (fun g => ?_) <;> (repeat ((repeat1' (first | simp -implicitDefEqProofs -dsimp only [go_sem, Nat.reduceSub, Nat.reduceAdd, Nat.reduceMul, Nat.reduceLT, Nat.reduceLeDiff, Nat.reduceEqDiff, Nat.reduceDiv, Nat.reduceMod, Int.reduceToNat, Int.reduceLE, Int.reduceLT, Int.reduceBEq, Int.reduceBNe, Int.reduceNeg, Int.reduceAdd, Int.reduceSub, Int.reduceMul, reduceCtorEq, g] | simp -implicitDefEqProofs -dsimp (disch := omega) only [wrap_i64])); repeat (with_reducible refine sideA ?_)))
  · skip
    (first | refine callT.at (hgood) ⟨(by first | exact leA | exact Watch.le rfl rfl | exact Watch.leT rfl rfl rfl), trivial⟩ ?_ | refine callS.at (hgood) ⟨(by first | exact leA | exact Watch.le rfl rfl | exact Watch.leT rfl rfl rfl), trivial⟩ ?_)
    (repeat ((repeat1' (first | simp -implicitDefEqProofs -dsimp only [go_sem, Nat.reduceSub, Nat.reduceAdd, Nat.reduceMul, Nat.reduceLT, Nat.reduceLeDiff, Nat.reduceEqDiff, Nat.reduceDiv, Nat.reduceMod, Int.reduceToNat, Int.reduceLE, Int.reduceLT, Int.reduceBEq, Int.reduceBNe, Int.reduceNeg, Int.reduceAdd, Int.reduceSub, Int.reduceMul, reduceCtorEq, g] | simp -implicitDefEqProofs -dsimp (disch := omega) only [wrap_i64])); repeat (with_reducible refine sideA ?_)))
    refine WeakR.pick [3, 4] (by decide) (fun j hj => by omega) (.inl ?_) ?_
    · first | rfl | (simp [ren, pickF, posOf, Watch.o, g]; done)
    · simp only [pickH, List.map_cons, List.map_nil, pickB, List.getElem?_cons_zero, List.getElem?_cons_succ, map_ren_rows]
  · skip
    refine WeakR.pick [3, 4] (by decide) (fun j hj => by omega) (.inl ?_) ?_
    · first | rfl | (simp [ren, pickF, posOf, Watch.o, g]; done)
    · simp only [pickH, List.map_cons, List.map_nil, pickB, List.getElem?_cons_zero, List.getElem?_cons_succ, map_ren_rows]
theorem wstep2_ok (w : Watch) (k n v : Int) (hk : k = 2 ∨ k = 3) (hw : wB w = true) (hs : stepWB w k n v = true) : Ctr Try.prog 129 [w.v, .agg [.int .i64 k, .int .i64 n, .int .i64 v]] [] (.tup [(makeI w k n v).o 0 1, .bool (doneW w k n v)]) [some (rows Post.cs (makeI w k n v).Posts), some (rows Shock.cs w.Shocks)] := by
  have W := wB_ok hw
  have pl := W.plen
  have sl := W.slen
  obtain ⟨i, hi, hix, hin⟩ : ∃ i, ∃ h : i < w.Posts.length, idxI (postIs n) w.Posts = (i : Int) ∧ postIs n w.Posts[i] = true := by
    have : decide (0 ≤ idxI (postIs n) w.Posts) = true := by
      rcases hk with rfl | rfl <;> simp [stepWB] at hs <;> simp [hs.1]
    exact idxI_get this
  have hst : w.Posts[i].Station = n := by simpa [postIs] using hin
  have hp : pAt w n = i := by simp [pAt, hix]
  have e1 : makeI w k n v = ⟨w.Now, w.Posts.set i ⟨n, decide (k = 3), w.Now⟩, w.Shocks, w.Next, w.Archived⟩ := by
    rcases hk with rfl | rfl <;> simp [makeI, makeW, hp]
  have e2 : doneW w k n v = (w.Posts[i].Up != decide (k = 3) && wB ⟨w.Now, w.Posts.set i ⟨n, decide (k = 3), w.Now⟩, w.Shocks, w.Next, w.Archived⟩) := by
    rcases hk with rfl | rfl <;> simp [doneW, makeB, makeW, hp, poAt_get hi]
  have hr := rows_at Post.csl hi
  have hlen : ∀ p, (w.Posts.set i p).length = w.Posts.length := fun p => by simp
  have s1 : ∀ b, splice (rows Post.cs w.Posts) (i * 3 + 1) [.bool b] = rows Post.cs (w.Posts.set i ⟨n, b, w.Posts[i].Since⟩) := fun b => splice_cell (cs := Post.cs) Post.csl hi (by omega) (by rw [Post.cs, hst.symm]; rfl)
  have s2 : ∀ b, splice (rows Post.cs (w.Posts.set i ⟨n, b, w.Posts[i].Since⟩)) (i * 3 + 2) [.int .i64 w.Now] = rows Post.cs (w.Posts.set i ⟨n, b, w.Now⟩) := fun b => by
    have h := splice_cell (cs := Post.cs) Post.csl (L := w.Posts.set i ⟨n, b, w.Posts[i].Since⟩) (j := i) (f := 2) (v := .int .i64 w.Now) (x := ⟨n, b, w.Now⟩) (by simpa using hi) (by omega) (by simp; rfl)
    rwa [List.set_set] at h
  have hrl : ∀ L : List Post, (rows Post.cs L).length = L.length * 3 := fun L => rows_len Post.csl L
  have hgood := iIsWatch_ok ⟨w.Now, w.Posts.set i ⟨n, decide (k = 3), w.Now⟩, w.Shocks, w.Next, w.Archived⟩ (by simp; omega) (by simp; omega)
  have hroom : i * 3 + 3 ≤ w.Posts.length * 3 := by omega
  rw [e1, e2]
  simp only [Watch.v, hlen] at hgood
  simp only [Watch.o, hlen]
  rcases hk with rfl | rfl
  · have hd : decide ((2 : Int) = 3) = false := rfl
    rw [hd] at hgood ⊢
    refine Ctr.intro Try.mixed Try.func129 rfl Try.okF129 ?_
    simp -implicitDefEqProofs -dsimp only [go_sem, Nat.reduceSub, Nat.reduceAdd, Nat.reduceMul, Nat.reduceLT, Nat.reduceLeDiff, Nat.reduceEqDiff, Nat.reduceDiv, Nat.reduceMod, Int.reduceToNat, Int.reduceLE, Int.reduceLT, Int.reduceBEq, Int.reduceBNe, Int.reduceNeg, Int.reduceAdd, Int.reduceSub, Int.reduceMul, reduceCtorEq, Try.ntmps129, Try.results129]
    simp -implicitDefEqProofs -dsimp only [go_sem, Nat.reduceSub, Nat.reduceAdd, Nat.reduceMul, Nat.reduceLT, Nat.reduceLeDiff, Nat.reduceEqDiff, Nat.reduceDiv, Nat.reduceMod, Int.reduceToNat, Int.reduceLE, Int.reduceLT, Int.reduceBEq, Int.reduceBNe, Int.reduceNeg, Int.reduceAdd, Int.reduceSub, Int.reduceMul, reduceCtorEq, Watch.v]
    (first | refine callT.at (copiedWatch_ok w (by omega) (by omega)) ⟨(by first | exact leA | exact Watch.le rfl rfl | exact Watch.leT rfl rfl rfl), trivial⟩ ?_ | refine callS.at (copiedWatch_ok w (by omega) (by omega)) ⟨(by first | exact leA | exact Watch.le rfl rfl | exact Watch.leT rfl rfl rfl), trivial⟩ ?_)
    (repeat ((repeat1' (first | simp -implicitDefEqProofs -dsimp only [go_sem, Nat.reduceSub, Nat.reduceAdd, Nat.reduceMul, Nat.reduceLT, Nat.reduceLeDiff, Nat.reduceEqDiff, Nat.reduceDiv, Nat.reduceMod, Int.reduceToNat, Int.reduceLE, Int.reduceLT, Int.reduceBEq, Int.reduceBNe, Int.reduceNeg, Int.reduceAdd, Int.reduceSub, Int.reduceMul, reduceCtorEq, Watch.o] | simp -implicitDefEqProofs -dsimp (disch := omega) only [wrap_i64])); repeat (with_reducible refine sideA ?_)))
    (first | refine callT.at (postAt_ok w n (by omega)) ⟨(by first | exact leA | exact Watch.le rfl rfl | exact Watch.leT rfl rfl rfl), (by first | exact leA | exact Watch.le rfl rfl | exact Watch.leT rfl rfl rfl), trivial⟩ ?_ | refine callS.at (postAt_ok w n (by omega)) ⟨(by first | exact leA | exact Watch.le rfl rfl | exact Watch.leT rfl rfl rfl), (by first | exact leA | exact Watch.le rfl rfl | exact Watch.leT rfl rfl rfl), trivial⟩ ?_)
    rw [hix]
    (repeat ((repeat1' (first | simp -implicitDefEqProofs -dsimp only [go_sem, Nat.reduceSub, Nat.reduceAdd, Nat.reduceMul, Nat.reduceLT, Nat.reduceLeDiff, Nat.reduceEqDiff, Nat.reduceDiv, Nat.reduceMod, Int.reduceToNat, Int.reduceLE, Int.reduceLT, Int.reduceBEq, Int.reduceBNe, Int.reduceNeg, Int.reduceAdd, Int.reduceSub, Int.reduceMul, reduceCtorEq, hr, Post.cs] | simp -implicitDefEqProofs -dsimp (disch := omega) only [wrap_i64])); repeat (with_reducible refine sideA ?_)))
    refine lateT.path [true, true, true, true, true, true, true, true, true, true, true, true, true, false, false, false, false] [false, false, false, false, false, true, false, false, false, true, true, false, false, false, false, false, false] 1 [3] (by kernel_rfl) ?_
    (repeat ((repeat1' (first | simp -implicitDefEqProofs -dsimp only [go_sem, Nat.reduceSub, Nat.reduceAdd, Nat.reduceMul, Nat.reduceLT, Nat.reduceLeDiff, Nat.reduceEqDiff, Nat.reduceDiv, Nat.reduceMod, Int.reduceToNat, Int.reduceLE, Int.reduceLT, Int.reduceBEq, Int.reduceBNe, Int.reduceNeg, Int.reduceAdd, Int.reduceSub, Int.reduceMul, reduceCtorEq, hr, Post.cs, s1, s2, hrl, hlen, Int.toNat_natCast] | simp -implicitDefEqProofs -dsimp (disch := omega) only [wrap_i64])); repeat (with_reducible refine sideA ?_)))
    refine guardT.splitT (fun g => ?_) (fun g => ?_) <;> (repeat ((repeat1' (first | simp -implicitDefEqProofs -dsimp only [go_sem, Nat.reduceSub, Nat.reduceAdd, Nat.reduceMul, Nat.reduceLT, Nat.reduceLeDiff, Nat.reduceEqDiff, Nat.reduceDiv, Nat.reduceMod, Int.reduceToNat, Int.reduceLE, Int.reduceLT, Int.reduceBEq, Int.reduceBNe, Int.reduceNeg, Int.reduceAdd, Int.reduceSub, Int.reduceMul, reduceCtorEq, g, s1, s2] | simp -implicitDefEqProofs -dsimp (disch := omega) only [wrap_i64])); repeat (with_reducible refine sideA ?_)))
    · skip
      (first | refine callT.at (hgood) ⟨(by first | exact leA | exact Watch.le rfl rfl | exact Watch.leT rfl rfl rfl), trivial⟩ ?_ | refine callS.at (hgood) ⟨(by first | exact leA | exact Watch.le rfl rfl | exact Watch.leT rfl rfl rfl), trivial⟩ ?_)
      (repeat ((repeat1' (first | simp -implicitDefEqProofs -dsimp only [go_sem, Nat.reduceSub, Nat.reduceAdd, Nat.reduceMul, Nat.reduceLT, Nat.reduceLeDiff, Nat.reduceEqDiff, Nat.reduceDiv, Nat.reduceMod, Int.reduceToNat, Int.reduceLE, Int.reduceLT, Int.reduceBEq, Int.reduceBNe, Int.reduceNeg, Int.reduceAdd, Int.reduceSub, Int.reduceMul, reduceCtorEq, g] | simp -implicitDefEqProofs -dsimp (disch := omega) only [wrap_i64])); repeat (with_reducible refine sideA ?_)))
      simp at g
      refine WeakR.pick [3, 4] (by decide) (fun j hj => by omega) (.inl ?_) ?_
      · first | rfl | (simp [ren, pickF, posOf, Watch.o, g]; done)
      · simp only [pickH, List.map_cons, List.map_nil, pickB, List.getElem?_cons_zero, List.getElem?_cons_succ, map_ren_rows]
    · skip
      simp at g
      refine WeakR.pick [3, 4] (by decide) (fun j hj => by omega) (.inl ?_) ?_
      · first | rfl | (simp [ren, pickF, posOf, Watch.o, g]; done)
      · simp only [pickH, List.map_cons, List.map_nil, pickB, List.getElem?_cons_zero, List.getElem?_cons_succ, map_ren_rows]
  · have hd : decide ((3 : Int) = 3) = true := rfl
    rw [hd] at hgood ⊢
    refine Ctr.intro Try.mixed Try.func129 rfl Try.okF129 ?_
    simp -implicitDefEqProofs -dsimp only [go_sem, Nat.reduceSub, Nat.reduceAdd, Nat.reduceMul, Nat.reduceLT, Nat.reduceLeDiff, Nat.reduceEqDiff, Nat.reduceDiv, Nat.reduceMod, Int.reduceToNat, Int.reduceLE, Int.reduceLT, Int.reduceBEq, Int.reduceBNe, Int.reduceNeg, Int.reduceAdd, Int.reduceSub, Int.reduceMul, reduceCtorEq, Try.ntmps129, Try.results129]
    simp -implicitDefEqProofs -dsimp only [go_sem, Nat.reduceSub, Nat.reduceAdd, Nat.reduceMul, Nat.reduceLT, Nat.reduceLeDiff, Nat.reduceEqDiff, Nat.reduceDiv, Nat.reduceMod, Int.reduceToNat, Int.reduceLE, Int.reduceLT, Int.reduceBEq, Int.reduceBNe, Int.reduceNeg, Int.reduceAdd, Int.reduceSub, Int.reduceMul, reduceCtorEq, Watch.v]
    (first | refine callT.at (copiedWatch_ok w (by omega) (by omega)) ⟨(by first | exact leA | exact Watch.le rfl rfl | exact Watch.leT rfl rfl rfl), trivial⟩ ?_ | refine callS.at (copiedWatch_ok w (by omega) (by omega)) ⟨(by first | exact leA | exact Watch.le rfl rfl | exact Watch.leT rfl rfl rfl), trivial⟩ ?_)
    (repeat ((repeat1' (first | simp -implicitDefEqProofs -dsimp only [go_sem, Nat.reduceSub, Nat.reduceAdd, Nat.reduceMul, Nat.reduceLT, Nat.reduceLeDiff, Nat.reduceEqDiff, Nat.reduceDiv, Nat.reduceMod, Int.reduceToNat, Int.reduceLE, Int.reduceLT, Int.reduceBEq, Int.reduceBNe, Int.reduceNeg, Int.reduceAdd, Int.reduceSub, Int.reduceMul, reduceCtorEq, Watch.o] | simp -implicitDefEqProofs -dsimp (disch := omega) only [wrap_i64])); repeat (with_reducible refine sideA ?_)))
    (first | refine callT.at (postAt_ok w n (by omega)) ⟨(by first | exact leA | exact Watch.le rfl rfl | exact Watch.leT rfl rfl rfl), (by first | exact leA | exact Watch.le rfl rfl | exact Watch.leT rfl rfl rfl), trivial⟩ ?_ | refine callS.at (postAt_ok w n (by omega)) ⟨(by first | exact leA | exact Watch.le rfl rfl | exact Watch.leT rfl rfl rfl), (by first | exact leA | exact Watch.le rfl rfl | exact Watch.leT rfl rfl rfl), trivial⟩ ?_)
    rw [hix]
    (repeat ((repeat1' (first | simp -implicitDefEqProofs -dsimp only [go_sem, Nat.reduceSub, Nat.reduceAdd, Nat.reduceMul, Nat.reduceLT, Nat.reduceLeDiff, Nat.reduceEqDiff, Nat.reduceDiv, Nat.reduceMod, Int.reduceToNat, Int.reduceLE, Int.reduceLT, Int.reduceBEq, Int.reduceBNe, Int.reduceNeg, Int.reduceAdd, Int.reduceSub, Int.reduceMul, reduceCtorEq, hr, Post.cs] | simp -implicitDefEqProofs -dsimp (disch := omega) only [wrap_i64])); repeat (with_reducible refine sideA ?_)))
    refine lateT.path [true, true, true, true, true, true, true, true, true, true, true, true, true, false, false, false, false] [false, false, false, false, false, true, false, false, false, true, true, false, false, false, false, false, false] 1 [3] (by kernel_rfl) ?_
    (repeat ((repeat1' (first | simp -implicitDefEqProofs -dsimp only [go_sem, Nat.reduceSub, Nat.reduceAdd, Nat.reduceMul, Nat.reduceLT, Nat.reduceLeDiff, Nat.reduceEqDiff, Nat.reduceDiv, Nat.reduceMod, Int.reduceToNat, Int.reduceLE, Int.reduceLT, Int.reduceBEq, Int.reduceBNe, Int.reduceNeg, Int.reduceAdd, Int.reduceSub, Int.reduceMul, reduceCtorEq, hr, Post.cs, s1, s2, hrl, hlen, Int.toNat_natCast] | simp -implicitDefEqProofs -dsimp (disch := omega) only [wrap_i64])); repeat (with_reducible refine sideA ?_)))
    refine guardT.splitT (fun g => ?_) (fun g => ?_) <;> (repeat ((repeat1' (first | simp -implicitDefEqProofs -dsimp only [go_sem, Nat.reduceSub, Nat.reduceAdd, Nat.reduceMul, Nat.reduceLT, Nat.reduceLeDiff, Nat.reduceEqDiff, Nat.reduceDiv, Nat.reduceMod, Int.reduceToNat, Int.reduceLE, Int.reduceLT, Int.reduceBEq, Int.reduceBNe, Int.reduceNeg, Int.reduceAdd, Int.reduceSub, Int.reduceMul, reduceCtorEq, g, s1, s2] | simp -implicitDefEqProofs -dsimp (disch := omega) only [wrap_i64])); repeat (with_reducible refine sideA ?_)))
    · skip
      (first | refine callT.at (hgood) ⟨(by first | exact leA | exact Watch.le rfl rfl | exact Watch.leT rfl rfl rfl), trivial⟩ ?_ | refine callS.at (hgood) ⟨(by first | exact leA | exact Watch.le rfl rfl | exact Watch.leT rfl rfl rfl), trivial⟩ ?_)
      (repeat ((repeat1' (first | simp -implicitDefEqProofs -dsimp only [go_sem, Nat.reduceSub, Nat.reduceAdd, Nat.reduceMul, Nat.reduceLT, Nat.reduceLeDiff, Nat.reduceEqDiff, Nat.reduceDiv, Nat.reduceMod, Int.reduceToNat, Int.reduceLE, Int.reduceLT, Int.reduceBEq, Int.reduceBNe, Int.reduceNeg, Int.reduceAdd, Int.reduceSub, Int.reduceMul, reduceCtorEq, g] | simp -implicitDefEqProofs -dsimp (disch := omega) only [wrap_i64])); repeat (with_reducible refine sideA ?_)))
      simp at g
      refine WeakR.pick [3, 4] (by decide) (fun j hj => by omega) (.inl ?_) ?_
      · first | rfl | (simp [ren, pickF, posOf, Watch.o, g]; done)
      · simp only [pickH, List.map_cons, List.map_nil, pickB, List.getElem?_cons_zero, List.getElem?_cons_succ, map_ren_rows]
    · skip
      simp at g
      refine WeakR.pick [3, 4] (by decide) (fun j hj => by omega) (.inl ?_) ?_
      · first | rfl | (simp [ren, pickF, posOf, Watch.o, g]; done)
      · simp only [pickH, List.map_cons, List.map_nil, pickB, List.getElem?_cons_zero, List.getElem?_cons_succ, map_ren_rows]
theorem upTo_upN (w : Watch) : (upTo w.Posts w.Posts.length).length = upN w w.Posts.length := by simp [upTo, upN]
theorem wstep4_ok (w : Watch) (n v : Int) (hw : wB w = true) : Ctr Try.prog 129 [w.v, .agg [.int .i64 4, .int .i64 n, .int .i64 v]] [] (.tup [(makeI w 4 n v).o 0 1, .bool (doneW w 4 n v)]) [some (rows Post.cs w.Posts), some (rows Shock.cs (makeI w 4 n v).Shocks)] := by
  have W := wB_ok hw
  have pl := W.plen
  have sl := W.slen
  have wn := W.next
  have hwn : IntKind.i64.wrap (w.Next + 1) = w.Next + 1 := wrap_i64 (by omega) (by omega)
  obtain ⟨x, hx⟩ : ∃ x : Shock, x = ⟨w.Next, 0, (upN w w.Posts.length : Int), 0, w.Now⟩ := ⟨_, rfl⟩
  have e1 : makeI w 4 n v = ⟨w.Now, w.Posts, w.Shocks ++ [x], w.Next + 1, w.Archived⟩ := by simp [makeI, makeW, hx]
  have e2 : doneW w 4 n v = wB ⟨w.Now, w.Posts, w.Shocks ++ [x], w.Next + 1, w.Archived⟩ := by simp [doneW, makeB, makeW, hx]
  have hsn : rows Shock.cs w.Shocks ++ [.int .i64 w.Next, .int .i64 0, .int .i64 (upN w w.Posts.length : Int), .int .i64 0, .int .i64 w.Now] = rows Shock.cs (w.Shocks ++ [x]) := by
    rw [hx]
    exact rows_snoc (cs := Shock.cs) w.Shocks ⟨w.Next, 0, (upN w w.Posts.length : Int), 0, w.Now⟩
  have hln : w.Shocks.length + 1 = (w.Shocks ++ [x]).length := by simp
  have hup := watchUp_ok w (by omega)
  rw [upTo_upN] at hup
  have hgood := iIsWatch_ok ⟨w.Now, w.Posts, w.Shocks ++ [x], w.Next + 1, w.Archived⟩ (by simp; omega) (by simp; omega)
  rw [e1, e2]
  refine Ctr.intro Try.mixed Try.func129 rfl Try.okF129 ?_
  simp -implicitDefEqProofs -dsimp only [go_sem, Nat.reduceSub, Nat.reduceAdd, Nat.reduceMul, Nat.reduceLT, Nat.reduceLeDiff, Nat.reduceEqDiff, Nat.reduceDiv, Nat.reduceMod, Int.reduceToNat, Int.reduceLE, Int.reduceLT, Int.reduceBEq, Int.reduceBNe, Int.reduceNeg, Int.reduceAdd, Int.reduceSub, Int.reduceMul, reduceCtorEq, Try.ntmps129, Try.results129]
  simp -implicitDefEqProofs -dsimp only [go_sem, Nat.reduceSub, Nat.reduceAdd, Nat.reduceMul, Nat.reduceLT, Nat.reduceLeDiff, Nat.reduceEqDiff, Nat.reduceDiv, Nat.reduceMod, Int.reduceToNat, Int.reduceLE, Int.reduceLT, Int.reduceBEq, Int.reduceBNe, Int.reduceNeg, Int.reduceAdd, Int.reduceSub, Int.reduceMul, reduceCtorEq, Watch.v]
  (first | refine callT.at (copiedWatch_ok w (by omega) (by omega)) ⟨(by first | exact leA | exact Watch.le rfl rfl | exact Watch.leT rfl rfl rfl), trivial⟩ ?_ | refine callS.at (copiedWatch_ok w (by omega) (by omega)) ⟨(by first | exact leA | exact Watch.le rfl rfl | exact Watch.leT rfl rfl rfl), trivial⟩ ?_)
  (repeat ((repeat1' (first | simp -implicitDefEqProofs -dsimp only [go_sem, Nat.reduceSub, Nat.reduceAdd, Nat.reduceMul, Nat.reduceLT, Nat.reduceLeDiff, Nat.reduceEqDiff, Nat.reduceDiv, Nat.reduceMod, Int.reduceToNat, Int.reduceLE, Int.reduceLT, Int.reduceBEq, Int.reduceBNe, Int.reduceNeg, Int.reduceAdd, Int.reduceSub, Int.reduceMul, reduceCtorEq, Watch.o] | simp -implicitDefEqProofs -dsimp (disch := omega) only [wrap_i64])); repeat (with_reducible refine sideA ?_)))
  (first | refine callT.at (hup) ⟨(by first | exact leA | exact Watch.le rfl rfl | exact Watch.leT rfl rfl rfl), trivial⟩ ?_ | refine callS.at (hup) ⟨(by first | exact leA | exact Watch.le rfl rfl | exact Watch.leT rfl rfl rfl), trivial⟩ ?_)
  (repeat ((repeat1' (first | simp -implicitDefEqProofs -dsimp only [go_sem, Nat.reduceSub, Nat.reduceAdd, Nat.reduceMul, Nat.reduceLT, Nat.reduceLeDiff, Nat.reduceEqDiff, Nat.reduceDiv, Nat.reduceMod, Int.reduceToNat, Int.reduceLE, Int.reduceLT, Int.reduceBEq, Int.reduceBNe, Int.reduceNeg, Int.reduceAdd, Int.reduceSub, Int.reduceMul, reduceCtorEq, hwn, hsn, hln] | simp -implicitDefEqProofs -dsimp (disch := omega) only [wrap_i64])); repeat (with_reducible refine sideA ?_)))
  (first | refine callT.at (hgood) ⟨(by first | exact leA | exact Watch.le rfl rfl | exact Watch.leT rfl rfl rfl), trivial⟩ ?_ | refine callS.at (hgood) ⟨(by first | exact leA | exact Watch.le rfl rfl | exact Watch.leT rfl rfl rfl), trivial⟩ ?_)
  (repeat ((repeat1' (first | simp -implicitDefEqProofs -dsimp only [go_sem, Nat.reduceSub, Nat.reduceAdd, Nat.reduceMul, Nat.reduceLT, Nat.reduceLeDiff, Nat.reduceEqDiff, Nat.reduceDiv, Nat.reduceMod, Int.reduceToNat, Int.reduceLE, Int.reduceLT, Int.reduceBEq, Int.reduceBNe, Int.reduceNeg, Int.reduceAdd, Int.reduceSub, Int.reduceMul, reduceCtorEq, hsn] | simp -implicitDefEqProofs -dsimp (disch := omega) only [wrap_i64])); repeat (with_reducible refine sideA ?_)))
  refine WeakR.pick [3, 4] (by decide) (fun j hj => by omega) (.inl ?_) ?_
  · first | rfl | (simp [ren, pickF, posOf, Watch.o]; done)
  · simp only [pickH, List.map_cons, List.map_nil, pickB, List.getElem?_cons_zero, List.getElem?_cons_succ, map_ren_rows]
theorem wstep5_ok (w : Watch) (k n v : Int) (hk : k = 5 ∨ k = 6 ∨ k = 7) (hw : wB w = true) (hs : stepWB w k n v = true) (hv : -100 ≤ v ∧ v ≤ 100) : Ctr Try.prog 129 [w.v, .agg [.int .i64 k, .int .i64 n, .int .i64 v]] [] (.tup [(makeI w k n v).o 0 1, .bool (doneW w k n v)]) [some (rows Post.cs w.Posts), some (rows Shock.cs (makeI w k n v).Shocks)] := by
  have W := wB_ok hw
  have pl := W.plen
  have sl := W.slen
  obtain ⟨i, hi, hix, hin⟩ : ∃ i, ∃ h : i < w.Shocks.length, idxI (shockIs n) w.Shocks = (i : Int) ∧ shockIs n w.Shocks[i] = true := by
    have : decide (0 ≤ idxI (shockIs n) w.Shocks) = true := by
      rcases hk with rfl | rfl | rfl <;> simp [stepWB] at hs <;> simp [hs]
    exact idxI_get this
  have hp : sAt w n = i := by simp [sAt, hix]
  have hsh := shAt_get hi
  have e1 : makeI w k n v = ⟨w.Now, w.Posts, w.Shocks.set i (chgX w.Shocks[i] k v), w.Next, w.Archived⟩ := by
    rcases hk with rfl | rfl | rfl <;> simp [makeI, makeW, hp, hsh]
  have e2 : doneW w k n v = (chgB w.Shocks[i] k && wB ⟨w.Now, w.Posts, w.Shocks.set i (chgX w.Shocks[i] k v), w.Next, w.Archived⟩) := by
    rcases hk with rfl | rfl | rfl <;> simp [doneW, makeB, makeW, hp, hsh]
  have htr := treat5_ok w i k n v hk hw hi hv
  have hlen : ∀ p, (w.Shocks.set i p).length = w.Shocks.length := fun p => by simp
  have hgood := iIsWatch_ok ⟨w.Now, w.Posts, w.Shocks.set i (chgX w.Shocks[i] k v), w.Next, w.Archived⟩ (by simp; omega) (by simp; omega)
  generalize chgX w.Shocks[i] k v = y at e1 e2 htr hgood
  have hg : grown [some (w.oc 1 2), some (rows Post.cs w.Posts), some (rows Shock.cs w.Shocks)] [some (w.oc 1 2), some (rows Post.cs w.Posts), some (rows Shock.cs (w.Shocks.set i y))] := by
    refine ⟨⟨rfl, rfl⟩, ⟨rfl, rfl⟩, ⟨by rw [rows_len5, rows_len5, hlen], by rw [isMb_rows, isMb_rows]⟩, trivial⟩
  rw [e1, e2]
  clear e1 e2
  simp only [Watch.v, hlen] at hgood
  simp only [Watch.o, hlen]
  generalize chgB w.Shocks[i] k = b at *
  rcases hk with rfl | rfl | rfl
  · skip
    refine Ctr.intro Try.mixed Try.func129 rfl Try.okF129 ?_
    simp -implicitDefEqProofs -dsimp only [go_sem, Nat.reduceSub, Nat.reduceAdd, Nat.reduceMul, Nat.reduceLT, Nat.reduceLeDiff, Nat.reduceEqDiff, Nat.reduceDiv, Nat.reduceMod, Int.reduceToNat, Int.reduceLE, Int.reduceLT, Int.reduceBEq, Int.reduceBNe, Int.reduceNeg, Int.reduceAdd, Int.reduceSub, Int.reduceMul, reduceCtorEq, Try.ntmps129, Try.results129]
    simp -implicitDefEqProofs -dsimp only [go_sem, Nat.reduceSub, Nat.reduceAdd, Nat.reduceMul, Nat.reduceLT, Nat.reduceLeDiff, Nat.reduceEqDiff, Nat.reduceDiv, Nat.reduceMod, Int.reduceToNat, Int.reduceLE, Int.reduceLT, Int.reduceBEq, Int.reduceBNe, Int.reduceNeg, Int.reduceAdd, Int.reduceSub, Int.reduceMul, reduceCtorEq, Watch.v]
    (first | refine callT.at (copiedWatch_ok w (by omega) (by omega)) ⟨(by first | exact leA | exact Watch.le rfl rfl | exact Watch.leT rfl rfl rfl), trivial⟩ ?_ | refine callS.at (copiedWatch_ok w (by omega) (by omega)) ⟨(by first | exact leA | exact Watch.le rfl rfl | exact Watch.leT rfl rfl rfl), trivial⟩ ?_)
    (repeat ((repeat1' (first | simp -implicitDefEqProofs -dsimp only [go_sem, Nat.reduceSub, Nat.reduceAdd, Nat.reduceMul, Nat.reduceLT, Nat.reduceLeDiff, Nat.reduceEqDiff, Nat.reduceDiv, Nat.reduceMod, Int.reduceToNat, Int.reduceLE, Int.reduceLT, Int.reduceBEq, Int.reduceBNe, Int.reduceNeg, Int.reduceAdd, Int.reduceSub, Int.reduceMul, reduceCtorEq, Watch.o] | simp -implicitDefEqProofs -dsimp (disch := omega) only [wrap_i64])); repeat (with_reducible refine sideA ?_)))
    (first | refine callT.at (shockAt_ok w n (by omega)) ⟨(by first | exact leA | exact Watch.le rfl rfl | exact Watch.leT rfl rfl rfl), (by first | exact leA | exact Watch.le rfl rfl | exact Watch.leT rfl rfl rfl), trivial⟩ ?_ | refine callS.at (shockAt_ok w n (by omega)) ⟨(by first | exact leA | exact Watch.le rfl rfl | exact Watch.leT rfl rfl rfl), (by first | exact leA | exact Watch.le rfl rfl | exact Watch.leT rfl rfl rfl), trivial⟩ ?_)
    rw [hix]
    (repeat ((repeat1' (first | simp -implicitDefEqProofs -dsimp only [go_sem, Nat.reduceSub, Nat.reduceAdd, Nat.reduceMul, Nat.reduceLT, Nat.reduceLeDiff, Nat.reduceEqDiff, Nat.reduceDiv, Nat.reduceMod, Int.reduceToNat, Int.reduceLE, Int.reduceLT, Int.reduceBEq, Int.reduceBNe, Int.reduceNeg, Int.reduceAdd, Int.reduceSub, Int.reduceMul, reduceCtorEq] | simp -implicitDefEqProofs -dsimp (disch := omega) only [wrap_i64])); repeat (with_reducible refine sideA ?_)))
    refine callS.lend [5, 3, 4] false htr (by decide) ⟨.inl rfl, .inl rfl, .inl rfl, trivial⟩ (by simp [pickH, pickB, ren, pickF, posOf, map_ren_rows, Watch.oc]) hg (.inl rfl) ?_
    (repeat ((repeat1' (first | simp -implicitDefEqProofs -dsimp only [go_sem, Nat.reduceSub, Nat.reduceAdd, Nat.reduceMul, Nat.reduceLT, Nat.reduceLeDiff, Nat.reduceEqDiff, Nat.reduceDiv, Nat.reduceMod, Int.reduceToNat, Int.reduceLE, Int.reduceLT, Int.reduceBEq, Int.reduceBNe, Int.reduceNeg, Int.reduceAdd, Int.reduceSub, Int.reduceMul, reduceCtorEq, Watch.oc] | simp -implicitDefEqProofs -dsimp (disch := omega) only [wrap_i64])); repeat (with_reducible refine sideA ?_)))
    refine guardT.splitT (fun g => ?_) (fun g => ?_) <;> (repeat ((repeat1' (first | simp -implicitDefEqProofs -dsimp only [go_sem, Nat.reduceSub, Nat.reduceAdd, Nat.reduceMul, Nat.reduceLT, Nat.reduceLeDiff, Nat.reduceEqDiff, Nat.reduceDiv, Nat.reduceMod, Int.reduceToNat, Int.reduceLE, Int.reduceLT, Int.reduceBEq, Int.reduceBNe, Int.reduceNeg, Int.reduceAdd, Int.reduceSub, Int.reduceMul, reduceCtorEq, g] | simp -implicitDefEqProofs -dsimp (disch := omega) only [wrap_i64])); repeat (with_reducible refine sideA ?_)))
    · skip
      (first | refine callT.at (hgood) ⟨(by first | exact leA | exact Watch.le rfl rfl | exact Watch.leT rfl rfl rfl), trivial⟩ ?_ | refine callS.at (hgood) ⟨(by first | exact leA | exact Watch.le rfl rfl | exact Watch.leT rfl rfl rfl), trivial⟩ ?_)
      (repeat ((repeat1' (first | simp -implicitDefEqProofs -dsimp only [go_sem, Nat.reduceSub, Nat.reduceAdd, Nat.reduceMul, Nat.reduceLT, Nat.reduceLeDiff, Nat.reduceEqDiff, Nat.reduceDiv, Nat.reduceMod, Int.reduceToNat, Int.reduceLE, Int.reduceLT, Int.reduceBEq, Int.reduceBNe, Int.reduceNeg, Int.reduceAdd, Int.reduceSub, Int.reduceMul, reduceCtorEq, g] | simp -implicitDefEqProofs -dsimp (disch := omega) only [wrap_i64])); repeat (with_reducible refine sideA ?_)))
      refine WeakR.pick [3, 4] (by decide) (fun j hj => by omega) (.inl ?_) ?_
      · first | rfl | (simp [ren, pickF, posOf, Watch.o, g]; done)
      · simp only [pickH, List.map_cons, List.map_nil, pickB, List.getElem?_cons_zero, List.getElem?_cons_succ, map_ren_rows]
    · skip
      refine WeakR.pick [3, 4] (by decide) (fun j hj => by omega) (.inl ?_) ?_
      · first | rfl | (simp [ren, pickF, posOf, Watch.o, g]; done)
      · simp only [pickH, List.map_cons, List.map_nil, pickB, List.getElem?_cons_zero, List.getElem?_cons_succ, map_ren_rows]
  · skip
    refine Ctr.intro Try.mixed Try.func129 rfl Try.okF129 ?_
    simp -implicitDefEqProofs -dsimp only [go_sem, Nat.reduceSub, Nat.reduceAdd, Nat.reduceMul, Nat.reduceLT, Nat.reduceLeDiff, Nat.reduceEqDiff, Nat.reduceDiv, Nat.reduceMod, Int.reduceToNat, Int.reduceLE, Int.reduceLT, Int.reduceBEq, Int.reduceBNe, Int.reduceNeg, Int.reduceAdd, Int.reduceSub, Int.reduceMul, reduceCtorEq, Try.ntmps129, Try.results129]
    simp -implicitDefEqProofs -dsimp only [go_sem, Nat.reduceSub, Nat.reduceAdd, Nat.reduceMul, Nat.reduceLT, Nat.reduceLeDiff, Nat.reduceEqDiff, Nat.reduceDiv, Nat.reduceMod, Int.reduceToNat, Int.reduceLE, Int.reduceLT, Int.reduceBEq, Int.reduceBNe, Int.reduceNeg, Int.reduceAdd, Int.reduceSub, Int.reduceMul, reduceCtorEq, Watch.v]
    (first | refine callT.at (copiedWatch_ok w (by omega) (by omega)) ⟨(by first | exact leA | exact Watch.le rfl rfl | exact Watch.leT rfl rfl rfl), trivial⟩ ?_ | refine callS.at (copiedWatch_ok w (by omega) (by omega)) ⟨(by first | exact leA | exact Watch.le rfl rfl | exact Watch.leT rfl rfl rfl), trivial⟩ ?_)
    (repeat ((repeat1' (first | simp -implicitDefEqProofs -dsimp only [go_sem, Nat.reduceSub, Nat.reduceAdd, Nat.reduceMul, Nat.reduceLT, Nat.reduceLeDiff, Nat.reduceEqDiff, Nat.reduceDiv, Nat.reduceMod, Int.reduceToNat, Int.reduceLE, Int.reduceLT, Int.reduceBEq, Int.reduceBNe, Int.reduceNeg, Int.reduceAdd, Int.reduceSub, Int.reduceMul, reduceCtorEq, Watch.o] | simp -implicitDefEqProofs -dsimp (disch := omega) only [wrap_i64])); repeat (with_reducible refine sideA ?_)))
    (first | refine callT.at (shockAt_ok w n (by omega)) ⟨(by first | exact leA | exact Watch.le rfl rfl | exact Watch.leT rfl rfl rfl), (by first | exact leA | exact Watch.le rfl rfl | exact Watch.leT rfl rfl rfl), trivial⟩ ?_ | refine callS.at (shockAt_ok w n (by omega)) ⟨(by first | exact leA | exact Watch.le rfl rfl | exact Watch.leT rfl rfl rfl), (by first | exact leA | exact Watch.le rfl rfl | exact Watch.leT rfl rfl rfl), trivial⟩ ?_)
    rw [hix]
    (repeat ((repeat1' (first | simp -implicitDefEqProofs -dsimp only [go_sem, Nat.reduceSub, Nat.reduceAdd, Nat.reduceMul, Nat.reduceLT, Nat.reduceLeDiff, Nat.reduceEqDiff, Nat.reduceDiv, Nat.reduceMod, Int.reduceToNat, Int.reduceLE, Int.reduceLT, Int.reduceBEq, Int.reduceBNe, Int.reduceNeg, Int.reduceAdd, Int.reduceSub, Int.reduceMul, reduceCtorEq] | simp -implicitDefEqProofs -dsimp (disch := omega) only [wrap_i64])); repeat (with_reducible refine sideA ?_)))
    refine callS.lend [5, 3, 4] false htr (by decide) ⟨.inl rfl, .inl rfl, .inl rfl, trivial⟩ (by simp [pickH, pickB, ren, pickF, posOf, map_ren_rows, Watch.oc]) hg (.inl rfl) ?_
    (repeat ((repeat1' (first | simp -implicitDefEqProofs -dsimp only [go_sem, Nat.reduceSub, Nat.reduceAdd, Nat.reduceMul, Nat.reduceLT, Nat.reduceLeDiff, Nat.reduceEqDiff, Nat.reduceDiv, Nat.reduceMod, Int.reduceToNat, Int.reduceLE, Int.reduceLT, Int.reduceBEq, Int.reduceBNe, Int.reduceNeg, Int.reduceAdd, Int.reduceSub, Int.reduceMul, reduceCtorEq, Watch.oc] | simp -implicitDefEqProofs -dsimp (disch := omega) only [wrap_i64])); repeat (with_reducible refine sideA ?_)))
    refine guardT.splitT (fun g => ?_) (fun g => ?_) <;> (repeat ((repeat1' (first | simp -implicitDefEqProofs -dsimp only [go_sem, Nat.reduceSub, Nat.reduceAdd, Nat.reduceMul, Nat.reduceLT, Nat.reduceLeDiff, Nat.reduceEqDiff, Nat.reduceDiv, Nat.reduceMod, Int.reduceToNat, Int.reduceLE, Int.reduceLT, Int.reduceBEq, Int.reduceBNe, Int.reduceNeg, Int.reduceAdd, Int.reduceSub, Int.reduceMul, reduceCtorEq, g] | simp -implicitDefEqProofs -dsimp (disch := omega) only [wrap_i64])); repeat (with_reducible refine sideA ?_)))
    · skip
      (first | refine callT.at (hgood) ⟨(by first | exact leA | exact Watch.le rfl rfl | exact Watch.leT rfl rfl rfl), trivial⟩ ?_ | refine callS.at (hgood) ⟨(by first | exact leA | exact Watch.le rfl rfl | exact Watch.leT rfl rfl rfl), trivial⟩ ?_)
      (repeat ((repeat1' (first | simp -implicitDefEqProofs -dsimp only [go_sem, Nat.reduceSub, Nat.reduceAdd, Nat.reduceMul, Nat.reduceLT, Nat.reduceLeDiff, Nat.reduceEqDiff, Nat.reduceDiv, Nat.reduceMod, Int.reduceToNat, Int.reduceLE, Int.reduceLT, Int.reduceBEq, Int.reduceBNe, Int.reduceNeg, Int.reduceAdd, Int.reduceSub, Int.reduceMul, reduceCtorEq, g] | simp -implicitDefEqProofs -dsimp (disch := omega) only [wrap_i64])); repeat (with_reducible refine sideA ?_)))
      refine WeakR.pick [3, 4] (by decide) (fun j hj => by omega) (.inl ?_) ?_
      · first | rfl | (simp [ren, pickF, posOf, Watch.o, g]; done)
      · simp only [pickH, List.map_cons, List.map_nil, pickB, List.getElem?_cons_zero, List.getElem?_cons_succ, map_ren_rows]
    · skip
      refine WeakR.pick [3, 4] (by decide) (fun j hj => by omega) (.inl ?_) ?_
      · first | rfl | (simp [ren, pickF, posOf, Watch.o, g]; done)
      · simp only [pickH, List.map_cons, List.map_nil, pickB, List.getElem?_cons_zero, List.getElem?_cons_succ, map_ren_rows]
  · skip
    refine Ctr.intro Try.mixed Try.func129 rfl Try.okF129 ?_
    simp -implicitDefEqProofs -dsimp only [go_sem, Nat.reduceSub, Nat.reduceAdd, Nat.reduceMul, Nat.reduceLT, Nat.reduceLeDiff, Nat.reduceEqDiff, Nat.reduceDiv, Nat.reduceMod, Int.reduceToNat, Int.reduceLE, Int.reduceLT, Int.reduceBEq, Int.reduceBNe, Int.reduceNeg, Int.reduceAdd, Int.reduceSub, Int.reduceMul, reduceCtorEq, Try.ntmps129, Try.results129]
    simp -implicitDefEqProofs -dsimp only [go_sem, Nat.reduceSub, Nat.reduceAdd, Nat.reduceMul, Nat.reduceLT, Nat.reduceLeDiff, Nat.reduceEqDiff, Nat.reduceDiv, Nat.reduceMod, Int.reduceToNat, Int.reduceLE, Int.reduceLT, Int.reduceBEq, Int.reduceBNe, Int.reduceNeg, Int.reduceAdd, Int.reduceSub, Int.reduceMul, reduceCtorEq, Watch.v]
    (first | refine callT.at (copiedWatch_ok w (by omega) (by omega)) ⟨(by first | exact leA | exact Watch.le rfl rfl | exact Watch.leT rfl rfl rfl), trivial⟩ ?_ | refine callS.at (copiedWatch_ok w (by omega) (by omega)) ⟨(by first | exact leA | exact Watch.le rfl rfl | exact Watch.leT rfl rfl rfl), trivial⟩ ?_)
    (repeat ((repeat1' (first | simp -implicitDefEqProofs -dsimp only [go_sem, Nat.reduceSub, Nat.reduceAdd, Nat.reduceMul, Nat.reduceLT, Nat.reduceLeDiff, Nat.reduceEqDiff, Nat.reduceDiv, Nat.reduceMod, Int.reduceToNat, Int.reduceLE, Int.reduceLT, Int.reduceBEq, Int.reduceBNe, Int.reduceNeg, Int.reduceAdd, Int.reduceSub, Int.reduceMul, reduceCtorEq, Watch.o] | simp -implicitDefEqProofs -dsimp (disch := omega) only [wrap_i64])); repeat (with_reducible refine sideA ?_)))
    (first | refine callT.at (shockAt_ok w n (by omega)) ⟨(by first | exact leA | exact Watch.le rfl rfl | exact Watch.leT rfl rfl rfl), (by first | exact leA | exact Watch.le rfl rfl | exact Watch.leT rfl rfl rfl), trivial⟩ ?_ | refine callS.at (shockAt_ok w n (by omega)) ⟨(by first | exact leA | exact Watch.le rfl rfl | exact Watch.leT rfl rfl rfl), (by first | exact leA | exact Watch.le rfl rfl | exact Watch.leT rfl rfl rfl), trivial⟩ ?_)
    rw [hix]
    (repeat ((repeat1' (first | simp -implicitDefEqProofs -dsimp only [go_sem, Nat.reduceSub, Nat.reduceAdd, Nat.reduceMul, Nat.reduceLT, Nat.reduceLeDiff, Nat.reduceEqDiff, Nat.reduceDiv, Nat.reduceMod, Int.reduceToNat, Int.reduceLE, Int.reduceLT, Int.reduceBEq, Int.reduceBNe, Int.reduceNeg, Int.reduceAdd, Int.reduceSub, Int.reduceMul, reduceCtorEq] | simp -implicitDefEqProofs -dsimp (disch := omega) only [wrap_i64])); repeat (with_reducible refine sideA ?_)))
    refine callS.lend [5, 3, 4] false htr (by decide) ⟨.inl rfl, .inl rfl, .inl rfl, trivial⟩ (by simp [pickH, pickB, ren, pickF, posOf, map_ren_rows, Watch.oc]) hg (.inl rfl) ?_
    (repeat ((repeat1' (first | simp -implicitDefEqProofs -dsimp only [go_sem, Nat.reduceSub, Nat.reduceAdd, Nat.reduceMul, Nat.reduceLT, Nat.reduceLeDiff, Nat.reduceEqDiff, Nat.reduceDiv, Nat.reduceMod, Int.reduceToNat, Int.reduceLE, Int.reduceLT, Int.reduceBEq, Int.reduceBNe, Int.reduceNeg, Int.reduceAdd, Int.reduceSub, Int.reduceMul, reduceCtorEq, Watch.oc] | simp -implicitDefEqProofs -dsimp (disch := omega) only [wrap_i64])); repeat (with_reducible refine sideA ?_)))
    refine guardT.splitT (fun g => ?_) (fun g => ?_) <;> (repeat ((repeat1' (first | simp -implicitDefEqProofs -dsimp only [go_sem, Nat.reduceSub, Nat.reduceAdd, Nat.reduceMul, Nat.reduceLT, Nat.reduceLeDiff, Nat.reduceEqDiff, Nat.reduceDiv, Nat.reduceMod, Int.reduceToNat, Int.reduceLE, Int.reduceLT, Int.reduceBEq, Int.reduceBNe, Int.reduceNeg, Int.reduceAdd, Int.reduceSub, Int.reduceMul, reduceCtorEq, g] | simp -implicitDefEqProofs -dsimp (disch := omega) only [wrap_i64])); repeat (with_reducible refine sideA ?_)))
    · skip
      (first | refine callT.at (hgood) ⟨(by first | exact leA | exact Watch.le rfl rfl | exact Watch.leT rfl rfl rfl), trivial⟩ ?_ | refine callS.at (hgood) ⟨(by first | exact leA | exact Watch.le rfl rfl | exact Watch.leT rfl rfl rfl), trivial⟩ ?_)
      (repeat ((repeat1' (first | simp -implicitDefEqProofs -dsimp only [go_sem, Nat.reduceSub, Nat.reduceAdd, Nat.reduceMul, Nat.reduceLT, Nat.reduceLeDiff, Nat.reduceEqDiff, Nat.reduceDiv, Nat.reduceMod, Int.reduceToNat, Int.reduceLE, Int.reduceLT, Int.reduceBEq, Int.reduceBNe, Int.reduceNeg, Int.reduceAdd, Int.reduceSub, Int.reduceMul, reduceCtorEq, g] | simp -implicitDefEqProofs -dsimp (disch := omega) only [wrap_i64])); repeat (with_reducible refine sideA ?_)))
      refine WeakR.pick [3, 4] (by decide) (fun j hj => by omega) (.inl ?_) ?_
      · first | rfl | (simp [ren, pickF, posOf, Watch.o, g]; done)
      · simp only [pickH, List.map_cons, List.map_nil, pickB, List.getElem?_cons_zero, List.getElem?_cons_succ, map_ren_rows]
    · skip
      refine WeakR.pick [3, 4] (by decide) (fun j hj => by omega) (.inl ?_) ?_
      · first | rfl | (simp [ren, pickF, posOf, Watch.o, g]; done)
      · simp only [pickH, List.map_cons, List.map_nil, pickB, List.getElem?_cons_zero, List.getElem?_cons_succ, map_ren_rows]
theorem wstep8_ok (w : Watch) (n v : Int) (hw : wB w = true) (hs : stepWB w 8 n v = true) : Ctr Try.prog 129 [w.v, .agg [.int .i64 8, .int .i64 n, .int .i64 v]] [] (.tup [(makeI w 8 n v).o 0 1, .bool (doneW w 8 n v)]) [some (rows Post.cs w.Posts), some (rows Shock.cs (makeI w 8 n v).Shocks)] := by
  have W := wB_ok hw
  have pl := W.plen
  have sl := W.slen
  obtain ⟨i, hi, hix, hin⟩ : ∃ i, ∃ h : i < w.Shocks.length, idxI (shockIs n) w.Shocks = (i : Int) ∧ shockIs n w.Shocks[i] = true := by
    have : decide (0 ≤ idxI (shockIs n) w.Shocks) = true := by
      simp [stepWB] at hs
      simp [hs.1]
    exact idxI_get this
  have hp : sAt w n = i := by simp [sAt, hix]
  have hsh := shAt_get hi
  have e1 : makeI w 8 n v = archW w i := by simp [makeI, makeW, archW, hp]
  have e2 : doneW w 8 n v = (archB w w.Shocks[i] && wB (archW w i)) := by simp [doneW, makeB, makeW, archW, hp, hsh]
  have hgood := iIsWatch_ok (archW w i) (by simp [archW]; omega) (by simp [archW]; omega)
  have htr := treat8_ok w i n v hw hi
  have e3 : (archW w i).Shocks = w.Shocks.take i ++ w.Shocks.drop (i + 1) := rfl
  have hall : (rows Shock.cs (w.Shocks.take i ++ w.Shocks.drop (i + 1)) ++ z5).all isCell = true := by
    rw [List.all_append, rows_cell]; rfl
  have e : (w.Shocks.take i ++ w.Shocks.drop (i + 1)).length = w.Shocks.length - 1 := by simp; omega
  have hg : grown [some (w.oc 1 2), some (rows Post.cs w.Posts), some (rows Shock.cs w.Shocks)] [some ((archW w i).oc 1 2), some (rows Post.cs w.Posts), some (rows Shock.cs (w.Shocks.take i ++ w.Shocks.drop (i + 1)) ++ z5)] := by
    refine ⟨⟨rfl, rfl⟩, ⟨rfl, rfl⟩, ⟨?_, by rw [isMb_cells hall, isMb_rows]⟩, trivial⟩
    rw [List.length_append, rows_len5, rows_len5, e]
    show _ = (w.Shocks.length - 1) * 5 + 5
    omega
  rw [e1, e2, e3]
  refine Ctr.intro Try.mixed Try.func129 rfl Try.okF129 ?_
  simp -implicitDefEqProofs -dsimp only [go_sem, Nat.reduceSub, Nat.reduceAdd, Nat.reduceMul, Nat.reduceLT, Nat.reduceLeDiff, Nat.reduceEqDiff, Nat.reduceDiv, Nat.reduceMod, Int.reduceToNat, Int.reduceLE, Int.reduceLT, Int.reduceBEq, Int.reduceBNe, Int.reduceNeg, Int.reduceAdd, Int.reduceSub, Int.reduceMul, reduceCtorEq, Try.ntmps129, Try.results129]
  simp -implicitDefEqProofs -dsimp only [go_sem, Nat.reduceSub, Nat.reduceAdd, Nat.reduceMul, Nat.reduceLT, Nat.reduceLeDiff, Nat.reduceEqDiff, Nat.reduceDiv, Nat.reduceMod, Int.reduceToNat, Int.reduceLE, Int.reduceLT, Int.reduceBEq, Int.reduceBNe, Int.reduceNeg, Int.reduceAdd, Int.reduceSub, Int.reduceMul, reduceCtorEq, Watch.v]
  (first | refine callT.at (copiedWatch_ok w (by omega) (by omega)) ⟨(by first | exact leA | exact Watch.le rfl rfl | exact Watch.leT rfl rfl rfl), trivial⟩ ?_ | refine callS.at (copiedWatch_ok w (by omega) (by omega)) ⟨(by first | exact leA | exact Watch.le rfl rfl | exact Watch.leT rfl rfl rfl), trivial⟩ ?_)
  (repeat ((repeat1' (first | simp -implicitDefEqProofs -dsimp only [go_sem, Nat.reduceSub, Nat.reduceAdd, Nat.reduceMul, Nat.reduceLT, Nat.reduceLeDiff, Nat.reduceEqDiff, Nat.reduceDiv, Nat.reduceMod, Int.reduceToNat, Int.reduceLE, Int.reduceLT, Int.reduceBEq, Int.reduceBNe, Int.reduceNeg, Int.reduceAdd, Int.reduceSub, Int.reduceMul, reduceCtorEq, Watch.o] | simp -implicitDefEqProofs -dsimp (disch := omega) only [wrap_i64])); repeat (with_reducible refine sideA ?_)))
  (first | refine callT.at (shockAt_ok w n (by omega)) ⟨(by first | exact leA | exact Watch.le rfl rfl | exact Watch.leT rfl rfl rfl), (by first | exact leA | exact Watch.le rfl rfl | exact Watch.leT rfl rfl rfl), trivial⟩ ?_ | refine callS.at (shockAt_ok w n (by omega)) ⟨(by first | exact leA | exact Watch.le rfl rfl | exact Watch.leT rfl rfl rfl), (by first | exact leA | exact Watch.le rfl rfl | exact Watch.leT rfl rfl rfl), trivial⟩ ?_)
  rw [hix]
  (repeat ((repeat1' (first | simp -implicitDefEqProofs -dsimp only [go_sem, Nat.reduceSub, Nat.reduceAdd, Nat.reduceMul, Nat.reduceLT, Nat.reduceLeDiff, Nat.reduceEqDiff, Nat.reduceDiv, Nat.reduceMod, Int.reduceToNat, Int.reduceLE, Int.reduceLT, Int.reduceBEq, Int.reduceBNe, Int.reduceNeg, Int.reduceAdd, Int.reduceSub, Int.reduceMul, reduceCtorEq] | simp -implicitDefEqProofs -dsimp (disch := omega) only [wrap_i64])); repeat (with_reducible refine sideA ?_)))
  refine callS.lend [5, 3, 4] false htr (by decide) ⟨.inl rfl, .inl rfl, .inl rfl, trivial⟩ (by simp [pickH, pickB, ren, pickF, posOf, map_ren_rows, Watch.oc]) hg (.inl rfl) ?_
  (repeat ((repeat1' (first | simp -implicitDefEqProofs -dsimp only [go_sem, Nat.reduceSub, Nat.reduceAdd, Nat.reduceMul, Nat.reduceLT, Nat.reduceLeDiff, Nat.reduceEqDiff, Nat.reduceDiv, Nat.reduceMod, Int.reduceToNat, Int.reduceLE, Int.reduceLT, Int.reduceBEq, Int.reduceBNe, Int.reduceNeg, Int.reduceAdd, Int.reduceSub, Int.reduceMul, reduceCtorEq, Watch.oc, z5] | simp -implicitDefEqProofs -dsimp (disch := omega) only [wrap_i64])); repeat (with_reducible refine sideA ?_)))
  clear hall hg
  have htk : ∀ y : List V, (rows Shock.cs (w.Shocks.take i ++ w.Shocks.drop (i + 1)) ++ y).take ((archW w i).Shocks.length * 5) = rows Shock.cs (w.Shocks.take i ++ w.Shocks.drop (i + 1)) := fun y => List.take_left' (by rw [rows_len5]; rfl)
  refine guardT.splitT (fun g => ?_) (fun g => ?_) <;> (repeat ((repeat1' (first | simp -implicitDefEqProofs -dsimp only [go_sem, Nat.reduceSub, Nat.reduceAdd, Nat.reduceMul, Nat.reduceLT, Nat.reduceLeDiff, Nat.reduceEqDiff, Nat.reduceDiv, Nat.reduceMod, Int.reduceToNat, Int.reduceLE, Int.reduceLT, Int.reduceBEq, Int.reduceBNe, Int.reduceNeg, Int.reduceAdd, Int.reduceSub, Int.reduceMul, reduceCtorEq, g] | simp -implicitDefEqProofs -dsimp (disch := omega) only [wrap_i64])); repeat (with_reducible refine sideA ?_)))
  · skip
    (first | refine callT.at (hgood) ⟨(by first | exact leA | exact Watch.le rfl rfl | exact Watch.leT rfl rfl rfl), trivial⟩ ?_ | refine callS.at (hgood) ⟨(by first | exact leA | exact Watch.le rfl rfl | exact Watch.leT rfl rfl rfl), trivial⟩ ?_)
    (repeat ((repeat1' (first | simp -implicitDefEqProofs -dsimp only [go_sem, Nat.reduceSub, Nat.reduceAdd, Nat.reduceMul, Nat.reduceLT, Nat.reduceLeDiff, Nat.reduceEqDiff, Nat.reduceDiv, Nat.reduceMod, Int.reduceToNat, Int.reduceLE, Int.reduceLT, Int.reduceBEq, Int.reduceBNe, Int.reduceNeg, Int.reduceAdd, Int.reduceSub, Int.reduceMul, reduceCtorEq, g] | simp -implicitDefEqProofs -dsimp (disch := omega) only [wrap_i64])); repeat (with_reducible refine sideA ?_)))
    refine WeakR.trim 4 ((archW w i).Shocks.length * 5) rfl (by omega) (by simp only [List.length_append, rows_len5, e3, List.length_cons, List.length_nil]; omega) (isMb_cells (by simp [rows_cell, isCell])) (by rw [htk]; exact isMb_rows _) ?_ ?_ ?_
    · simp [fits]
    · simp [fits, rows_fits, List.all_append]
    · skip
      simp only [htk, List.set_cons_zero, List.set_cons_succ]
      refine WeakR.pick [3, 4] (by decide) (fun j hj => by omega) (.inl ?_) ?_
      · first | rfl | (simp [ren, pickF, posOf, Watch.o, g]; done)
      · simp only [pickH, List.map_cons, List.map_nil, pickB, List.getElem?_cons_zero, List.getElem?_cons_succ, map_ren_rows]
  · skip
    refine WeakR.trim 4 ((archW w i).Shocks.length * 5) rfl (by omega) (by simp only [List.length_append, rows_len5, e3, List.length_cons, List.length_nil]; omega) (isMb_cells (by simp [rows_cell, isCell])) (by rw [htk]; exact isMb_rows _) ?_ ?_ ?_
    · simp [fits]
    · simp [fits, rows_fits, List.all_append]
    · skip
      simp only [htk, List.set_cons_zero, List.set_cons_succ]
      refine WeakR.pick [3, 4] (by decide) (fun j hj => by omega) (.inl ?_) ?_
      · first | rfl | (simp [ren, pickF, posOf, Watch.o, g]; done)
      · simp only [pickH, List.map_cons, List.map_nil, pickB, List.getElem?_cons_zero, List.getElem?_cons_succ, map_ren_rows]
theorem wstep_ok (w : Watch) (k n v : Int) (hw : wB w = true) (hs : stepWB w k n v = true) : Ctr Try.prog 129 [w.v, .agg [.int .i64 k, .int .i64 n, .int .i64 v]] [] (.tup [(makeI w k n v).o 0 1, .bool (doneW w k n v)]) [some (rows Post.cs (makeI w k n v).Posts), some (rows Shock.cs (makeI w k n v).Shocks)] := by
  rcases stepWB_cases hs with ⟨rfl, h1⟩ | hk | rfl | rfl | ⟨hk, h1⟩
  · have e : (makeI w 1 n v).Posts = w.Posts ∧ (makeI w 1 n v).Shocks = w.Shocks := by simp [makeI]
    rw [e.1, e.2]
    exact wstep1_ok w n v hw h1
  · have e : (makeI w k n v).Shocks = w.Shocks := by rcases hk with rfl | rfl <;> simp [makeI, makeW]
    rw [e]
    exact wstep2_ok w k n v hk hw hs
  · have e : (makeI w 4 n v).Posts = w.Posts := by simp [makeI, makeW]
    rw [e]
    exact wstep4_ok w n v hw
  · have e : (makeI w 8 n v).Posts = w.Posts := by simp [makeI, makeW]
    rw [e]
    exact wstep8_ok w n v hw hs
  · have e : (makeI w k n v).Posts = w.Posts := by rcases hk with rfl | rfl | rfl <;> simp [makeI, makeW]
    rw [e]
    exact wstep5_ok w k n v hk hw hs h1
theorem makeI_done {w : Watch} {k n v : Int} (hw : wB w = true) (h : doneW w k n v = true) : makeI w k n v = makeW w k n v := by
  unfold makeI
  split
  · rename_i h1
    subst h1
    have := (wB_ok hw).now
    have h2 : v ≤ 1000000 - w.Now := by
      simp only [doneW, makeB, if_true, Bool.and_eq_true, decide_eq_true_eq] at h
      exact h.1
    have h3 : ¬ 1000000 < v := by omega
    simp [makeW, h3]
  · rfl
theorem iStepWatch_ok (w : Watch) (k n v : Int) (hp : w.Posts.length ≤ 16777216) (hs : w.Shocks.length ≤ 16777216) : Ctr Try.prog 52 [w.v, .agg [.int .i64 k, .int .i64 n, .int .i64 v]] [] (stwR (stepW w k n v)) (stwH (stepW w k n v)) := by
  refine Ctr.intro Try.mixed Try.func52 rfl Try.okF52 ?_
  simp -implicitDefEqProofs -dsimp only [go_sem, Nat.reduceSub, Nat.reduceAdd, Nat.reduceMul, Nat.reduceLT, Nat.reduceLeDiff, Nat.reduceEqDiff, Nat.reduceDiv, Nat.reduceMod, Int.reduceToNat, Int.reduceLE, Int.reduceLT, Int.reduceBEq, Int.reduceBNe, Int.reduceNeg, Int.reduceAdd, Int.reduceSub, Int.reduceMul, reduceCtorEq, Try.ntmps52, Try.results52]
  simp -implicitDefEqProofs -dsimp only [go_sem, Nat.reduceSub, Nat.reduceAdd, Nat.reduceMul, Nat.reduceLT, Nat.reduceLeDiff, Nat.reduceEqDiff, Nat.reduceDiv, Nat.reduceMod, Int.reduceToNat, Int.reduceLE, Int.reduceLT, Int.reduceBEq, Int.reduceBNe, Int.reduceNeg, Int.reduceAdd, Int.reduceSub, Int.reduceMul, reduceCtorEq, Watch.v]
  (first | refine callT.at (iIsWatch_ok w (by omega) (by omega)) ⟨(by first | exact leA | exact Watch.le rfl rfl | exact Watch.leT rfl rfl rfl), trivial⟩ ?_ | refine callS.at (iIsWatch_ok w (by omega) (by omega)) ⟨(by first | exact leA | exact Watch.le rfl rfl | exact Watch.leT rfl rfl rfl), trivial⟩ ?_)
  have no : stepW w k n v = none → ∀ h : Hp, WeakR 0 (.tup [.agg [.int .i64 0, .nilsl, .nilsl, .int .i64 0, .int .i64 0], .bool false]) h (stwR (stepW w k n v)) (stwH (stepW w k n v)) := by
    intro e h
    rw [e]
    exact WeakR.drop' rfl (by rfl)
  cases hw : wB w with
  | false =>
    (repeat ((repeat1' (first | simp -implicitDefEqProofs -dsimp only [go_sem, Nat.reduceSub, Nat.reduceAdd, Nat.reduceMul, Nat.reduceLT, Nat.reduceLeDiff, Nat.reduceEqDiff, Nat.reduceDiv, Nat.reduceMod, Int.reduceToNat, Int.reduceLE, Int.reduceLT, Int.reduceBEq, Int.reduceBNe, Int.reduceNeg, Int.reduceAdd, Int.reduceSub, Int.reduceMul, reduceCtorEq] | simp -implicitDefEqProofs -dsimp (disch := omega) only [wrap_i64])); repeat (with_reducible refine sideA ?_)))
    exact no (by simp [stepW, hw]) _
  | true =>
    (repeat ((repeat1' (first | simp -implicitDefEqProofs -dsimp only [go_sem, Nat.reduceSub, Nat.reduceAdd, Nat.reduceMul, Nat.reduceLT, Nat.reduceLeDiff, Nat.reduceEqDiff, Nat.reduceDiv, Nat.reduceMod, Int.reduceToNat, Int.reduceLE, Int.reduceLT, Int.reduceBEq, Int.reduceBNe, Int.reduceNeg, Int.reduceAdd, Int.reduceSub, Int.reduceMul, reduceCtorEq] | simp -implicitDefEqProofs -dsimp (disch := omega) only [wrap_i64])); repeat (with_reducible refine sideA ?_)))
    (first | refine callT.at (isStep_ok w k n v hp hs) ⟨(by first | exact leA | exact Watch.le rfl rfl | exact Watch.leT rfl rfl rfl), (by first | exact leA | exact Watch.le rfl rfl | exact Watch.leT rfl rfl rfl), trivial⟩ ?_ | refine callS.at (isStep_ok w k n v hp hs) ⟨(by first | exact leA | exact Watch.le rfl rfl | exact Watch.leT rfl rfl rfl), (by first | exact leA | exact Watch.le rfl rfl | exact Watch.leT rfl rfl rfl), trivial⟩ ?_)
    cases hst : stepWB w k n v with
    | false =>
      (repeat ((repeat1' (first | simp -implicitDefEqProofs -dsimp only [go_sem, Nat.reduceSub, Nat.reduceAdd, Nat.reduceMul, Nat.reduceLT, Nat.reduceLeDiff, Nat.reduceEqDiff, Nat.reduceDiv, Nat.reduceMod, Int.reduceToNat, Int.reduceLE, Int.reduceLT, Int.reduceBEq, Int.reduceBNe, Int.reduceNeg, Int.reduceAdd, Int.reduceSub, Int.reduceMul, reduceCtorEq] | simp -implicitDefEqProofs -dsimp (disch := omega) only [wrap_i64])); repeat (with_reducible refine sideA ?_)))
      exact no (by simp [stepW, hst]) _
    | true =>
      (repeat ((repeat1' (first | simp -implicitDefEqProofs -dsimp only [go_sem, Nat.reduceSub, Nat.reduceAdd, Nat.reduceMul, Nat.reduceLT, Nat.reduceLeDiff, Nat.reduceEqDiff, Nat.reduceDiv, Nat.reduceMod, Int.reduceToNat, Int.reduceLE, Int.reduceLT, Int.reduceBEq, Int.reduceBNe, Int.reduceNeg, Int.reduceAdd, Int.reduceSub, Int.reduceMul, reduceCtorEq] | simp -implicitDefEqProofs -dsimp (disch := omega) only [wrap_i64])); repeat (with_reducible refine sideA ?_)))
      have hm := wstep_ok w k n v hw hst
      cases hd : doneW w k n v with
      | false =>
        rw [hd] at hm
        (first | refine callT.at (hm) ⟨(by first | exact leA | exact Watch.le rfl rfl | exact Watch.leT rfl rfl rfl), (by first | exact leA | exact Watch.le rfl rfl | exact Watch.leT rfl rfl rfl), trivial⟩ ?_ | refine callS.at (hm) ⟨(by first | exact leA | exact Watch.le rfl rfl | exact Watch.leT rfl rfl rfl), (by first | exact leA | exact Watch.le rfl rfl | exact Watch.leT rfl rfl rfl), trivial⟩ ?_)
        (repeat ((repeat1' (first | simp -implicitDefEqProofs -dsimp only [go_sem, Nat.reduceSub, Nat.reduceAdd, Nat.reduceMul, Nat.reduceLT, Nat.reduceLeDiff, Nat.reduceEqDiff, Nat.reduceDiv, Nat.reduceMod, Int.reduceToNat, Int.reduceLE, Int.reduceLT, Int.reduceBEq, Int.reduceBNe, Int.reduceNeg, Int.reduceAdd, Int.reduceSub, Int.reduceMul, reduceCtorEq, Watch.o] | simp -implicitDefEqProofs -dsimp (disch := omega) only [wrap_i64])); repeat (with_reducible refine sideA ?_)))
        exact no (by simp [stepW, hd]) _
      | true =>
        rw [hd] at hm
        (first | refine callT.at (hm) ⟨(by first | exact leA | exact Watch.le rfl rfl | exact Watch.leT rfl rfl rfl), (by first | exact leA | exact Watch.le rfl rfl | exact Watch.leT rfl rfl rfl), trivial⟩ ?_ | refine callS.at (hm) ⟨(by first | exact leA | exact Watch.le rfl rfl | exact Watch.leT rfl rfl rfl), (by first | exact leA | exact Watch.le rfl rfl | exact Watch.leT rfl rfl rfl), trivial⟩ ?_)
        (repeat ((repeat1' (first | simp -implicitDefEqProofs -dsimp only [go_sem, Nat.reduceSub, Nat.reduceAdd, Nat.reduceMul, Nat.reduceLT, Nat.reduceLeDiff, Nat.reduceEqDiff, Nat.reduceDiv, Nat.reduceMod, Int.reduceToNat, Int.reduceLE, Int.reduceLT, Int.reduceBEq, Int.reduceBNe, Int.reduceNeg, Int.reduceAdd, Int.reduceSub, Int.reduceMul, reduceCtorEq, Watch.o] | simp -implicitDefEqProofs -dsimp (disch := omega) only [wrap_i64])); repeat (with_reducible refine sideA ?_)))
        have e : stepW w k n v = some (makeW w k n v) := by simp [stepW, hw, hst, hd]
        have e2 := makeI_done hw hd
        rw [e, ← e2, stwR, stwH]
        refine WeakR.pick [3, 4] (by decide) (fun j hj => by omega) (.inl ?_) ?_
        · first | rfl | (simp [ren, pickF, posOf, Watch.o]; done)
        · simp only [pickH, List.map_cons, List.map_nil, pickB, List.getElem?_cons_zero, List.getElem?_cons_succ, map_ren_rows]
end Go.Proofs
end
section
set_option linter.unusedSimpArgs false
set_option linter.unusedVariables false
set_option maxRecDepth 100000
set_option maxHeartbeats 1000000
namespace Go.Proofs
open Go.Lv
structure RunW where
  w : Watch
  n : Nat
def runWS (x : RunW) (s : WatchStep) : RunW := match stepW x.w s.Kind s.Number s.Value with
  | none => x
  | some b => ⟨b, x.n + 1⟩
def runWF (a : Watch) (L : List WatchStep) : RunW := L.foldl runWS ⟨a, 0⟩
theorem runWF_take {a : Watch} {L : List WatchStep} {i : Nat} (hi : i < L.length) : runWF a (L.take (i + 1)) = runWS (runWF a (L.take i)) L[i] := by
  rw [List.take_succ_eq_append_getElem hi, runWF, runWF, List.foldl_append]; rfl
theorem runWF_ok {a : Watch} (ha : wB a = true) (L : List WatchStep) : ∀ i, i ≤ L.length → wB (runWF a (L.take i)).w = true ∧ (runWF a (L.take i)).n ≤ i := by
  intro i
  induction i with
  | zero => exact fun _ => ⟨ha, Nat.le_refl _⟩
  | succ i ih =>
    intro hi
    obtain ⟨h1, h2⟩ := ih (by omega)
    rw [runWF_take (by omega)]
    unfold runWS
    split
    · exact ⟨h1, by omega⟩
    · rename_i b hb
      exact ⟨(stepW_some hb).2.2.2.2, by simp only []; omega⟩
def runWB (a : Watch) (L : List WatchStep) : Bool := wB a && decide (L.length ≤ 40)
def runWNo : V := .tup [zeroW, .int .i64 0, .bool false]
theorem sRunWatch_no (a : Watch) (L : List WatchStep) (hp : a.Posts.length ≤ 16777216) (hs : a.Shocks.length ≤ 16777216) (hL : L.length ≤ 16777216) (hb : runWB a L = false) : Ctr Try.prog 59 [a.v, WatchStep.sl L] [] runWNo [] := by
  refine Ctr.intro Try.mixed Try.func59 rfl Try.okF59 ?_
  simp -implicitDefEqProofs -dsimp only [go_sem, Nat.reduceSub, Nat.reduceAdd, Nat.reduceMul, Nat.reduceLT, Nat.reduceLeDiff, Nat.reduceEqDiff, Nat.reduceDiv, Nat.reduceMod, Int.reduceToNat, Int.reduceLE, Int.reduceLT, Int.reduceBEq, Int.reduceBNe, Int.reduceNeg, Int.reduceAdd, Int.reduceSub, Int.reduceMul, reduceCtorEq, Try.ntmps59, Try.results59]
  simp -implicitDefEqProofs -dsimp only [go_sem, Nat.reduceSub, Nat.reduceAdd, Nat.reduceMul, Nat.reduceLT, Nat.reduceLeDiff, Nat.reduceEqDiff, Nat.reduceDiv, Nat.reduceMod, Int.reduceToNat, Int.reduceLE, Int.reduceLT, Int.reduceBEq, Int.reduceBNe, Int.reduceNeg, Int.reduceAdd, Int.reduceSub, Int.reduceMul, reduceCtorEq, Watch.v]
  (first | refine callT.at (l25Good_ok a (by omega) (by omega)) ⟨(by first | exact leA | exact Watch.le rfl rfl), trivial⟩ ?_ | refine callS.at (l25Good_ok a (by omega) (by omega)) ⟨(by first | exact leA | exact Watch.le rfl rfl), trivial⟩ ?_)
  cases h1 : wB a with
  | false =>
    (repeat ((repeat1' (first | simp -implicitDefEqProofs -dsimp only [go_sem, Nat.reduceSub, Nat.reduceAdd, Nat.reduceMul, Nat.reduceLT, Nat.reduceLeDiff, Nat.reduceEqDiff, Nat.reduceDiv, Nat.reduceMod, Int.reduceToNat, Int.reduceLE, Int.reduceLT, Int.reduceBEq, Int.reduceBNe, Int.reduceNeg, Int.reduceAdd, Int.reduceSub, Int.reduceMul, reduceCtorEq] | simp -implicitDefEqProofs -dsimp (disch := omega) only [wrap_i64])); repeat (with_reducible refine sideA ?_)))
    exact WeakR.drop' rfl (by rfl)
  | true =>
    have h2 : decide (40 < (L.length : Int)) = true := by simp [runWB, h1] at hb; simp; omega
    (repeat ((repeat1' (first | simp -implicitDefEqProofs -dsimp only [go_sem, Nat.reduceSub, Nat.reduceAdd, Nat.reduceMul, Nat.reduceLT, Nat.reduceLeDiff, Nat.reduceEqDiff, Nat.reduceDiv, Nat.reduceMod, Int.reduceToNat, Int.reduceLE, Int.reduceLT, Int.reduceBEq, Int.reduceBNe, Int.reduceNeg, Int.reduceAdd, Int.reduceSub, Int.reduceMul, reduceCtorEq, h2] | simp -implicitDefEqProofs -dsimp (disch := omega) only [wrap_i64])); repeat (with_reducible refine sideA ?_)))
    exact WeakR.drop' rfl (by rfl)
theorem sRunWatch_ok (a : Watch) (L : List WatchStep) (hL : lstR WatchStep.ok L) (hb : runWB a L = true) : Ctr Try.prog 59 [a.v, WatchStep.sl L] [] (.tup [(runWF a L).w.o 0 1, .int .i64 (runWF a L).n, .bool true]) [some (rows Post.cs (runWF a L).w.Posts), some (rows Shock.cs (runWF a L).w.Shocks)] := by
  have ha : wB a = true := by simp [runWB] at hb; exact hb.1
  have h40 : L.length ≤ 40 := by simp [runWB] at hb; exact hb.2
  have h2 : decide (40 < (L.length : Int)) = false := by simp; omega
  have ap := (wB_ok ha).plen
  have asl := (wB_ok ha).slen
  refine Ctr.intro Try.mixed Try.func59 rfl Try.okF59 ?_
  simp -implicitDefEqProofs -dsimp only [go_sem, Nat.reduceSub, Nat.reduceAdd, Nat.reduceMul, Nat.reduceLT, Nat.reduceLeDiff, Nat.reduceEqDiff, Nat.reduceDiv, Nat.reduceMod, Int.reduceToNat, Int.reduceLE, Int.reduceLT, Int.reduceBEq, Int.reduceBNe, Int.reduceNeg, Int.reduceAdd, Int.reduceSub, Int.reduceMul, reduceCtorEq, Try.ntmps59, Try.results59]
  simp -implicitDefEqProofs -dsimp only [go_sem, Nat.reduceSub, Nat.reduceAdd, Nat.reduceMul, Nat.reduceLT, Nat.reduceLeDiff, Nat.reduceEqDiff, Nat.reduceDiv, Nat.reduceMod, Int.reduceToNat, Int.reduceLE, Int.reduceLT, Int.reduceBEq, Int.reduceBNe, Int.reduceNeg, Int.reduceAdd, Int.reduceSub, Int.reduceMul, reduceCtorEq, Watch.v]
  (first | refine callT.at (l25Good_ok a (by omega) (by omega)) ⟨(by first | exact leA | exact Watch.le rfl rfl), trivial⟩ ?_ | refine callS.at (l25Good_ok a (by omega) (by omega)) ⟨(by first | exact leA | exact Watch.le rfl rfl), trivial⟩ ?_)
  (repeat ((repeat1' (first | simp -implicitDefEqProofs -dsimp only [go_sem, Nat.reduceSub, Nat.reduceAdd, Nat.reduceMul, Nat.reduceLT, Nat.reduceLeDiff, Nat.reduceEqDiff, Nat.reduceDiv, Nat.reduceMod, Int.reduceToNat, Int.reduceLE, Int.reduceLT, Int.reduceBEq, Int.reduceBNe, Int.reduceNeg, Int.reduceAdd, Int.reduceSub, Int.reduceMul, reduceCtorEq, ha, h2] | simp -implicitDefEqProofs -dsimp (disch := omega) only [wrap_i64])); repeat (with_reducible refine sideA ?_)))
  (first | refine callT.at (l25Own_ok a (by omega) (by omega)) ⟨(by first | exact leA | exact Watch.le rfl rfl), trivial⟩ ?_ | refine callS.at (l25Own_ok a (by omega) (by omega)) ⟨(by first | exact leA | exact Watch.le rfl rfl), trivial⟩ ?_)
  (repeat ((repeat1' (first | simp -implicitDefEqProofs -dsimp only [go_sem, Nat.reduceSub, Nat.reduceAdd, Nat.reduceMul, Nat.reduceLT, Nat.reduceLeDiff, Nat.reduceEqDiff, Nat.reduceDiv, Nat.reduceMod, Int.reduceToNat, Int.reduceLE, Int.reduceLT, Int.reduceBEq, Int.reduceBNe, Int.reduceNeg, Int.reduceAdd, Int.reduceSub, Int.reduceMul, reduceCtorEq, Watch.o] | simp -implicitDefEqProofs -dsimp (disch := omega) only [wrap_i64])); repeat (with_reducible refine sideA ?_)))
  refine LoopT.intro (fun i : Nat => i ≤ L.length) (fun i => ⟨[.undef, WatchStep.sl L, .undef, .undef, .ptr 1 0, .undef, .undef, .ptr 4 0, .int .i64 (runWF a (L.take i)).n, .int .i64 i, .undef, .undef, .undef, .undef, .undef, .undef, .undef, .undef, .undef, .undef, .undef, .undef, .undef, .undef, .undef, .undef, .undef, .undef, .undef, .undef, .undef, .undef, .undef, .undef, .undef, .undef, .undef, .undef, .undef, .undef, .undef, .undef, .undef, .undef, .undef, .undef, .undef, .undef, .undef, .undef, .undef], [some a.cs, some [.int .i64 0, .nilsl, .nilsl, .int .i64 0, .int .i64 0], some (rows Post.cs (runWF a (L.take i)).w.Posts), some (rows Shock.cs (runWF a (L.take i)).w.Shocks), some ((runWF a (L.take i)).w.oc 2 3)], 0⟩) (fun i => L.length - i) 0 (Nat.zero_le _) ?_ (fun i hi => ?_)
  · refine Weak.cut (5) (by simp) (by simp) ?_ ?_
    · simp [LeC, LeV, ren, cutF, runWF]
    · simp [cutH, cutB, ren, map_ren_rows, runWF, cutF, Watch.cs, Watch.oc]
  obtain ⟨q1, q3⟩ := runWF_ok ha L i hi
  simp -implicitDefEqProofs -dsimp only [go_sem, Nat.reduceSub, Nat.reduceAdd, Nat.reduceMul, Nat.reduceLT, Nat.reduceLeDiff, Nat.reduceEqDiff, Nat.reduceDiv, Nat.reduceMod, Int.reduceToNat, Int.reduceLE, Int.reduceLT, Int.reduceBEq, Int.reduceBNe, Int.reduceNeg, Int.reduceAdd, Int.reduceSub, Int.reduceMul, reduceCtorEq, Watch.oc]
  refine condT.split (fun g1 => ?_) (fun g1 => ?_)
  · simp -implicitDefEqProofs -dsimp only [go_sem, Nat.reduceSub, Nat.reduceAdd, Nat.reduceMul, Nat.reduceLT, Nat.reduceLeDiff, Nat.reduceEqDiff, Nat.reduceDiv, Nat.reduceMod, Int.reduceToNat, Int.reduceLE, Int.reduceLT, Int.reduceBEq, Int.reduceBNe, Int.reduceNeg, Int.reduceAdd, Int.reduceSub, Int.reduceMul, reduceCtorEq, g1, Watch.oc]
    have hi' : i < L.length := by simpa using g1
    have hr := rows_at WatchStep.csl hi'
    have hw1 : IntKind.i64.wrap (((runWF a (L.take i)).n : Int) + 1) = (((runWF a (L.take i)).n + 1 : Nat) : Int) := by rw [wrap_i64 (by omega) (by omega)]; omega
    have htk := runWF_take (a := a) hi'
    have hsv : L[i].Value ≤ 9223372036854775807 := by obtain ⟨_, _, h⟩ := hL.2 _ (List.getElem_mem hi'); exact h.2
    generalize hx : runWF a (L.take i) = x at *
    have xp := (wB_ok q1).plen
    have xs := (wB_ok q1).slen
    (repeat ((repeat1' (first | simp -implicitDefEqProofs -dsimp only [go_sem, Nat.reduceSub, Nat.reduceAdd, Nat.reduceMul, Nat.reduceLT, Nat.reduceLeDiff, Nat.reduceEqDiff, Nat.reduceDiv, Nat.reduceMod, Int.reduceToNat, Int.reduceLE, Int.reduceLT, Int.reduceBEq, Int.reduceBNe, Int.reduceNeg, Int.reduceAdd, Int.reduceSub, Int.reduceMul, reduceCtorEq, hr, WatchStep.cs, Watch.oc] | simp -implicitDefEqProofs -dsimp (disch := omega) only [wrap_i64])); repeat (with_reducible refine sideA ?_)))
    (first | refine callT.at (l25Step_ok x.w L[i].Kind L[i].Number L[i].Value (by omega) (by omega)) ⟨(by first | exact leA | exact Watch.le rfl rfl), (by first | exact leA | exact Watch.le rfl rfl), trivial⟩ ?_ | refine callS.at (l25Step_ok x.w L[i].Kind L[i].Number L[i].Value (by omega) (by omega)) ⟨(by first | exact leA | exact Watch.le rfl rfl), (by first | exact leA | exact Watch.le rfl rfl), trivial⟩ ?_)
    cases hsb : stepWB x.w L[i].Kind L[i].Number L[i].Value with
    | false =>
      (repeat ((repeat1' (first | simp -implicitDefEqProofs -dsimp only [go_sem, Nat.reduceSub, Nat.reduceAdd, Nat.reduceMul, Nat.reduceLT, Nat.reduceLeDiff, Nat.reduceEqDiff, Nat.reduceDiv, Nat.reduceMod, Int.reduceToNat, Int.reduceLE, Int.reduceLT, Int.reduceBEq, Int.reduceBNe, Int.reduceNeg, Int.reduceAdd, Int.reduceSub, Int.reduceMul, reduceCtorEq] | simp -implicitDefEqProofs -dsimp (disch := omega) only [wrap_i64])); repeat (with_reducible refine sideA ?_)))
      refine ⟨i + 1, hi', ?_, by omega⟩
      have : runWF a (L.take (i + 1)) = x := by rw [htk, runWS, stepW, hsb, Bool.and_false]; rfl
      rw [this]
      refine Weak.cut (5) (by simp) (by simp) ?_ ?_
      · simp [LeC, LeV, ren, cutF]
      · simp [cutH, cutB, ren, map_ren_rows, cutF, Watch.cs, Watch.oc]
    | true =>
      have hm := l25Make_ok x.w L[i].Kind L[i].Number L[i].Value q1 hsb hsv
      (repeat ((repeat1' (first | simp -implicitDefEqProofs -dsimp only [go_sem, Nat.reduceSub, Nat.reduceAdd, Nat.reduceMul, Nat.reduceLT, Nat.reduceLeDiff, Nat.reduceEqDiff, Nat.reduceDiv, Nat.reduceMod, Int.reduceToNat, Int.reduceLE, Int.reduceLT, Int.reduceBEq, Int.reduceBNe, Int.reduceNeg, Int.reduceAdd, Int.reduceSub, Int.reduceMul, reduceCtorEq, hr, WatchStep.cs, Watch.oc] | simp -implicitDefEqProofs -dsimp (disch := omega) only [wrap_i64])); repeat (with_reducible refine sideA ?_)))
      cases hd : doneW x.w L[i].Kind L[i].Number L[i].Value with
      | false =>
        rw [hd] at hm
        simp only [Watch.o] at hm
        (first | refine callT.at (hm) ⟨(by first | exact leA | exact Watch.le rfl rfl), (by first | exact leA | exact Watch.le rfl rfl), trivial⟩ ?_ | refine callS.at (hm) ⟨(by first | exact leA | exact Watch.le rfl rfl), (by first | exact leA | exact Watch.le rfl rfl), trivial⟩ ?_)
        (repeat ((repeat1' (first | simp -implicitDefEqProofs -dsimp only [go_sem, Nat.reduceSub, Nat.reduceAdd, Nat.reduceMul, Nat.reduceLT, Nat.reduceLeDiff, Nat.reduceEqDiff, Nat.reduceDiv, Nat.reduceMod, Int.reduceToNat, Int.reduceLE, Int.reduceLT, Int.reduceBEq, Int.reduceBNe, Int.reduceNeg, Int.reduceAdd, Int.reduceSub, Int.reduceMul, reduceCtorEq] | simp -implicitDefEqProofs -dsimp (disch := omega) only [wrap_i64])); repeat (with_reducible refine sideA ?_)))
        refine ⟨i + 1, hi', ?_, by omega⟩
        have : runWF a (L.take (i + 1)) = x := by rw [htk, runWS, stepW, hd, Bool.and_false]; rfl
        rw [this]
        refine Weak.cut (5) (by simp) (by simp) ?_ ?_
        · simp [LeC, LeV, ren, cutF]
        · simp [cutH, cutB, ren, map_ren_rows, cutF, Watch.cs, Watch.oc]
      | true =>
        rw [hd, makeS_done hd] at hm
        simp only [Watch.o] at hm
        (first | refine callT.at (hm) ⟨(by first | exact leA | exact Watch.le rfl rfl), (by first | exact leA | exact Watch.le rfl rfl), trivial⟩ ?_ | refine callS.at (hm) ⟨(by first | exact leA | exact Watch.le rfl rfl), (by first | exact leA | exact Watch.le rfl rfl), trivial⟩ ?_)
        (repeat ((repeat1' (first | simp -implicitDefEqProofs -dsimp only [go_sem, Nat.reduceSub, Nat.reduceAdd, Nat.reduceMul, Nat.reduceLT, Nat.reduceLeDiff, Nat.reduceEqDiff, Nat.reduceDiv, Nat.reduceMod, Int.reduceToNat, Int.reduceLE, Int.reduceLT, Int.reduceBEq, Int.reduceBNe, Int.reduceNeg, Int.reduceAdd, Int.reduceSub, Int.reduceMul, reduceCtorEq, hw1] | simp -implicitDefEqProofs -dsimp (disch := omega) only [wrap_i64])); repeat (with_reducible refine sideA ?_)))
        refine ⟨i + 1, hi', ?_, by omega⟩
        have : runWF a (L.take (i + 1)) = ⟨makeW x.w L[i].Kind L[i].Number L[i].Value, x.n + 1⟩ := by rw [htk, runWS, stepW, q1, hsb, hd]; rfl
        rw [this]
        refine Weak.pick [0, 1, 5, 6, 4] (by decide) (fun j hj => by omega) ?_ ?_
        · simp [LeG, LeV, ren, pickF, posOf]
        · simp [pickH, pickB, ren, pickF, posOf, map_ren_rows, Watch.cs, Watch.oc]
  · simp -implicitDefEqProofs -dsimp only [go_sem, Nat.reduceSub, Nat.reduceAdd, Nat.reduceMul, Nat.reduceLT, Nat.reduceLeDiff, Nat.reduceEqDiff, Nat.reduceDiv, Nat.reduceMod, Int.reduceToNat, Int.reduceLE, Int.reduceLT, Int.reduceBEq, Int.reduceBNe, Int.reduceNeg, Int.reduceAdd, Int.reduceSub, Int.reduceMul, reduceCtorEq, g1, Watch.oc]
    have hi' : i = L.length := by simp at g1; omega
    subst hi'
    rw [List.take_length]
    refine WeakR.pick [2, 3] (by decide) (fun j hj => by omega) (.inl ?_) ?_
    · first | rfl | (simp [ren, pickF, posOf, Watch.o]; done)
    · simp only [pickH, List.map_cons, List.map_nil, pickB, List.getElem?_cons_zero, List.getElem?_cons_succ, map_ren_rows]
theorem iRunWatch_no (a : Watch) (L : List WatchStep) (hp : a.Posts.length ≤ 16777216) (hs : a.Shocks.length ≤ 16777216) (hL : L.length ≤ 16777216) (hb : runWB a L = false) : Ctr Try.prog 58 [a.v, WatchStep.sl L] [] runWNo [] := by
  refine Ctr.intro Try.mixed Try.func58 rfl Try.okF58 ?_
  simp -implicitDefEqProofs -dsimp only [go_sem, Nat.reduceSub, Nat.reduceAdd, Nat.reduceMul, Nat.reduceLT, Nat.reduceLeDiff, Nat.reduceEqDiff, Nat.reduceDiv, Nat.reduceMod, Int.reduceToNat, Int.reduceLE, Int.reduceLT, Int.reduceBEq, Int.reduceBNe, Int.reduceNeg, Int.reduceAdd, Int.reduceSub, Int.reduceMul, reduceCtorEq, Try.ntmps58, Try.results58]
  simp -implicitDefEqProofs -dsimp only [go_sem, Nat.reduceSub, Nat.reduceAdd, Nat.reduceMul, Nat.reduceLT, Nat.reduceLeDiff, Nat.reduceEqDiff, Nat.reduceDiv, Nat.reduceMod, Int.reduceToNat, Int.reduceLE, Int.reduceLT, Int.reduceBEq, Int.reduceBNe, Int.reduceNeg, Int.reduceAdd, Int.reduceSub, Int.reduceMul, reduceCtorEq, Watch.v]
  (first | refine callT.at (iIsWatch_ok a (by omega) (by omega)) ⟨(by first | exact leA | exact Watch.le rfl rfl), trivial⟩ ?_ | refine callS.at (iIsWatch_ok a (by omega) (by omega)) ⟨(by first | exact leA | exact Watch.le rfl rfl), trivial⟩ ?_)
  cases h1 : wB a with
  | false =>
    (repeat ((repeat1' (first | simp -implicitDefEqProofs -dsimp only [go_sem, Nat.reduceSub, Nat.reduceAdd, Nat.reduceMul, Nat.reduceLT, Nat.reduceLeDiff, Nat.reduceEqDiff, Nat.reduceDiv, Nat.reduceMod, Int.reduceToNat, Int.reduceLE, Int.reduceLT, Int.reduceBEq, Int.reduceBNe, Int.reduceNeg, Int.reduceAdd, Int.reduceSub, Int.reduceMul, reduceCtorEq] | simp -implicitDefEqProofs -dsimp (disch := omega) only [wrap_i64])); repeat (with_reducible refine sideA ?_)))
    exact WeakR.drop' rfl (by rfl)
  | true =>
    have h2 : decide (40 < (L.length : Int)) = true := by simp [runWB, h1] at hb; simp; omega
    (repeat ((repeat1' (first | simp -implicitDefEqProofs -dsimp only [go_sem, Nat.reduceSub, Nat.reduceAdd, Nat.reduceMul, Nat.reduceLT, Nat.reduceLeDiff, Nat.reduceEqDiff, Nat.reduceDiv, Nat.reduceMod, Int.reduceToNat, Int.reduceLE, Int.reduceLT, Int.reduceBEq, Int.reduceBNe, Int.reduceNeg, Int.reduceAdd, Int.reduceSub, Int.reduceMul, reduceCtorEq, h2] | simp -implicitDefEqProofs -dsimp (disch := omega) only [wrap_i64])); repeat (with_reducible refine sideA ?_)))
    exact WeakR.drop' rfl (by rfl)
theorem iRunWatch_ok (a : Watch) (L : List WatchStep) (hb : runWB a L = true) : Ctr Try.prog 58 [a.v, WatchStep.sl L] [] (.tup [(runWF a L).w.o 0 1, .int .i64 (runWF a L).n, .bool true]) [some (rows Post.cs (runWF a L).w.Posts), some (rows Shock.cs (runWF a L).w.Shocks)] := by
  have ha : wB a = true := by simp [runWB] at hb; exact hb.1
  have h40 : L.length ≤ 40 := by simp [runWB] at hb; exact hb.2
  have h2 : decide (40 < (L.length : Int)) = false := by simp; omega
  have ap := (wB_ok ha).plen
  have asl := (wB_ok ha).slen
  refine Ctr.intro Try.mixed Try.func58 rfl Try.okF58 ?_
  simp -implicitDefEqProofs -dsimp only [go_sem, Nat.reduceSub, Nat.reduceAdd, Nat.reduceMul, Nat.reduceLT, Nat.reduceLeDiff, Nat.reduceEqDiff, Nat.reduceDiv, Nat.reduceMod, Int.reduceToNat, Int.reduceLE, Int.reduceLT, Int.reduceBEq, Int.reduceBNe, Int.reduceNeg, Int.reduceAdd, Int.reduceSub, Int.reduceMul, reduceCtorEq, Try.ntmps58, Try.results58]
  simp -implicitDefEqProofs -dsimp only [go_sem, Nat.reduceSub, Nat.reduceAdd, Nat.reduceMul, Nat.reduceLT, Nat.reduceLeDiff, Nat.reduceEqDiff, Nat.reduceDiv, Nat.reduceMod, Int.reduceToNat, Int.reduceLE, Int.reduceLT, Int.reduceBEq, Int.reduceBNe, Int.reduceNeg, Int.reduceAdd, Int.reduceSub, Int.reduceMul, reduceCtorEq, Watch.v]
  (first | refine callT.at (iIsWatch_ok a (by omega) (by omega)) ⟨(by first | exact leA | exact Watch.le rfl rfl), trivial⟩ ?_ | refine callS.at (iIsWatch_ok a (by omega) (by omega)) ⟨(by first | exact leA | exact Watch.le rfl rfl), trivial⟩ ?_)
  (repeat ((repeat1' (first | simp -implicitDefEqProofs -dsimp only [go_sem, Nat.reduceSub, Nat.reduceAdd, Nat.reduceMul, Nat.reduceLT, Nat.reduceLeDiff, Nat.reduceEqDiff, Nat.reduceDiv, Nat.reduceMod, Int.reduceToNat, Int.reduceLE, Int.reduceLT, Int.reduceBEq, Int.reduceBNe, Int.reduceNeg, Int.reduceAdd, Int.reduceSub, Int.reduceMul, reduceCtorEq, ha, h2] | simp -implicitDefEqProofs -dsimp (disch := omega) only [wrap_i64])); repeat (with_reducible refine sideA ?_)))
  (first | refine callT.at (copiedWatch_ok a (by omega) (by omega)) ⟨(by first | exact leA | exact Watch.le rfl rfl), trivial⟩ ?_ | refine callS.at (copiedWatch_ok a (by omega) (by omega)) ⟨(by first | exact leA | exact Watch.le rfl rfl), trivial⟩ ?_)
  (repeat ((repeat1' (first | simp -implicitDefEqProofs -dsimp only [go_sem, Nat.reduceSub, Nat.reduceAdd, Nat.reduceMul, Nat.reduceLT, Nat.reduceLeDiff, Nat.reduceEqDiff, Nat.reduceDiv, Nat.reduceMod, Int.reduceToNat, Int.reduceLE, Int.reduceLT, Int.reduceBEq, Int.reduceBNe, Int.reduceNeg, Int.reduceAdd, Int.reduceSub, Int.reduceMul, reduceCtorEq, Watch.o] | simp -implicitDefEqProofs -dsimp (disch := omega) only [wrap_i64])); repeat (with_reducible refine sideA ?_)))
  refine LoopT.intro (fun i : Nat => i ≤ L.length) (fun i => ⟨[.undef, .undef, .ptr 0 0, .undef, .ptr 1 0, .undef, .undef, .int .i64 (runWF a (L.take i)).n, .undef, .undef, .undef, .undef, .undef, .undef, .undef, .undef, .undef, .undef, .undef, .undef, .undef, .undef, .undef, WatchStep.sl L, .int .i64 L.length, .int .i64 i, .undef, .undef, .undef, .undef, .undef, .undef, .undef, .undef, .undef, .undef, .undef, .undef, .undef, .undef, .undef, .undef], [some ((runWF a (L.take i)).w.oc 2 3), some [.int .i64 0, .nilsl, .nilsl, .int .i64 0, .int .i64 0], some (rows Post.cs (runWF a (L.take i)).w.Posts), some (rows Shock.cs (runWF a (L.take i)).w.Shocks)], 0⟩) (fun i => L.length - i) 0 (Nat.zero_le _) ?_ (fun i hi => ?_)
  · refine Weak.cut (4) (by simp) (by simp) ?_ ?_
    · simp [LeC, LeV, ren, cutF, runWF]
    · simp [cutH, cutB, ren, map_ren_rows, runWF, cutF, Watch.cs, Watch.oc]
  obtain ⟨q1, q3⟩ := runWF_ok ha L i hi
  simp -implicitDefEqProofs -dsimp only [go_sem, Nat.reduceSub, Nat.reduceAdd, Nat.reduceMul, Nat.reduceLT, Nat.reduceLeDiff, Nat.reduceEqDiff, Nat.reduceDiv, Nat.reduceMod, Int.reduceToNat, Int.reduceLE, Int.reduceLT, Int.reduceBEq, Int.reduceBNe, Int.reduceNeg, Int.reduceAdd, Int.reduceSub, Int.reduceMul, reduceCtorEq, Watch.oc]
  refine condT.split (fun g1 => ?_) (fun g1 => ?_)
  · simp -implicitDefEqProofs -dsimp only [go_sem, Nat.reduceSub, Nat.reduceAdd, Nat.reduceMul, Nat.reduceLT, Nat.reduceLeDiff, Nat.reduceEqDiff, Nat.reduceDiv, Nat.reduceMod, Int.reduceToNat, Int.reduceLE, Int.reduceLT, Int.reduceBEq, Int.reduceBNe, Int.reduceNeg, Int.reduceAdd, Int.reduceSub, Int.reduceMul, reduceCtorEq, g1, Watch.oc]
    have hi' : i < L.length := by simpa using g1
    have hr := rows_at WatchStep.csl hi'
    have hw1 : IntKind.i64.wrap (((runWF a (L.take i)).n : Int) + 1) = (((runWF a (L.take i)).n + 1 : Nat) : Int) := by rw [wrap_i64 (by omega) (by omega)]; omega
    have htk := runWF_take (a := a) hi'
    generalize hx : runWF a (L.take i) = x at *
    have xp := (wB_ok q1).plen
    have xs := (wB_ok q1).slen
    have ci := iStepWatch_ok x.w L[i].Kind L[i].Number L[i].Value (by omega) (by omega)
    (repeat ((repeat1' (first | simp -implicitDefEqProofs -dsimp only [go_sem, Nat.reduceSub, Nat.reduceAdd, Nat.reduceMul, Nat.reduceLT, Nat.reduceLeDiff, Nat.reduceEqDiff, Nat.reduceDiv, Nat.reduceMod, Int.reduceToNat, Int.reduceLE, Int.reduceLT, Int.reduceBEq, Int.reduceBNe, Int.reduceNeg, Int.reduceAdd, Int.reduceSub, Int.reduceMul, reduceCtorEq, hr, WatchStep.cs, Watch.oc] | simp -implicitDefEqProofs -dsimp (disch := omega) only [wrap_i64])); repeat (with_reducible refine sideA ?_)))
    cases h3 : stepW x.w L[i].Kind L[i].Number L[i].Value with
    | none =>
      rw [h3] at ci
      simp only [stwR, stwH, zeroW] at ci
      (first | refine callT.at (ci) ⟨(by first | exact leA | exact Watch.le rfl rfl), (by first | exact leA | exact Watch.le rfl rfl), trivial⟩ ?_ | refine callS.at (ci) ⟨(by first | exact leA | exact Watch.le rfl rfl), (by first | exact leA | exact Watch.le rfl rfl), trivial⟩ ?_)
      (repeat ((repeat1' (first | simp -implicitDefEqProofs -dsimp only [go_sem, Nat.reduceSub, Nat.reduceAdd, Nat.reduceMul, Nat.reduceLT, Nat.reduceLeDiff, Nat.reduceEqDiff, Nat.reduceDiv, Nat.reduceMod, Int.reduceToNat, Int.reduceLE, Int.reduceLT, Int.reduceBEq, Int.reduceBNe, Int.reduceNeg, Int.reduceAdd, Int.reduceSub, Int.reduceMul, reduceCtorEq] | simp -implicitDefEqProofs -dsimp (disch := omega) only [wrap_i64])); repeat (with_reducible refine sideA ?_)))
      refine ⟨i + 1, hi', ?_, by omega⟩
      have : runWF a (L.take (i + 1)) = x := by rw [htk, runWS, h3]
      rw [this]
      refine Weak.cut (4) (by simp) (by simp) ?_ ?_
      · simp [LeC, LeV, ren, cutF]
      · simp [cutH, cutB, ren, map_ren_rows, cutF, Watch.cs, Watch.oc]
    | some b =>
      rw [h3] at ci
      simp only [stwR, stwH, Watch.o] at ci
      (first | refine callT.at (ci) ⟨(by first | exact leA | exact Watch.le rfl rfl), (by first | exact leA | exact Watch.le rfl rfl), trivial⟩ ?_ | refine callS.at (ci) ⟨(by first | exact leA | exact Watch.le rfl rfl), (by first | exact leA | exact Watch.le rfl rfl), trivial⟩ ?_)
      (repeat ((repeat1' (first | simp -implicitDefEqProofs -dsimp only [go_sem, Nat.reduceSub, Nat.reduceAdd, Nat.reduceMul, Nat.reduceLT, Nat.reduceLeDiff, Nat.reduceEqDiff, Nat.reduceDiv, Nat.reduceMod, Int.reduceToNat, Int.reduceLE, Int.reduceLT, Int.reduceBEq, Int.reduceBNe, Int.reduceNeg, Int.reduceAdd, Int.reduceSub, Int.reduceMul, reduceCtorEq, hw1] | simp -implicitDefEqProofs -dsimp (disch := omega) only [wrap_i64])); repeat (with_reducible refine sideA ?_)))
      refine ⟨i + 1, hi', ?_, by omega⟩
      have : runWF a (L.take (i + 1)) = ⟨b, x.n + 1⟩ := by rw [htk, runWS, h3]
      rw [this]
      refine Weak.pick [0, 1, 5, 6] (by decide) (fun j hj => by omega) ?_ ?_
      · simp [LeG, LeV, ren, pickF, posOf]
      · simp [pickH, pickB, ren, pickF, posOf, map_ren_rows, Watch.cs, Watch.oc]
  · simp -implicitDefEqProofs -dsimp only [go_sem, Nat.reduceSub, Nat.reduceAdd, Nat.reduceMul, Nat.reduceLT, Nat.reduceLeDiff, Nat.reduceEqDiff, Nat.reduceDiv, Nat.reduceMod, Int.reduceToNat, Int.reduceLE, Int.reduceLT, Int.reduceBEq, Int.reduceBNe, Int.reduceNeg, Int.reduceAdd, Int.reduceSub, Int.reduceMul, reduceCtorEq, g1, Watch.oc]
    have hi' : i = L.length := by simp at g1; omega
    subst hi'
    rw [List.take_length]
    refine WeakR.pick [2, 3] (by decide) (fun j hj => by omega) (.inl ?_) ?_
    · first | rfl | (simp [ren, pickF, posOf, Watch.o]; done)
    · simp only [pickH, List.map_cons, List.map_nil, pickB, List.getElem?_cons_zero, List.getElem?_cons_succ, map_ren_rows]
end Go.Proofs
end
section
set_option linter.unusedSimpArgs false
set_option linter.unusedVariables false
set_option maxRecDepth 100000
set_option maxHeartbeats 2000000
namespace Go.Proofs
open Go.Lv
theorem grown_two {α β : Type} {cs : α → List V} {ds : β → List V} {w u : Nat} [FlatP cs w] [FlatP ds u] {L L' : List α} {M M' : List β} (h : L.length = L'.length) (h' : M.length = M'.length) : grown [some (rows cs L), some (rows ds M)] [some (rows cs L'), some (rows ds M')] :=
  ⟨(grown_one (cs := cs) h).1, grown_one (cs := ds) h'⟩
end Go.Proofs
end
section
set_option linter.unusedSimpArgs false
set_option linter.unusedVariables false
set_option maxRecDepth 100000
set_option maxHeartbeats 4000000
namespace Go.Proofs
open Go.Lv
theorem fnRunWatch_ok (a : Watch) (L : List WatchStep) (ha : a.ok) (hL : lstR WatchStep.ok L) : Ctr Try.prog 12 [a.v, WatchStep.sl L] [] (.bool true) [] := by
  obtain ⟨z, hz, hc⟩ := szWatch_ok a ha 1048576 (by omega) (by omega)
  refine Ctr.intro Try.mixed Try.func12 rfl Try.okF12 ?_
  simp -implicitDefEqProofs -dsimp only [go_sem, Nat.reduceSub, Nat.reduceAdd, Nat.reduceMul, Nat.reduceLT, Nat.reduceLeDiff, Nat.reduceEqDiff, Nat.reduceDiv, Nat.reduceMod, Int.reduceToNat, Int.reduceLE, Int.reduceLT, Int.reduceBEq, Int.reduceBNe, Int.reduceNeg, Int.reduceAdd, Int.reduceSub, Int.reduceMul, reduceCtorEq, Try.ntmps12, Try.results12]
  simp -implicitDefEqProofs -dsimp only [go_sem, Nat.reduceSub, Nat.reduceAdd, Nat.reduceMul, Nat.reduceLT, Nat.reduceLeDiff, Nat.reduceEqDiff, Nat.reduceDiv, Nat.reduceMod, Int.reduceToNat, Int.reduceLE, Int.reduceLT, Int.reduceBEq, Int.reduceBNe, Int.reduceNeg, Int.reduceAdd, Int.reduceSub, Int.reduceMul, reduceCtorEq, Watch.v]
  (first | refine callT.at (hc) ⟨.inl rfl, .inl rfl, trivial⟩ ?_ | refine callS.at (hc) ⟨.inl rfl, .inl rfl, trivial⟩ ?_)
  simp -implicitDefEqProofs -dsimp only [go_sem, Nat.reduceSub, Nat.reduceAdd, Nat.reduceMul, Nat.reduceLT, Nat.reduceLeDiff, Nat.reduceEqDiff, Nat.reduceDiv, Nat.reduceMod, Int.reduceToNat, Int.reduceLE, Int.reduceLT, Int.reduceBEq, Int.reduceBNe, Int.reduceNeg, Int.reduceAdd, Int.reduceSub, Int.reduceMul, reduceCtorEq]
  refine condT.split (fun h1 => ?_) (fun h1 => ?_) <;> simp -implicitDefEqProofs -dsimp only [go_sem, Nat.reduceSub, Nat.reduceAdd, Nat.reduceMul, Nat.reduceLT, Nat.reduceLeDiff, Nat.reduceEqDiff, Nat.reduceDiv, Nat.reduceMod, Int.reduceToNat, Int.reduceLE, Int.reduceLT, Int.reduceBEq, Int.reduceBNe, Int.reduceNeg, Int.reduceAdd, Int.reduceSub, Int.reduceMul, reduceCtorEq, h1]
  · exact WeakR.drop' rfl rfl
  obtain ⟨hz0, hz1, hp, hs⟩ : 0 ≤ z ∧ z = 1048576 - (a.Posts.length : Int) - (a.Shocks.length : Int) ∧ a.Posts.length ≤ 1048576 ∧ a.Shocks.length ≤ 1048576 := by
    simp at h1; rcases hz with hz | hz
    · omega
    · exact hz
  (first | refine callT.at (szWatchStepS_ok L z hL.1 hz0 (by omega)) ⟨.inl rfl, .inl rfl, trivial⟩ ?_ | refine callS.at (szWatchStepS_ok L z hL.1 hz0 (by omega)) ⟨.inl rfl, .inl rfl, trivial⟩ ?_)
  simp -implicitDefEqProofs -dsimp only [go_sem, Nat.reduceSub, Nat.reduceAdd, Nat.reduceMul, Nat.reduceLT, Nat.reduceLeDiff, Nat.reduceEqDiff, Nat.reduceDiv, Nat.reduceMod, Int.reduceToNat, Int.reduceLE, Int.reduceLT, Int.reduceBEq, Int.reduceBNe, Int.reduceNeg, Int.reduceAdd, Int.reduceSub, Int.reduceMul, reduceCtorEq]
  by_cases hzl : z < (L.length : Int)
  · simp only [if_pos hzl]
    simp -implicitDefEqProofs -dsimp only [go_sem, Nat.reduceSub, Nat.reduceAdd, Nat.reduceMul, Nat.reduceLT, Nat.reduceLeDiff, Nat.reduceEqDiff, Nat.reduceDiv, Nat.reduceMod, Int.reduceToNat, Int.reduceLE, Int.reduceLT, Int.reduceBEq, Int.reduceBNe, Int.reduceNeg, Int.reduceAdd, Int.reduceSub, Int.reduceMul, reduceCtorEq]
    exact WeakR.drop' rfl rfl
  simp only [if_neg hzl]
  have hzb : decide (z - (L.length : Int) < 0) = false := by simp; omega
  simp -implicitDefEqProofs -dsimp only [go_sem, Nat.reduceSub, Nat.reduceAdd, Nat.reduceMul, Nat.reduceLT, Nat.reduceLeDiff, Nat.reduceEqDiff, Nat.reduceDiv, Nat.reduceMod, Int.reduceToNat, Int.reduceLE, Int.reduceLT, Int.reduceBEq, Int.reduceBNe, Int.reduceNeg, Int.reduceAdd, Int.reduceSub, Int.reduceMul, reduceCtorEq, hzb]
  have hm0 := markWatch_ok a 1 (by omega) (by omega) (by omega) (by omega)
  have hm1 := markWatchStepS_ok L (1 + 3 * (a.Posts.length : Int) + 5 * (a.Shocks.length : Int)) (by omega) (by omega) (by omega)
  cases hb : runWB a L with
  | false =>
    have cs := sRunWatch_no a L (by omega) (by omega) (by omega) hb
    have ci := iRunWatch_no a L (by omega) (by omega) (by omega) hb
    simp only [runWNo, zeroW] at cs ci
    have he := eqWatch_ok ⟨0, [], [], 0, 0⟩ (by simp) (by simp)
    have hq := heldWatch_ok ⟨0, [], [], 0, 0⟩ 0 0 1 (by omega) (by omega) (by omega) (by omega)
    repeat (first | ((first | refine callT.at (toWatch_ok a hp hs) ⟨(by first | exact leA | exact Watch.le rfl rfl), trivial⟩ ?_ | refine callS.at (toWatch_ok a hp hs) ⟨(by first | exact leA | exact Watch.le rfl rfl), trivial⟩ ?_); simp -implicitDefEqProofs -dsimp only [go_sem, Nat.reduceSub, Nat.reduceAdd, Nat.reduceMul, Nat.reduceLT, Nat.reduceLeDiff, Nat.reduceEqDiff, Nat.reduceDiv, Nat.reduceMod, Int.reduceToNat, Int.reduceLE, Int.reduceLT, Int.reduceBEq, Int.reduceBNe, Int.reduceNeg, Int.reduceAdd, Int.reduceSub, Int.reduceMul, reduceCtorEq, Watch.o]) | ((first | refine callT.at (toWatchStepS_ok L (by omega)) ⟨(by first | exact leA | exact Watch.le rfl rfl), trivial⟩ ?_ | refine callS.at (toWatchStepS_ok L (by omega)) ⟨(by first | exact leA | exact Watch.le rfl rfl), trivial⟩ ?_); simp -implicitDefEqProofs -dsimp only [go_sem, Nat.reduceSub, Nat.reduceAdd, Nat.reduceMul, Nat.reduceLT, Nat.reduceLeDiff, Nat.reduceEqDiff, Nat.reduceDiv, Nat.reduceMod, Int.reduceToNat, Int.reduceLE, Int.reduceLT, Int.reduceBEq, Int.reduceBNe, Int.reduceNeg, Int.reduceAdd, Int.reduceSub, Int.reduceMul, reduceCtorEq, Watch.o]) | ((first | refine callT.at (cs) ⟨(by first | exact leA | exact Watch.le rfl rfl), (by first | exact leA | exact Watch.le rfl rfl), trivial⟩ ?_ | refine callS.at (cs) ⟨(by first | exact leA | exact Watch.le rfl rfl), (by first | exact leA | exact Watch.le rfl rfl), trivial⟩ ?_); simp -implicitDefEqProofs -dsimp only [go_sem, Nat.reduceSub, Nat.reduceAdd, Nat.reduceMul, Nat.reduceLT, Nat.reduceLeDiff, Nat.reduceEqDiff, Nat.reduceDiv, Nat.reduceMod, Int.reduceToNat, Int.reduceLE, Int.reduceLT, Int.reduceBEq, Int.reduceBNe, Int.reduceNeg, Int.reduceAdd, Int.reduceSub, Int.reduceMul, reduceCtorEq, Watch.o]) | ((first | refine callT.at (ci) ⟨(by first | exact leA | exact Watch.le rfl rfl), (by first | exact leA | exact Watch.le rfl rfl), trivial⟩ ?_ | refine callS.at (ci) ⟨(by first | exact leA | exact Watch.le rfl rfl), (by first | exact leA | exact Watch.le rfl rfl), trivial⟩ ?_); simp -implicitDefEqProofs -dsimp only [go_sem, Nat.reduceSub, Nat.reduceAdd, Nat.reduceMul, Nat.reduceLT, Nat.reduceLeDiff, Nat.reduceEqDiff, Nat.reduceDiv, Nat.reduceMod, Int.reduceToNat, Int.reduceLE, Int.reduceLT, Int.reduceBEq, Int.reduceBNe, Int.reduceNeg, Int.reduceAdd, Int.reduceSub, Int.reduceMul, reduceCtorEq, Watch.o]) | ((first | refine callT.at (he) ⟨(by first | exact leA | exact Watch.le rfl rfl), (by first | exact leA | exact Watch.le rfl rfl), trivial⟩ ?_ | refine callS.at (he) ⟨(by first | exact leA | exact Watch.le rfl rfl), (by first | exact leA | exact Watch.le rfl rfl), trivial⟩ ?_); simp -implicitDefEqProofs -dsimp only [go_sem, Nat.reduceSub, Nat.reduceAdd, Nat.reduceMul, Nat.reduceLT, Nat.reduceLeDiff, Nat.reduceEqDiff, Nat.reduceDiv, Nat.reduceMod, Int.reduceToNat, Int.reduceLE, Int.reduceLT, Int.reduceBEq, Int.reduceBNe, Int.reduceNeg, Int.reduceAdd, Int.reduceSub, Int.reduceMul, reduceCtorEq, Watch.o]) | ((first | refine callT.at (eqWatch_ok a (by omega) (by omega)) ⟨(by first | exact leA | exact Watch.le rfl rfl), (by first | exact leA | exact Watch.le rfl rfl), trivial⟩ ?_ | refine callS.at (eqWatch_ok a (by omega) (by omega)) ⟨(by first | exact leA | exact Watch.le rfl rfl), (by first | exact leA | exact Watch.le rfl rfl), trivial⟩ ?_); simp -implicitDefEqProofs -dsimp only [go_sem, Nat.reduceSub, Nat.reduceAdd, Nat.reduceMul, Nat.reduceLT, Nat.reduceLeDiff, Nat.reduceEqDiff, Nat.reduceDiv, Nat.reduceMod, Int.reduceToNat, Int.reduceLE, Int.reduceLT, Int.reduceBEq, Int.reduceBNe, Int.reduceNeg, Int.reduceAdd, Int.reduceSub, Int.reduceMul, reduceCtorEq, Watch.o]) | ((first | refine callT.at (eqWatchStepS_ok L (by omega)) ⟨(by first | exact leA | exact Watch.le rfl rfl), (by first | exact leA | exact Watch.le rfl rfl), trivial⟩ ?_ | refine callS.at (eqWatchStepS_ok L (by omega)) ⟨(by first | exact leA | exact Watch.le rfl rfl), (by first | exact leA | exact Watch.le rfl rfl), trivial⟩ ?_); simp -implicitDefEqProofs -dsimp only [go_sem, Nat.reduceSub, Nat.reduceAdd, Nat.reduceMul, Nat.reduceLT, Nat.reduceLeDiff, Nat.reduceEqDiff, Nat.reduceDiv, Nat.reduceMod, Int.reduceToNat, Int.reduceLE, Int.reduceLT, Int.reduceBEq, Int.reduceBNe, Int.reduceNeg, Int.reduceAdd, Int.reduceSub, Int.reduceMul, reduceCtorEq, Watch.o]) | (refine callS.lend [5, 6] false ( hm0) (by decide) ⟨leO, leO, trivial⟩ lendA ( grown_two (by simp) (by simp)) (.inl rfl) ?_; simp -implicitDefEqProofs -dsimp only [go_sem, Nat.reduceSub, Nat.reduceAdd, Nat.reduceMul, Nat.reduceLT, Nat.reduceLeDiff, Nat.reduceEqDiff, Nat.reduceDiv, Nat.reduceMod, Int.reduceToNat, Int.reduceLE, Int.reduceLT, Int.reduceBEq, Int.reduceBNe, Int.reduceNeg, Int.reduceAdd, Int.reduceSub, Int.reduceMul, reduceCtorEq, Watch.o]) | (refine callS.lend [8] false ( hm1) (by decide) ⟨leO, leO, trivial⟩ lendA ( grown_one (by simp)) (.inl rfl) ?_; simp -implicitDefEqProofs -dsimp only [go_sem, Nat.reduceSub, Nat.reduceAdd, Nat.reduceMul, Nat.reduceLT, Nat.reduceLeDiff, Nat.reduceEqDiff, Nat.reduceDiv, Nat.reduceMod, Int.reduceToNat, Int.reduceLE, Int.reduceLT, Int.reduceBEq, Int.reduceBNe, Int.reduceNeg, Int.reduceAdd, Int.reduceSub, Int.reduceMul, reduceCtorEq, Watch.o]) | ((first | refine callT.at (markWatch_nn_ok ⟨0, [], [], 0, 0⟩ 1 (by omega) (by omega)) ⟨(by first | exact leA | exact Watch.le rfl rfl), (by first | exact leA | exact Watch.le rfl rfl), trivial⟩ ?_ | refine callS.at (markWatch_nn_ok ⟨0, [], [], 0, 0⟩ 1 (by omega) (by omega)) ⟨(by first | exact leA | exact Watch.le rfl rfl), (by first | exact leA | exact Watch.le rfl rfl), trivial⟩ ?_); simp -implicitDefEqProofs -dsimp only [go_sem, Nat.reduceSub, Nat.reduceAdd, Nat.reduceMul, Nat.reduceLT, Nat.reduceLeDiff, Nat.reduceEqDiff, Nat.reduceDiv, Nat.reduceMod, Int.reduceToNat, Int.reduceLE, Int.reduceLT, Int.reduceBEq, Int.reduceBNe, Int.reduceNeg, Int.reduceAdd, Int.reduceSub, Int.reduceMul, reduceCtorEq, Watch.o]) | ((first | refine callT.at (hq) ⟨(by first | exact leA | exact Watch.le rfl rfl), (by first | exact leA | exact Watch.le rfl rfl), trivial⟩ ?_ | refine callS.at (hq) ⟨(by first | exact leA | exact Watch.le rfl rfl), (by first | exact leA | exact Watch.le rfl rfl), trivial⟩ ?_); simp -implicitDefEqProofs -dsimp only [go_sem, Nat.reduceSub, Nat.reduceAdd, Nat.reduceMul, Nat.reduceLT, Nat.reduceLeDiff, Nat.reduceEqDiff, Nat.reduceDiv, Nat.reduceMod, Int.reduceToNat, Int.reduceLE, Int.reduceLT, Int.reduceBEq, Int.reduceBNe, Int.reduceNeg, Int.reduceAdd, Int.reduceSub, Int.reduceMul, reduceCtorEq, Watch.o]) | (with_reducible refine And.intro (by show drawOk _ = true; kernel_rfl) ?_) | (refine guardT.splitF (fun hh => ?_) (fun hh => absurd hh (by first | (simp; done) | (simp; omega))); simp -implicitDefEqProofs -dsimp only [go_sem, Nat.reduceSub, Nat.reduceAdd, Nat.reduceMul, Nat.reduceLT, Nat.reduceLeDiff, Nat.reduceEqDiff, Nat.reduceDiv, Nat.reduceMod, Int.reduceToNat, Int.reduceLE, Int.reduceLT, Int.reduceBEq, Int.reduceBNe, Int.reduceNeg, Int.reduceAdd, Int.reduceSub, Int.reduceMul, reduceCtorEq, hh]) | (refine guardT.splitT (fun hh => absurd hh (by first | (simp; done) | (simp; omega))) (fun hh => ?_); simp -implicitDefEqProofs -dsimp only [go_sem, Nat.reduceSub, Nat.reduceAdd, Nat.reduceMul, Nat.reduceLT, Nat.reduceLeDiff, Nat.reduceEqDiff, Nat.reduceDiv, Nat.reduceMod, Int.reduceToNat, Int.reduceLE, Int.reduceLT, Int.reduceBEq, Int.reduceBNe, Int.reduceNeg, Int.reduceAdd, Int.reduceSub, Int.reduceMul, reduceCtorEq, hh]) | (refine condT.split (fun hh => absurd hh (by first | (simp; done) | (simp; omega))) (fun hh => ?_); simp -implicitDefEqProofs -dsimp only [go_sem, Nat.reduceSub, Nat.reduceAdd, Nat.reduceMul, Nat.reduceLT, Nat.reduceLeDiff, Nat.reduceEqDiff, Nat.reduceDiv, Nat.reduceMod, Int.reduceToNat, Int.reduceLE, Int.reduceLT, Int.reduceBEq, Int.reduceBNe, Int.reduceNeg, Int.reduceAdd, Int.reduceSub, Int.reduceMul, reduceCtorEq, hh]) | exact WeakR.drop' rfl (by rfl))
  | true =>
    have ha' : wB a = true := by simp [runWB] at hb; exact hb.1
    have cs := sRunWatch_ok a L hL hb
    have ci := iRunWatch_ok a L hb
    obtain ⟨f1, f3⟩ := runWF_ok ha' L L.length (Nat.le_refl _)
    rw [List.take_length] at f1 f3
    have B := wB_ok f1
    have bp := B.plen
    have bs := B.slen
    generalize hR : runWF a L = R at *
    obtain ⟨b, n⟩ := R
    simp only [Watch.o] at cs ci
    have bp' : b.Posts.length ≤ 8 := bp
    have bs' : b.Shocks.length ≤ 6 := bs
    have he := eqWatch_ok b (by omega) (by omega)
    have hm := markWatch_ok b 1 (by omega) (by omega) (by omega) (by omega)
    have hq := heldWatch_ok b b.Posts.length b.Shocks.length 1 (by omega) (by omega) (by omega) (by omega)
    repeat (first | ((first | refine callT.at (toWatch_ok a hp hs) ⟨(by first | exact leA | exact Watch.le rfl rfl), trivial⟩ ?_ | refine callS.at (toWatch_ok a hp hs) ⟨(by first | exact leA | exact Watch.le rfl rfl), trivial⟩ ?_); simp -implicitDefEqProofs -dsimp only [go_sem, Nat.reduceSub, Nat.reduceAdd, Nat.reduceMul, Nat.reduceLT, Nat.reduceLeDiff, Nat.reduceEqDiff, Nat.reduceDiv, Nat.reduceMod, Int.reduceToNat, Int.reduceLE, Int.reduceLT, Int.reduceBEq, Int.reduceBNe, Int.reduceNeg, Int.reduceAdd, Int.reduceSub, Int.reduceMul, reduceCtorEq, Watch.o]) | ((first | refine callT.at (toWatchStepS_ok L (by omega)) ⟨(by first | exact leA | exact Watch.le rfl rfl), trivial⟩ ?_ | refine callS.at (toWatchStepS_ok L (by omega)) ⟨(by first | exact leA | exact Watch.le rfl rfl), trivial⟩ ?_); simp -implicitDefEqProofs -dsimp only [go_sem, Nat.reduceSub, Nat.reduceAdd, Nat.reduceMul, Nat.reduceLT, Nat.reduceLeDiff, Nat.reduceEqDiff, Nat.reduceDiv, Nat.reduceMod, Int.reduceToNat, Int.reduceLE, Int.reduceLT, Int.reduceBEq, Int.reduceBNe, Int.reduceNeg, Int.reduceAdd, Int.reduceSub, Int.reduceMul, reduceCtorEq, Watch.o]) | ((first | refine callT.at (cs) ⟨(by first | exact leA | exact Watch.le rfl rfl), (by first | exact leA | exact Watch.le rfl rfl), trivial⟩ ?_ | refine callS.at (cs) ⟨(by first | exact leA | exact Watch.le rfl rfl), (by first | exact leA | exact Watch.le rfl rfl), trivial⟩ ?_); simp -implicitDefEqProofs -dsimp only [go_sem, Nat.reduceSub, Nat.reduceAdd, Nat.reduceMul, Nat.reduceLT, Nat.reduceLeDiff, Nat.reduceEqDiff, Nat.reduceDiv, Nat.reduceMod, Int.reduceToNat, Int.reduceLE, Int.reduceLT, Int.reduceBEq, Int.reduceBNe, Int.reduceNeg, Int.reduceAdd, Int.reduceSub, Int.reduceMul, reduceCtorEq, Watch.o]) | ((first | refine callT.at (ci) ⟨(by first | exact leA | exact Watch.le rfl rfl), (by first | exact leA | exact Watch.le rfl rfl), trivial⟩ ?_ | refine callS.at (ci) ⟨(by first | exact leA | exact Watch.le rfl rfl), (by first | exact leA | exact Watch.le rfl rfl), trivial⟩ ?_); simp -implicitDefEqProofs -dsimp only [go_sem, Nat.reduceSub, Nat.reduceAdd, Nat.reduceMul, Nat.reduceLT, Nat.reduceLeDiff, Nat.reduceEqDiff, Nat.reduceDiv, Nat.reduceMod, Int.reduceToNat, Int.reduceLE, Int.reduceLT, Int.reduceBEq, Int.reduceBNe, Int.reduceNeg, Int.reduceAdd, Int.reduceSub, Int.reduceMul, reduceCtorEq, Watch.o]) | ((first | refine callT.at (he) ⟨(by first | exact leA | exact Watch.le rfl rfl), (by first | exact leA | exact Watch.le rfl rfl), trivial⟩ ?_ | refine callS.at (he) ⟨(by first | exact leA | exact Watch.le rfl rfl), (by first | exact leA | exact Watch.le rfl rfl), trivial⟩ ?_); simp -implicitDefEqProofs -dsimp only [go_sem, Nat.reduceSub, Nat.reduceAdd, Nat.reduceMul, Nat.reduceLT, Nat.reduceLeDiff, Nat.reduceEqDiff, Nat.reduceDiv, Nat.reduceMod, Int.reduceToNat, Int.reduceLE, Int.reduceLT, Int.reduceBEq, Int.reduceBNe, Int.reduceNeg, Int.reduceAdd, Int.reduceSub, Int.reduceMul, reduceCtorEq, Watch.o]) | ((first | refine callT.at (eqWatch_ok a (by omega) (by omega)) ⟨(by first | exact leA | exact Watch.le rfl rfl), (by first | exact leA | exact Watch.le rfl rfl), trivial⟩ ?_ | refine callS.at (eqWatch_ok a (by omega) (by omega)) ⟨(by first | exact leA | exact Watch.le rfl rfl), (by first | exact leA | exact Watch.le rfl rfl), trivial⟩ ?_); simp -implicitDefEqProofs -dsimp only [go_sem, Nat.reduceSub, Nat.reduceAdd, Nat.reduceMul, Nat.reduceLT, Nat.reduceLeDiff, Nat.reduceEqDiff, Nat.reduceDiv, Nat.reduceMod, Int.reduceToNat, Int.reduceLE, Int.reduceLT, Int.reduceBEq, Int.reduceBNe, Int.reduceNeg, Int.reduceAdd, Int.reduceSub, Int.reduceMul, reduceCtorEq, Watch.o]) | ((first | refine callT.at (eqWatchStepS_ok L (by omega)) ⟨(by first | exact leA | exact Watch.le rfl rfl), (by first | exact leA | exact Watch.le rfl rfl), trivial⟩ ?_ | refine callS.at (eqWatchStepS_ok L (by omega)) ⟨(by first | exact leA | exact Watch.le rfl rfl), (by first | exact leA | exact Watch.le rfl rfl), trivial⟩ ?_); simp -implicitDefEqProofs -dsimp only [go_sem, Nat.reduceSub, Nat.reduceAdd, Nat.reduceMul, Nat.reduceLT, Nat.reduceLeDiff, Nat.reduceEqDiff, Nat.reduceDiv, Nat.reduceMod, Int.reduceToNat, Int.reduceLE, Int.reduceLT, Int.reduceBEq, Int.reduceBNe, Int.reduceNeg, Int.reduceAdd, Int.reduceSub, Int.reduceMul, reduceCtorEq, Watch.o]) | (refine callS.lend [7, 8] false ( hm0) (by decide) ⟨leO, leO, trivial⟩ lendA ( grown_two (by simp) (by simp)) (.inl rfl) ?_; simp -implicitDefEqProofs -dsimp only [go_sem, Nat.reduceSub, Nat.reduceAdd, Nat.reduceMul, Nat.reduceLT, Nat.reduceLeDiff, Nat.reduceEqDiff, Nat.reduceDiv, Nat.reduceMod, Int.reduceToNat, Int.reduceLE, Int.reduceLT, Int.reduceBEq, Int.reduceBNe, Int.reduceNeg, Int.reduceAdd, Int.reduceSub, Int.reduceMul, reduceCtorEq, Watch.o]) | (refine callS.lend [10] false ( hm1) (by decide) ⟨leO, leO, trivial⟩ lendA ( grown_one (by simp)) (.inl rfl) ?_; simp -implicitDefEqProofs -dsimp only [go_sem, Nat.reduceSub, Nat.reduceAdd, Nat.reduceMul, Nat.reduceLT, Nat.reduceLeDiff, Nat.reduceEqDiff, Nat.reduceDiv, Nat.reduceMod, Int.reduceToNat, Int.reduceLE, Int.reduceLT, Int.reduceBEq, Int.reduceBNe, Int.reduceNeg, Int.reduceAdd, Int.reduceSub, Int.reduceMul, reduceCtorEq, Watch.o]) | (refine callS.lend [11, 12] false ( hm) (by decide) ⟨leO, leO, trivial⟩ lendA ( grown_two (by simp) (by simp)) (.inl rfl) ?_; simp -implicitDefEqProofs -dsimp only [go_sem, Nat.reduceSub, Nat.reduceAdd, Nat.reduceMul, Nat.reduceLT, Nat.reduceLeDiff, Nat.reduceEqDiff, Nat.reduceDiv, Nat.reduceMod, Int.reduceToNat, Int.reduceLE, Int.reduceLT, Int.reduceBEq, Int.reduceBNe, Int.reduceNeg, Int.reduceAdd, Int.reduceSub, Int.reduceMul, reduceCtorEq, Watch.o]) | ((first | refine callT.at (hq) ⟨(by first | exact leA | exact Watch.le rfl rfl), (by first | exact leA | exact Watch.le rfl rfl), trivial⟩ ?_ | refine callS.at (hq) ⟨(by first | exact leA | exact Watch.le rfl rfl), (by first | exact leA | exact Watch.le rfl rfl), trivial⟩ ?_); simp -implicitDefEqProofs -dsimp only [go_sem, Nat.reduceSub, Nat.reduceAdd, Nat.reduceMul, Nat.reduceLT, Nat.reduceLeDiff, Nat.reduceEqDiff, Nat.reduceDiv, Nat.reduceMod, Int.reduceToNat, Int.reduceLE, Int.reduceLT, Int.reduceBEq, Int.reduceBNe, Int.reduceNeg, Int.reduceAdd, Int.reduceSub, Int.reduceMul, reduceCtorEq, Watch.o]) | (with_reducible refine And.intro (by show drawOk _ = true; kernel_rfl) ?_) | (refine guardT.splitF (fun hh => ?_) (fun hh => absurd hh (by first | (simp; done) | (simp; omega))); simp -implicitDefEqProofs -dsimp only [go_sem, Nat.reduceSub, Nat.reduceAdd, Nat.reduceMul, Nat.reduceLT, Nat.reduceLeDiff, Nat.reduceEqDiff, Nat.reduceDiv, Nat.reduceMod, Int.reduceToNat, Int.reduceLE, Int.reduceLT, Int.reduceBEq, Int.reduceBNe, Int.reduceNeg, Int.reduceAdd, Int.reduceSub, Int.reduceMul, reduceCtorEq, hh]) | (refine guardT.splitT (fun hh => absurd hh (by first | (simp; done) | (simp; omega))) (fun hh => ?_); simp -implicitDefEqProofs -dsimp only [go_sem, Nat.reduceSub, Nat.reduceAdd, Nat.reduceMul, Nat.reduceLT, Nat.reduceLeDiff, Nat.reduceEqDiff, Nat.reduceDiv, Nat.reduceMod, Int.reduceToNat, Int.reduceLE, Int.reduceLT, Int.reduceBEq, Int.reduceBNe, Int.reduceNeg, Int.reduceAdd, Int.reduceSub, Int.reduceMul, reduceCtorEq, hh]) | (refine condT.split (fun hh => absurd hh (by first | (simp; done) | (simp; omega))) (fun hh => ?_); simp -implicitDefEqProofs -dsimp only [go_sem, Nat.reduceSub, Nat.reduceAdd, Nat.reduceMul, Nat.reduceLT, Nat.reduceLeDiff, Nat.reduceEqDiff, Nat.reduceDiv, Nat.reduceMod, Int.reduceToNat, Int.reduceLE, Int.reduceLT, Int.reduceBEq, Int.reduceBNe, Int.reduceNeg, Int.reduceAdd, Int.reduceSub, Int.reduceMul, reduceCtorEq, hh]) | exact WeakR.drop' rfl (by rfl))
end Go.Proofs
end
section
set_option linter.unusedSimpArgs false
set_option linter.unusedVariables false
open Go.ChangeShapes Go.WideShapes
namespace Go.Lv

/-- The shapes of values of the plain types. -/
def ShC (P : Program) : Nat → TypeId → List V → Prop
  | 0, _, _ => False
  | n + 1, t, xs =>
    match P.underlying t with
    | some .bool => ∃ b, xs = [.bool b]
    | some (.int k) => ∃ z, xs = [.int k z] ∧ (Lit.int k z).wf = true
    | some .string => ∃ s : ByteArray, xs = [.str s] ∧ s.size ≤ maxLen
    | some (.slice e) => ∃ l cs, xs = [.sl l (P.cellsOf e) cs] ∧ l ≤ maxLen ∧ cs.length = l * P.cellsOf e ∧ ∀ i, i < l → ShC P n e ((cs.drop (i * P.cellsOf e)).take (P.cellsOf e))
    | some (.struct fs) => xs.length = P.cellsOf t ∧ ∀ f ∈ fs.toList, ShC P n f.type ((xs.drop f.offset).take (P.cellsOf f.type))
    | _ => False

/-- The fields of a struct lie one behind the other and fill it. -/
def tiled (P : Program) : List Field → Nat → Nat → Bool
  | [], off, n => off == n
  | f :: fs, off, n => f.offset == off && tiled P fs (off + P.cellsOf f.type) n

/-- A type that is built of bools, integers, strings, slices and structs. -/
def plainT (P : Program) : Nat → TypeId → Bool
  | 0, _ => false
  | n + 1, t =>
    match P.underlying t with
    | some .bool => true
    | some (.int _) => true
    | some .string => true
    | some (.slice e) => decide (0 < P.cellsOf e) && plainT P n e
    | some (.struct fs) => tiled P fs.toList 0 (P.cellsOf t) && fs.toList.all fun f => plainT P n f.type
    | _ => false

section
variable {P : Program} {w : World} {m : Nat → Nat}

/-- Cells that read as pure values. -/
def Rds (w : World) (m : Nat → Nat) (cs : List Value) (xs : List V) : Prop :=
  cs.length = xs.length ∧ ∀ i (hi : i < xs.length), RV w m [] (fun _ => False) false (cs.getD i Go.undef) xs[i]

theorem Rds.append {a b : List Value} {x y : List V} (h : Rds w m a x) (k : Rds w m b y) : Rds w m (a ++ b) (x ++ y) := by
  refine ⟨by simp [h.1, k.1], fun i hi => ?_⟩
  by_cases hlt : i < x.length
  · rw [List.getElem_append_left hlt]
    have := h.2 i hlt
    rw [List.getD_eq_getElem?_getD, List.getElem?_append_left (by rw [h.1]; exact hlt), ← List.getD_eq_getElem?_getD]
    exact this
  · rw [List.getElem_append_right (by omega)]
    have := k.2 (i - x.length) (by simp at hi; omega)
    rw [List.getD_eq_getElem?_getD, List.getElem?_append_right (by rw [h.1]; omega), ← List.getD_eq_getElem?_getD, h.1]
    exact this

theorem Rds.one {v : Value} {x : V} (h : RV w m [] (fun _ => False) false v x) : Rds w m [v] [x] :=
  ⟨rfl, fun i hi => by have : i = 0 := by simp at hi; omega
                       subst this; exact h⟩

theorem Rds.nil : Rds w m [] [] := ⟨rfl, fun i hi => by simp at hi⟩

/-- The fields of a struct, one behind the other. -/
theorem fields_sh {n : Nat} {cs : List Value} : ∀ (fs : List Field) (off : Nat), tiled P fs off cs.length = true → off ≤ cs.length →
    (∀ f ∈ fs, ∃ xs, Rds w m ((cs.drop f.offset).take (P.cellsOf f.type)) xs ∧ ShC P n f.type xs) →
    ∃ ys, Rds w m (cs.drop off) ys ∧ ∀ f ∈ fs, off ≤ f.offset ∧ ShC P n f.type ((ys.drop (f.offset - off)).take (P.cellsOf f.type))
  | [], off, ht, _, _ => by
    simp [tiled] at ht
    subst ht
    refine ⟨[], ?_, fun f hf => by simp at hf⟩
    rw [List.drop_of_length_le (Nat.le_refl _)]
    exact Rds.nil
  | f :: fs, off, ht, hle, h => by
    simp only [tiled, Bool.and_eq_true, beq_iff_eq] at ht
    obtain ⟨rfl, ht⟩ := ht
    have hlen : ∀ (fs : List Field) (o : Nat), tiled P fs o cs.length = true → o ≤ cs.length := by
      intro fs
      induction fs with
      | nil => intro o ht; simp [tiled] at ht; omega
      | cons g fs ih =>
        intro o ht
        simp only [tiled, Bool.and_eq_true, beq_iff_eq] at ht
        have := ih _ ht.2; omega
    have hk := hlen fs _ ht
    obtain ⟨x, hx1, hx2⟩ := h f (by simp)
    obtain ⟨ys, hy1, hy2⟩ := fields_sh fs _ ht hk (fun g hg => h g (by simp [hg]))
    have hxl : x.length = P.cellsOf f.type := by rw [← hx1.1]; simp; omega
    refine ⟨x ++ ys, ?_, fun g hg => ?_⟩
    · have : cs.drop f.offset = (cs.drop f.offset).take (P.cellsOf f.type) ++ cs.drop (f.offset + P.cellsOf f.type) := by
        rw [← List.drop_drop, List.take_append_drop]
      rw [this]
      exact hx1.append hy1
    · rcases List.mem_cons.1 hg with rfl | hg
      · refine ⟨Nat.le_refl _, ?_⟩
        rw [Nat.sub_self, List.drop_zero, List.take_append_of_le_length (by omega), List.take_of_length_le (by omega)]
        exact hx2
      · obtain ⟨h1, h2⟩ := hy2 g hg
        refine ⟨by omega, ?_⟩
        have : (x ++ ys).drop (g.offset - f.offset) = ys.drop (g.offset - (f.offset + P.cellsOf f.type)) := by
          rw [List.drop_append, List.drop_of_length_le (by omega), List.nil_append]
          congr 1
          omega
        rw [this]
        exact h2

/-- The elements of a slice, one behind the other. -/
theorem elems_sh {n e : Nat} {b off len : Nat} (h : ∀ i, i < len → ∃ cs xs, cs.length = P.cellsOf e ∧ (∀ j, j < P.cellsOf e → w.cell? ⟨b, off + (i * P.cellsOf e + j), none⟩ = cs[j]?) ∧ Rds w m cs xs ∧ ShC P n e xs) :
    ∀ k, k ≤ len → ∃ xs : List V, xs.length = k * P.cellsOf e ∧ (∀ j (hj : j < xs.length), ∃ v, w.cell? ⟨b, off + j, none⟩ = some v ∧ RV w m [] (fun _ => False) false v xs[j]) ∧
      ∀ i, i < k → ShC P n e ((xs.drop (i * P.cellsOf e)).take (P.cellsOf e))
  | 0, _ => ⟨[], by simp, fun j hj => by simp at hj, fun i hi => by omega⟩
  | k + 1, hk => by
    obtain ⟨xs, h1, h2, h3⟩ := elems_sh h k (by omega)
    obtain ⟨cs, ys, g1, g2, g3, g4⟩ := h k (by omega)
    have hyl : ys.length = P.cellsOf e := by rw [← g3.1, g1]
    refine ⟨xs ++ ys, by simp [h1, hyl, Nat.add_mul], fun j hj => ?_, fun i hi => ?_⟩
    · by_cases hlt : j < xs.length
      · rw [List.getElem_append_left hlt]
        exact h2 j hlt
      · rw [List.getElem_append_right (by omega)]
        have hj' : j - xs.length < ys.length := by simp at hj; omega
        have hr := g3.2 _ hj'
        have hc := g2 (j - xs.length) (by omega)
        have e1 : off + (k * P.cellsOf e + (j - xs.length)) = off + j := by omega
        rw [e1] at hc
        have hcl : j - xs.length < cs.length := by omega
        rw [List.getElem?_eq_getElem hcl] at hc
        refine ⟨_, hc, ?_⟩
        simpa [List.getD_eq_getElem?_getD, hcl] using hr
    · by_cases e2 : i = k
      · subst e2
        rw [← h1, List.drop_left, List.take_of_length_le (by omega)]
        exact g4
      · have hm : i * P.cellsOf e + P.cellsOf e ≤ xs.length := mul_room (n := k) (by omega) h1
        rw [List.drop_append_of_le_length (by omega), List.take_append_of_le_length (by simp; omega)]
        exact h3 i (by omega)

theorem trod_sh {H : Type} {enc : TypeId × Value → H} {spare : Nat → Bool} {held : Bool} : ∀ (n : Nat) (fuel : Nat) (t : TypeId) (cs : List Value) (x : DataW H × List MemPlace),
    DataW.trod enc P w 0 spare held fuel t cs = some x → plainT P n t = true → ∃ xs, Rds w m cs xs ∧ ShC P n t xs
  | 0, fuel, t, cs, x, _, hp => by simp [plainT] at hp
  | n + 1, fuel, t, cs, x, hx, hp => by
    unfold plainT at hp
    split at hp
    · rename_i hu
      obtain ⟨b, rfl, _⟩ := DataW.trod_bool hu hx
      exact ⟨[.bool b], Rds.one (.bool b), by unfold ShC; rw [hu]; exact ⟨b, rfl⟩⟩
    · rename_i k hu
      obtain ⟨z, rfl, _, hw⟩ := DataW.trod_int hu hx
      exact ⟨[.int k z], Rds.one (.int k z), by unfold ShC; rw [hu]; exact ⟨z, rfl, hw⟩⟩
    · rename_i hu
      obtain ⟨s, rfl, _, hs⟩ := DataW.trod_string hu hx
      exact ⟨[.str s], Rds.one (.str s), by unfold ShC; rw [hu]; exact ⟨s, rfl, hs⟩⟩
    · rename_i e hu
      simp only [Bool.and_eq_true, decide_eq_true_eq] at hp
      obtain ⟨hpos, hp⟩ := hp
      rcases Deep.open_slice hu hx with ⟨rfl, _⟩ | ⟨a, len, cap, mm, f, D, Pl, rfl, _, hle, hcap, hmm, _, hel⟩
      · refine ⟨[.sl 0 (P.cellsOf e) []], Rds.one (.slz _ _ _), ?_⟩
        unfold ShC; rw [hu]
        exact ⟨0, [], rfl, Nat.zero_le _, by simp, fun i hi => by omega⟩
      · by_cases h0 : len = 0
        · subst h0
          refine ⟨[.sl 0 (P.cellsOf e) []], Rds.one (.slz _ _ _), ?_⟩
          unfold ShC; rw [hu]
          exact ⟨0, [], rfl, Nat.zero_le _, by simp, fun i hi => by omega⟩
        · have hml : len ≤ mm := by rw [hmm]; split <;> omega
          obtain ⟨b, off, spot⟩ := a
          have hspot : spot = none := by
            obtain ⟨cs', hc, _⟩ := hel 0 (by omega)
            obtain ⟨_, hcl, hat⟩ := World.cells?_some hc
            have h1 := hat 0 hpos
            rw [List.getElem?_eq_getElem (by omega)] at h1
            simpa [Addr.add] using World.cell?_spot h1
          subst hspot
          have hall : ∀ i, i < len → ∃ cs xs, cs.length = P.cellsOf e ∧ (∀ j, j < P.cellsOf e → w.cell? ⟨b, off + (i * P.cellsOf e + j), none⟩ = cs[j]?) ∧ Rds w m cs xs ∧ ShC P n e xs := by
            intro i hi
            obtain ⟨cs', hc, ht⟩ := hel i (by omega)
            obtain ⟨_, hcl, hat⟩ := World.cells?_some hc
            obtain ⟨xs, h1, h2⟩ := trod_sh n _ e cs' _ ht hp
            refine ⟨cs', xs, hcl, fun j hj => ?_, h1, h2⟩
            have := hat j hj
            rw [Addr.add_lit, Addr.add_lit] at this
            rw [← this, Nat.add_assoc]
          obtain ⟨xs, h1, h2, h3⟩ := elems_sh hall len (Nat.le_refl _)
          refine ⟨[.sl len (P.cellsOf e) xs], Rds.one (.sl b off len cap (P.cellsOf e) xs (fun j => (w.cell? ⟨b, off + j, none⟩).getD Go.undef) h1 (fun _ h => h) hle (fun j hj => ?_) (fun j hj => ?_)), ?_⟩
          · obtain ⟨v, hv, _⟩ := h2 j hj
            simp [hv]
          · obtain ⟨v, hv, hr⟩ := h2 j hj
            simpa [hv] using hr
          · unfold ShC; rw [hu]
            exact ⟨len, xs, rfl, by omega, h1, h3⟩
    · rename_i fs hu
      simp only [Bool.and_eq_true, List.all_eq_true] at hp
      obtain ⟨xs, f, _, _, hl, hxl, hf⟩ := DataW.trod_struct hu hx
      have hfs : ∀ g ∈ fs.toList, ∃ ys, Rds w m ((cs.drop g.offset).take (P.cellsOf g.type)) ys ∧ ShC P n g.type ys := by
        intro g hg
        obtain ⟨i, hi, rfl⟩ := List.getElem_of_mem hg
        have hi' : i < fs.size := by simpa using hi
        have h1 := hf i fs[i] (Array.getElem?_eq_getElem hi')
        rw [List.getElem?_eq_getElem (by omega)] at h1
        exact trod_sh n _ _ _ _ (by simpa using h1) (hp.2 _ hg)
      obtain ⟨ys, h1, h2⟩ := fields_sh fs.toList 0 (by rw [hl]; exact hp.1) (Nat.zero_le _) hfs
      rw [List.drop_zero] at h1
      refine ⟨ys, h1, ?_⟩
      unfold ShC; rw [hu]
      exact ⟨by rw [← h1.1, hl], fun g hg => by simpa using (h2 g hg).2⟩
    · cases hp

end
section
variable {P : Program} {W : World}

theorem Rds.get {m : Nat → Nat} {a : List Value} {x : List V} (h : Rds W m a x) : a.length = x.length := h.1

/-- A struct by value. -/
theorem arg_agg {H : Type} {enc : TypeId × Value → H} {spare : Nat → Bool} {held : Bool} {r : Reach} {b0 n : Nat} {t : TypeId} {fs : Array Field} {v : Value} {d : DataW H} {p : List MemPlace} (m : Nat → Nat)
    (hs : P.underlying t = some (.struct fs)) (hv : Value.okWide P W r b0 t v) (h : DataW.Trod enc P W 0 spare held t v d p) (hp : plainT P n t = true) :
    ∃ xs, RV W m [] (fun _ => False) true v (.agg xs) ∧ ShC P n t xs := by
  obtain ⟨cs, rfl, hsz⟩ := okWide_struct hs hv
  obtain ⟨fuel, hf⟩ := h
  obtain ⟨xs, h1, h2⟩ := trod_sh (m := m) n fuel t _ _ hf hp
  refine ⟨xs, .agg cs xs (by simpa [Value.cells] using h1.1) (fun i hi => ?_), h2⟩
  have := h1.2 i hi
  simp only [Value.cells, List.getD_eq_getElem?_getD, Array.getElem?_toList] at this
  rw [Array.getD_eq_getD_getElem?]
  exact this.weak

/-- A value of one cell. -/
theorem arg_one {H : Type} {enc : TypeId × Value → H} {spare : Nat → Bool} {held : Bool} {n : Nat} {t : TypeId} {v : Value} {d : DataW H} {p : List MemPlace} (m : Nat → Nat)
    (hv : v.cells = #[v]) (h : DataW.Trod enc P W 0 spare held t v d p) (hp : plainT P n t = true) : ∃ x, RV W m [] (fun _ => False) true v x ∧ ShC P n t [x] := by
  obtain ⟨fuel, hf⟩ := h
  rw [hv] at hf
  obtain ⟨xs, h1, h2⟩ := trod_sh (m := m) n fuel t _ _ hf hp
  match xs, h1 with
  | [x], h1 => exact ⟨x, by have := h1.2 0 (by simp); exact this.weak, h2⟩
  | [], h1 => simp [Rds] at h1
  | _ :: _ :: _, h1 => simp [Rds] at h1

/-- A law's walk out of its contract. -/
theorem law_walk {f : FuncId} {xs : List V} {vs : Array Value} (m : Nat → Nat) (hc : Ctr P f xs [] (.bool true) []) (hgl : GL W (fun _ => False)) (hsz : vs.size = xs.length)
    (hr : ∀ i (hi : i < xs.length), RV W m [] (fun _ => False) true (vs.getD i Go.undef) xs[i]) :
    Calls P f vs W fun e w' => e = .returned (.bool true) ∧ RowKit.Below W.heap.size W w' := by
  refine (hc.2 W vs m (fun _ => False) ⟨fun i j ci cj h => by simp at h, fun id cs h => by simp at h, fun id cs h => by simp at h⟩ (fun b h => h.elim) hgl hsz hr).mono ?_
  rintro e w' ⟨v, m', rfl, hE, _, hv, _⟩
  refine ⟨by cases hv; rfl, hE.os, hE.tape, hE.output, hE.size, fun k hk => hE.block k hk (fun ⟨id, cs, h, _⟩ => by simp at h)⟩

end
end Go.Lv
end
section
set_option linter.unusedSimpArgs false
set_option linter.unusedVariables false
namespace Go.Lv

theorem shC_struct {P : Program} {t : TypeId} {n : Nat} {xs : List V} {fs : Array Field} (hs : P.underlying t = some (.struct fs)) (h : ShC P (n + 1) t xs) : xs.length = P.cellsOf t ∧ ∀ f ∈ fs.toList, ShC P n f.type ((xs.drop f.offset).take (P.cellsOf f.type)) := by
  simp only [ShC, hs] at h
  exact h

theorem shC_int {P : Program} {t : TypeId} {n : Nat} {xs : List V} (hs : P.underlying t = some (.int .i64)) (h : ShC P (n + 1) t xs) : ∃ z, xs = [.int .i64 z] ∧ i64R z := by
  simp only [ShC, hs] at h
  obtain ⟨z, h1, h2⟩ := h
  refine ⟨z, h1, ?_⟩
  simp [Lit.wf, IntKind.min, IntKind.max, IntKind.signed, IntKind.bits] at h2
  exact h2

theorem shC_bool {P : Program} {t : TypeId} {n : Nat} {xs : List V} (hs : P.underlying t = some .bool) (h : ShC P (n + 1) t xs) : ∃ b, xs = [.bool b] := by
  simp only [ShC, hs] at h
  exact h

theorem shC_list {P : Program} {t e : TypeId} {n : Nat} {xs : List V} (hs : P.underlying t = some (.slice e)) {α : Type} {cs : α → List V} {w : Nat} (hw : P.cellsOf e = w) {ok : α → Prop}
    (he : ∀ ys, ShC P n e ys → ∃ a, ys = cs a ∧ ok a) (h : ShC P (n + 1) t xs) : ∃ L : List α, xs = [.sl L.length w (rows cs L)] ∧ lstR ok L := by
  simp only [ShC, hs, hw] at h
  obtain ⟨l, ys, rfl, hl, hlen, hel⟩ := h
  suffices ∀ (l : Nat) (ys : List V), ys.length = l * w → (∀ i, i < l → ShC P n e ((ys.drop (i * w)).take w)) → ∃ L : List α, L.length = l ∧ rows cs L = ys ∧ ∀ x ∈ L, ok x by
    obtain ⟨L, h1, h2, h3⟩ := this l ys hlen hel
    exact ⟨L, by rw [h1, h2], by rw [h1]; exact hl, h3⟩
  intro l
  induction l with
  | zero => intro ys h1 _; exact ⟨[], rfl, by simp at h1; simp [rows, h1], fun x hx => by simp at hx⟩
  | succ l ih =>
    intro ys h1 h2
    obtain ⟨a, ha, hoa⟩ := he _ (h2 0 (by omega))
    rw [Nat.zero_mul, List.drop_zero] at ha
    obtain ⟨L, h3, h4, h5⟩ := ih (ys.drop w) (by rw [List.length_drop, h1, Nat.succ_mul]; omega) (fun i hi => by
      have := h2 (i + 1) (by omega)
      rw [List.drop_drop]
      rwa [Nat.succ_mul, Nat.add_comm] at this)
    refine ⟨a :: L, by simp [h3], ?_, ?_⟩
    · rw [rows_cons, h4, ← ha, List.take_append_drop]
    · intro x hx
      rcases List.mem_cons.1 hx with rfl | hx
      · exact hoa
      · exact h5 x hx

end Go.Lv
end
