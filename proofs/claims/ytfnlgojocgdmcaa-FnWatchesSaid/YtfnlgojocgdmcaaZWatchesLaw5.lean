/-
  A part of the proof: texts put together by a program of the prover. Conditions: none.
-/
import Derived.Test.YtfnlgojocgdmcaaZWatchesLaw4
import Derived.Shelf.RegionOpenPlain
import Derived.WalkKit
import Derived.Deep.LoopGhost
import Derived.Deep.RegionLaw
import Derived.Lib.Walk
import Derived.Sort.WalkB12
import Derived.Lib.SliceRun
import Derived.Deep.Upon
import Derived.Deep.MidRow
import Derived.Laws.IdiomCopy
import Derived.Lib.Hide
set_option linter.unusedSimpArgs false
set_option linter.unusedVariables false
section
set_option linter.unusedSimpArgs false
set_option linter.unusedVariables false
set_option maxRecDepth 100000
set_option maxHeartbeats 4000000
namespace Go.Proofs
open Go.Lv
open Go.Shelf Go.RowKit Go.Lib Go.Sort
theorem Ctr.raw {P : Program} {f : FuncId} {args : List V} {hin : Hp} {r : V} {hout : Hp} (hok : okF P f = true)
   (h : ∀ (w : World) (vs : Array Value) (m : Nat → Nat) (av : Nat → Prop), Inv w m hin av ⟨args, hin, hin.length⟩ { tmps := vs, defers := [] } w m → vs.size = args.length →
     Calls P f vs w fun e w' => ∃ v m' s a, e = .returned v ∧ s.h = hout ∧ Inv w m hin av s a w' m' ∧ RV w' m' hout (avm av m' hout) true v r) : Ctr P f args hin r hout := by
 refine ⟨hok, fun w vs m av hH hav hgl hs ha => ?_⟩
 have hav' : ∀ b, avm av m hin b → av b := fun b hb => by
   rcases hb with hb | ⟨id, cs, h1, rfl⟩
   · exact hb
   · exact hH.avd id cs h1
 have hstep : ∀ {o : Bool} {v : Value} {x : V}, RV w m hin av o v x → RV w m hin (avm av m hin) o v x :=
   fun {o v x} hx => RV.step (w := w) (w' := w) (m := m) (m' := m) (h := hin) (h' := hin) (av := av) (av' := avm av m hin) (fun b off v hb hc => ⟨fun h => hb (hav' b h), hc⟩) (fun id c hid => ⟨c, hid, Nat.le_refl _, rfl, Nat.le_refl _, rfl⟩) hx
 have I : Inv w m hin av ⟨args, hin, hin.length⟩ { tmps := vs, defers := [] } w m := by
   refine ⟨⟨hH.inj, fun id cs h => .inr ⟨id, cs, h, rfl⟩, fun id cs h => ?_⟩, hs, fun i hi => hstep (ha i hi), rfl, Ext.refl _ _, fun id cs h => .inl ⟨id_lt h, cs, h, Nat.le_refl _, .inl rfl⟩, hav, fun b ⟨id, cs, h1, h2⟩ => h2 ▸ hH.avd id cs h1, hgl, rfl, Nat.le_refl _⟩
   exact (hH.blk id cs h).step rfl (fun v x => hstep)
 refine (h w vs m av I hs).mono ?_
 rintro e w' ⟨v, m', s, a, rfl, rfl, I', hv⟩
 exact ⟨v, m', rfl, I'.ext, I'.rh, hv, I'.ids⟩
def putV (C : Array Value) : Nat → List Value → Array Value
 | _, [] => C
 | o, v :: r => putV (C.setIfInBounds o v) (o + 1) r
theorem putV_size : ∀ (vs : List Value) (C : Array Value) (o : Nat), (putV C o vs).size = C.size
 | [], _, _ => rfl
 | v :: r, C, o => by rw [putV, putV_size r]; simp
theorem putV_out : ∀ (vs : List Value) (C : Array Value) (o k : Nat), (k < o ∨ o + vs.length ≤ k) → (putV C o vs).getD k Go.undef = C.getD k Go.undef
 | [], _, _, _, _ => rfl
 | v :: r, C, o, k, hk => by
   simp only [List.length_cons] at hk
   rw [putV, putV_out r _ _ _ (by omega), Array.getD_eq_getD_getElem?, Array.getD_eq_getD_getElem?, Array.getElem?_setIfInBounds_ne (by omega)]
theorem putV_in : ∀ (vs : List Value) (C : Array Value) (o j : Nat) (hj : j < vs.length), o + vs.length ≤ C.size → (putV C o vs).getD (o + j) Go.undef = vs[j]
 | v :: r, C, o, 0, _, h => by
   simp only [List.length_cons] at h
   rw [putV, putV_out r _ _ _ (by omega), Array.getD_eq_getD_getElem?, Nat.add_zero, Array.getElem?_setIfInBounds_self_of_lt (by omega)]
   rfl
 | v :: r, C, o, j + 1, hj, h => by
   simp only [List.length_cons] at h
   have := putV_in r (C.setIfInBounds o v) (o + 1) j (by simpa using hj) (by simp; omega)
   rw [putV, show o + (j + 1) = o + 1 + j by omega, this]
   rfl
theorem setCells_row (b : Nat) : ∀ (vs : List Value) (o : Nat) (w : World) (C : Array Value) (T : TypeId) (fr : Nat × Nat), w.heap[b]? = some (.cells C T fr) → w.setCells b o vs = w.setRow b (putV C o vs)
 | [], _, w, C, T, fr, hb => (setRow_self w b C T fr hb).symm
 | v :: r, o, w, C, T, fr, hb => by
   rw [World.setCells, setCell_eq_setRow w b o C T fr v hb, setCells_row b r (o + 1) _ _ T fr (setRow_heap w b C _ T fr hb), setRow_setRow]
   rfl
theorem run_clear_one {P : Program} (w : World) (t e ty : TypeId) (z : Value) (ht : P.underlying t = some (.slice e)) (hv : ∀ w, (zeroValue e).run P w = .ok z w) (h1 : ∀ u ∈ z.cells.toList, u.oneCell' = true) (b o c : Nat)
   (hc : ∀ j, j < z.cells.size → (w.cell? ⟨b, o + j, none⟩).isSome = true) (hf : ∀ j, j < z.cells.size → w.frozen? ⟨b, o + j, none⟩ = false) :
   (Builtin.clear_ #[t] ty #[.slice (some ⟨b, o, none⟩) 1 c]).run P w = .ok (.tuple #[]) (w.setCells b o z.cells.toList) := by
 have hzc : (Builtin.zeroCells z.cells 1).toList = z.cells.toList := by
   simp [Builtin.zeroCells]
   apply List.ext_getElem
   · simp
   · intro i h1 h2
     simp at h1
     simp [Nat.mod_eq_of_lt h1, h1]
 have hst := run_storeCells_cells (P := P) b o z.cells.toList 0 w (by simpa using hc) (by simpa using hf) (by intro v hv'; exact h1 v hv')
 simp only [Nat.add_zero] at hst
 simp [Builtin.clear_, run_underlying ht, hv, hzc, hst]
def zeroShock : Value := .agg #[.int .i64 0, .int .i64 0, .int .i64 0, .int .i64 0, .int .i64 0]
theorem delShock_any (b n cap i : Nat) (C : Array Value) (T : TypeId) (w : World) {fr : Nat × Nat} (hb : w.heap[b]? = some (.cells C T fr)) (hfr : FrOk fr C.size) (hC : cap * 5 ≤ C.size) (hn : n ≤ cap) (hi : i < n) (news : List Value) (hnl : news.length = (n - (i + 1)) * 5)
   (hng : ∀ t, t < (n - (i + 1)) * 5 → news[t]? = some (C.getD ((i + 1) * 5 + t) Go.undef)) (h1 : ∀ u ∈ news, u.oneCell' = true) :
   Calls Try.prog 188 #[.slice (some ⟨b, 0, none⟩) n cap, .int .i64 i, .int .i64 ((i : Int) + 1)] w fun e w' =>
     e = .returned (.slice (some ⟨b, 0, none⟩) (n - 1) cap) ∧ w' = ((w.drew).setCells b (i * 5) news).setCells b ((n - 1) * 5) zeroShock.cells.toList := by
 have he : elOf Try.prog 37 = some (49, 5, 40) := by kernel_rfl
 obtain ⟨i0, t81, hi0, hz5, _⟩ := elOf_some he
 have hzv : ∀ w, (zeroValue 49).run Try.prog w = .ok zeroShock w := by
   have hz : (Try.prog.info? 49).bind (·.zero) = some zeroShock := by kernel_rfl
   intro w
   rw [hi0] at hz
   simp only [Option.bind_some] at hz
   simp [zeroValue, typeInfo, hi0, hz]
 have hcell : ∀ k, k < C.size → w.cell? ⟨b, k, none⟩ = some (C.getD k Go.undef) := fun k hk => by simp [World.cell?, hb, Array.getD, hk]
 have hfrz : ∀ (k : Nat), k < C.size → w.frozen? ⟨b, k, none⟩ = false := fun k hk => hfr.not hb hk
 obtain ⟨A, hA, hsrc⟩ : ∃ A : Addr, (if cap = i + 1 then some (⟨b, 0, none⟩ : Addr) else some ⟨b, (i + 1) * 5, none⟩) = some A ∧ Hid (∀ t u, news[t]? = some u → w.drew.cell? (A.add t) = some u) := by
   by_cases h : cap = i + 1
   · refine ⟨⟨b, 0, none⟩, by simp [h], fun t u hu => ?_⟩
     have h0 : news.length = 0 := by rw [hnl]; omega
     rw [List.length_eq_zero_iff.1 h0] at hu
     simp at hu
   · refine ⟨⟨b, (i + 1) * 5, none⟩, by simp [h], fun t u hu => ?_⟩
     have ht : t < (n - (i + 1)) * 5 := by
       have := (List.getElem?_eq_some_iff.1 hu).1
       rwa [hnl] at this
     rw [hng t ht] at hu
     rw [Addr.add_lit]
     exact (hcell ((i + 1) * 5 + t) (by omega)).trans hu
 have s1 : Hid (news.length = (n - (i + 1)) * 5) := hnl
 have s2 : Hid (∀ u ∈ news, u.oneCell' = true) := h1
 have s3 : Hid (∀ t, t < news.length → (w.drew.cell? ⟨b, 0 + i * 5 + t, none⟩).isSome = true ∧ w.drew.frozen? ⟨b, 0 + i * 5 + t, none⟩ = false) := by
   intro t ht
   rw [hnl] at ht
   exact ⟨by show (w.cell? _).isSome = true; rw [hcell _ (by omega)]; rfl, hfrz _ (by omega)⟩
 obtain ⟨W1, hW1⟩ : ∃ W1, W1 = w.drew.setCells b (i * 5) news := ⟨_, rfl⟩
 have hsome : ∀ k, k < C.size → (W1.cell? ⟨b, k, none⟩).isSome = true := fun k hk => by
   rw [hW1]
   exact World.isSome_setCells b news _ w.drew _ (by show (w.cell? _).isSome = true; rw [hcell k hk]; rfl)
 have hcl : ∀ ty, (Builtin.clear_ #[37] ty #[.slice (some ⟨b, (i + (n - (i + 1))) * 5, none⟩) (n - (i + (n - (i + 1)))) (cap - (i + (n - (i + 1))))]).run Try.prog W1 = .ok (.tuple #[]) (W1.setCells b ((i + (n - (i + 1))) * 5) zeroShock.cells.toList) := by
   intro ty
   have e1 : n - (i + (n - (i + 1))) = 1 := by omega
   rw [e1]
   refine run_clear_one W1 _ _ ty zeroShock t81 hzv (by decide) b _ _ (fun j hj => hsome _ ?_) (fun j hj => ?_)
   · have : j < 5 := hj
     omega
   · rw [hW1, World.frozen?_setCells]
     have : j < 5 := hj
     exact hfrz _ (by omega)
 obtain ⟨zc, hzc⟩ : ∃ zc, zc = zeroShock.cells.toList := ⟨_, rfl⟩
 rw [← hzc] at hcl
 have Z : Aside (zc = zeroShock.cells.toList) := hzc
 have X : Aside (W1 = w.drew.setCells b (i * 5) news) := hW1
 have hW : Hid (W1 = w.drew.setCells b (0 + i * 5) news) := by rw [Nat.zero_add]; exact hW1
 have hic : i ≤ cap := by omega
 have hjc : i + 1 ≤ cap := by omega
 have hz5' : Hid (i0.size = 5) := hz5
 have mixed := Try.mixed
 have hb1 : (0 : Int) ≤ (i : Int) + 1 ∧ (i : Int) + 1 ≤ (n : Int) := by omega
 have hb2 : (0 : Int) ≤ (i : Int) + 1 := by omega
 have hb3 : (i : Int) + 1 ≤ (n : Int) := by omega
 clear hzc hzv hW1 hnl hng h1 hcell hfrz hfr hb hsome
 go_enter Try.func188, Try.ntmps188
 go_wp2_with fail
 go_region_law_o (refine step_append_room rfl (.tmp 22) (.tmp 25) 37 rfl 49 i0 5 t81 hi0 hz5'.out b 0 i cap (by simp [Act.eval, Act.put]) A (n - (i + 1)) (cap - (i + 1)) news (by simp [Act.eval, Act.put]) s1.out hsrc.out s2.out (by omega) s3.out ?_; rw [← hW.out])
 go_wp2
 go_ret
 have e1 : i + (n - (i + 1)) = n - 1 := by omega
 refine ⟨?_, ?_⟩
 · rw [e1]
   rfl
 · rw [e1, X.out, Z.out]
theorem delShock_ok (L : List Shock) (i : Nat) (hi : i < L.length) : Ctr Try.prog 188 [.osl 0 0 L.length 5, .int .i64 i, .int .i64 ((i : Int) + 1)] [some (rows Shock.cs L)] (.osl 0 0 (L.length - 1) 5)
   [some (rows Shock.cs (L.take i ++ L.drop (i + 1)) ++ [.int .i64 0, .int .i64 0, .int .i64 0, .int .i64 0, .int .i64 0])] := by
 refine Ctr.raw (by kernel_rfl) (fun w vs m av I hs => ?_)
 obtain ⟨n, hn⟩ : ∃ n, n = L.length := ⟨_, rfl⟩
 have hlen : (rows Shock.cs L).length = n * 5 := by rw [rows_len5, hn]
 have h0 := I.slots 0 (by simp)
 have h1 := I.slots 1 (by simp)
 have h2 := I.slots 2 (by simp)
 dsimp only [List.getElem_cons_zero, List.getElem_cons_succ] at h0 h1 h2
 have e1 := rv_int h1
 have e2 := rv_int h2
 obtain ⟨v0, hv0⟩ : ∃ v0, v0 = vs.getD 0 Go.undef := ⟨_, rfl⟩
 rw [← hv0] at h0
 have hvs : vs = #[v0, .int .i64 i, .int .i64 ((i : Int) + 1)] := by
   have hsz : vs.size = 3 := hs
   apply Array.ext
   · simpa using hsz
   · intro k hk hk'
     have hk3 : k < 3 := by omega
     have hg : vs[k] = vs.getD k Go.undef := by simp [Array.getD, hk]
     rw [hg]
     rcases (show k = 0 ∨ k = 1 ∨ k = 2 by omega) with rfl | rfl | rfl
     · exact hv0.symm
     · exact e1
     · exact e2
 cases h0 with
 | osl _ _ _ cap _ cs hid hl hc hsz =>
   have hcs : cs = rows Shock.cs L := by
     have := hid.1
     simpa using this.symm
   subst hcs
   rcases I.rh.blk 0 _ hid.1 with ⟨C, T, fr, hb, hfr, hle, hr⟩ | ⟨E, c, es, hb, hmb, _⟩
   rotate_left
   · have := hid.2
     rw [hmb] at this
     cases this
   have hrow : rowSize w (m 0) = C.size := by simp [rowSize, hb]
   rw [hrow] at hsz
   rw [← hn] at hc hi ⊢
   obtain ⟨news, hnews⟩ : ∃ news : List Value, news = (List.range ((n - (i + 1)) * 5)).map fun t => C.getD ((i + 1) * 5 + t) Go.undef := ⟨_, rfl⟩
   have hnl : news.length = (n - (i + 1)) * 5 := by rw [hnews]; simp
   have hng : ∀ t, t < (n - (i + 1)) * 5 → news[t]? = some (C.getD ((i + 1) * 5 + t) Go.undef) := fun t ht => by rw [hnews]; simp [ht]
   have hcellAll := rows_cell (cs := Shock.cs) L
   have h1c : ∀ u ∈ news, u.oneCell' = true := by
     intro u hu
     rw [hnews] at hu
     obtain ⟨t, ht, rfl⟩ := List.mem_map.1 hu
     have ht' := List.mem_range.1 ht
     have hk : (i + 1) * 5 + t < (rows Shock.cs L).length := by rw [hlen]; omega
     exact (one_of (hr _ hk) (List.all_eq_true.1 hcellAll _ (List.getElem_mem hk))).1
   rw [hvs, ← hn]
   refine (delShock_any (m 0) n cap i C T w hb hfr (by omega) hc hi news hnl hng h1c).mono ?_
   rintro e w' ⟨rfl, rfl⟩
   have hbd : w.drew.heap[m 0]? = some (.cells C T fr) := hb
   have hw : ((w.drew).setCells (m 0) (i * 5) news).setCells (m 0) ((n - 1) * 5) zeroShock.cells.toList = w.drew.setRow (m 0) (putV (putV C (i * 5) news) ((n - 1) * 5) zeroShock.cells.toList) := by
     rw [setCells_row (m 0) news _ w.drew C T _ hbd, setCells_row (m 0) _ _ _ _ T _ (setRow_heap w.drew (m 0) C _ T _ hbd), setRow_setRow]
   rw [hw]
   have I1 := I.world (Ext.drew _ w)
   have hz5 : zeroShock.cells.toList.length = 5 := rfl
   have hcut : rows Shock.cs (L.take i ++ L.drop (i + 1)) = (rows Shock.cs L).take (i * 5) ++ (rows Shock.cs L).drop ((i + 1) * 5) := by rw [rowsOf_append, rows_take Shock.csl, rows_drop Shock.csl]
   have hl1 : ((rows Shock.cs L).take (i * 5)).length = i * 5 := by rw [List.length_take, hlen]; omega
   have hl2 : ((rows Shock.cs L).drop ((i + 1) * 5)).length = (n - (i + 1)) * 5 := by rw [List.length_drop, hlen]; omega
   rw [hcut]
   obtain ⟨J, hstep⟩ := I1.setRow (id := 0) (cs := rows Shock.cs L) (cs' := (rows Shock.cs L).take (i * 5) ++ (rows Shock.cs L).drop ((i + 1) * 5) ++ [.int .i64 0, .int .i64 0, .int .i64 0, .int .i64 0, .int .i64 0])
     (C := C) (C' := putV (putV C (i * 5) news) ((n - 1) * 5) zeroShock.cells.toList) (T := T) hid hbd hfr (by rw [putV_size, putV_size]) (by simp only [List.length_append, hl1, hl2, hlen, List.length_cons, List.length_nil]; omega) (by simp only [List.length_append, hl1, hl2, putV_size, List.length_cons, List.length_nil]; omega) (fun k hk => by
       simp only [List.length_append, hl1, hl2, List.length_cons, List.length_nil] at hk
       have hrd : ∀ j (hj : j < (rows Shock.cs L).length), RV w.drew m [some (rows Shock.cs L)] (avm av m [some (rows Shock.cs L)]) true (C.getD j Go.undef) (rows Shock.cs L)[j] := by
         rcases I1.rh.blk 0 _ hid.1 with ⟨C2, T2, fr2, hb2, _, _, hr2⟩ | ⟨E, c, es, hb2, hmb, _⟩
         · rw [hbd] at hb2
           simp only [Option.some.injEq, Obj.cells.injEq] at hb2
           obtain ⟨rfl, _⟩ := hb2
           exact hr2
         · rw [hbd] at hb2; cases hb2
       rcases Nat.lt_or_ge k (i * 5) with h | h
       · rw [putV_out _ _ _ _ (by omega), putV_out _ _ _ _ (by omega)]
         have := hrd k (by omega)
         simpa [List.getElem_append, hl1, hl2, h, show k < i * 5 + (n - (i + 1)) * 5 by omega] using this
       · rcases Nat.lt_or_ge k ((n - 1) * 5) with h' | h'
         · rw [putV_out _ _ _ _ (by omega)]
           have hj : k - i * 5 < news.length := by omega
           have := putV_in news C (i * 5) (k - i * 5) hj (by omega)
           rw [show i * 5 + (k - i * 5) = k by omega] at this
           rw [this]
           have h3 := hng (k - i * 5) (by omega)
           rw [List.getElem?_eq_getElem hj] at h3
           simp only [Option.some.injEq] at h3
           rw [h3]
           have h4 := hrd ((i + 1) * 5 + (k - i * 5)) (by omega)
           have hlt : ¬ k < i * 5 := by omega
           simpa [List.getElem_append, hl1, hl2, hlt, show k < i * 5 + (n - (i + 1)) * 5 by omega, show k - i * 5 < (n - (i + 1)) * 5 by omega] using h4
         · have hj : k - (n - 1) * 5 < zeroShock.cells.toList.length := by rw [hz5]; omega
           have := putV_in zeroShock.cells.toList (putV C (i * 5) news) ((n - 1) * 5) (k - (n - 1) * 5) hj (by rw [putV_size]; omega)
           rw [show (n - 1) * 5 + (k - (n - 1) * 5) = k by omega] at this
           rw [this]
           have hge : ¬ k < i * 5 + (n - (i + 1)) * 5 := by omega
           have e5 : ∀ q, (hq : q < 5) → ([V.int .i64 0, .int .i64 0, .int .i64 0, .int .i64 0, .int .i64 0] : List V)[q]'(by simpa using hq) = .int .i64 0 := fun q hq => by
             rcases (show q = 0 ∨ q = 1 ∨ q = 2 ∨ q = 3 ∨ q = 4 by omega) with rfl | rfl | rfl | rfl | rfl <;> rfl
           have e6 : ∀ q, (hq : q < 5) → zeroShock.cells.toList[q]'(by rw [hz5]; exact hq) = .int .i64 0 := fun q hq => by
             rcases (show q = 0 ∨ q = 1 ∨ q = 2 ∨ q = 3 ∨ q = 4 by omega) with rfl | rfl | rfl | rfl | rfl <;> rfl
           rw [e6 _ (by omega), List.getElem_append_right (by rw [List.length_append, hl1, hl2]; omega), e5 _ (by rw [List.length_append, hl1, hl2]; omega)]
           exact .int _ _)
   refine ⟨_, m, _, _, rfl, ?_, J, ?_⟩
   · rfl
   · have := RV.osl (w := w.drew.setRow (m 0) (putV (putV C (i * 5) news) ((n - 1) * 5) zeroShock.cells.toList)) (m := m) (h := [some ((rows Shock.cs L).take (i * 5) ++ (rows Shock.cs L).drop ((i + 1) * 5) ++ [.int .i64 0, .int .i64 0, .int .i64 0, .int .i64 0, .int .i64 0])]) (av := avm av m [some ((rows Shock.cs L).take (i * 5) ++ (rows Shock.cs L).drop ((i + 1) * 5) ++ [.int .i64 0, .int .i64 0, .int .i64 0, .int .i64 0, .int .i64 0])]) 0 0 (n - 1) cap 5 _ ⟨rfl, ?_⟩ ?_ (by omega) ?_
     · exact this
     · have hlen2 : 5 ≤ ((rows Shock.cs L).take (i * 5) ++ (rows Shock.cs L).drop ((i + 1) * 5) ++ [V.int .i64 0,   .int .i64 0, .int .i64 0, .int .i64 0, .int .i64 0]).length := by simp only [List.length_append, List.length_cons, List.length_nil]; omega
       match h : ((rows Shock.cs L).take (i * 5) ++ (rows Shock.cs L).drop ((i + 1) * 5) ++ [V.int .i64 0, .int .i64 0, .int .i64 0, .int .i64 0, .int .i64 0]), hlen2 with
       | [], h2 => rfl
       | [x], h2 => simp at h2
       | _ :: _ :: _, _ => rfl
     · simp only [List.length_append, hl1, hl2, List.length_cons, List.length_nil]; omega
     · have : rowSize (w.drew.setRow (m 0) (putV (putV C (i * 5) news) ((n - 1) * 5) zeroShock.cells.toList)) (m 0) = C.size := by
         simp only [rowSize, setRow_heap w.drew (m 0) C _ T _ hbd, putV_size]
       rw [this]; omega
end Go.Proofs
end
section
set_option linter.unusedSimpArgs false
set_option linter.unusedVariables false
set_option maxRecDepth 100000
set_option maxHeartbeats 1000000
namespace Go.Proofs
open Go.Lv
def z5 : List V := [.int .i64 0, .int .i64 0, .int .i64 0, .int .i64 0, .int .i64 0]
theorem treat8_ok (w : Watch) (i : Nat) (n v : Int) (hw : wB w = true) (hi : i < w.Shocks.length) : Ctr Try.prog 151 [.ptr 0 0, .int .i64 i, .agg [.int .i64 8, .int .i64 n, .int .i64 v]] [some (w.oc 1 2), some (rows Post.cs w.Posts), some (rows Shock.cs w.Shocks)] (.bool (archB w w.Shocks[i]))
   [some ((archW w i).oc 1 2), some (rows Post.cs w.Posts), some (rows Shock.cs (w.Shocks.take i ++ w.Shocks.drop (i + 1)) ++ z5)] := by
 have W := wB_ok hw
 have hx := W.shocks _ (List.getElem_mem hi)
 have hb := shockB_iff.1 hx
 have hr := rows_at Shock.csl hi
 have sl := W.slen
 have hwi : IntKind.i64.wrap ((i : Int) + 1) = (i : Int) + 1 := wrap_i64 (by omega) (by omega)
 have hwa : IntKind.i64.wrap (w.Archived + 1) = w.Archived + 1 := by have := W.arch; exact wrap_i64 (by omega) (by omega)
 have hwn : IntKind.i64.wrap (w.Now - w.Shocks[i].Tick) = w.Now - w.Shocks[i].Tick := by have := W.now; exact wrap_i64 (by omega) (by omega)
 have e : (w.Shocks.take i ++ w.Shocks.drop (i + 1)).length = w.Shocks.length - 1 := by simp; omega
 have hall : (rows Shock.cs (w.Shocks.take i ++ w.Shocks.drop (i + 1)) ++ z5).all isCell = true := by
   rw [List.all_append, rows_cell]; rfl
 have hg : grown [some (rows Shock.cs w.Shocks)] [some (rows Shock.cs (w.Shocks.take i ++ w.Shocks.drop (i + 1)) ++ z5)] := by
   refine ⟨⟨?_, by rw [isMb_cells hall, isMb_rows]⟩, trivial⟩
   rw [List.length_append, rows_len5, rows_len5, e]
   show _ = (w.Shocks.length - 1) * 5 + 5
   omega
 refine Ctr.intro Try.mixed Try.func151 rfl Try.okF151 ?_
 simp -implicitDefEqProofs -dsimp only [go_sem, Try.ntmps151, Try.results151]
 (repeat ((repeat1' (first | simp -implicitDefEqProofs -dsimp only [go_sem, Watch.oc, hr, Shock.cs, hwi] | simp -dsimp (disch := omega) only [wrap_i64])); repeat (with_reducible refine sideA ?_)))
 refine callS.lend [2] false ( delShock_ok w.Shocks i hi) (by decide) ⟨leO, leO, leO, trivial⟩ lendA ( hg) (.inl rfl) ?_
 (repeat ((repeat1' (first | simp -implicitDefEqProofs -dsimp only [go_sem, Watch.oc, hwa] | simp -dsimp (disch := omega) only [wrap_i64])); repeat (with_reducible refine sideA ?_)))
 clear hall hg
 repeat' (first | (refine guardT.splitT (fun _ => ?_) (fun _ => ?_) <;> (repeat ((repeat1' (first | simp -implicitDefEqProofs -dsimp only [go_sem, *] | simp -dsimp (disch := omega) only [wrap_i64])); repeat (with_reducible refine sideA ?_)))) | (refine guardT.splitF (fun _ => ?_) (fun _ => ?_) <;> (repeat ((repeat1' (first | simp -implicitDefEqProofs -dsimp only [go_sem, *] | simp -dsimp (disch := omega) only [wrap_i64])); repeat (with_reducible refine sideA ?_)))))
 all_goals
   refine WeakR.pick [0, 1, 2] (by decide) (fun j hj => by have hj' : j = 0 ∨ j = 1 ∨ j = 2 := (by omega); rcases hj' with rfl | rfl | rfl <;> rfl) (.inl (by first | rfl | (simp [ren, archB, *]; done))) ?_
   simp [pickH, pickB, ren, pickF, posOf, map_ren_rows, Watch.oc, archW, z5, *]
   try omega
theorem Watch.leT {h : Hp} {w : Watch} {i0 i1 n : Nat} {z : List V} (hn : n = w.Shocks.length) (h0 : h[i0]? = some (some (rows Post.cs w.Posts))) (h1 : h[i1]? = some (some (rows Shock.cs w.Shocks ++ z))) : LeV (ren (snapR h 3) 3 (.agg [.int .i64 w.Now, .osl i0 0 w.Posts.length 3, .osl i1 0 n 5, .int .i64 w.Next, .int .i64 w.Archived])) w.v := by
 subst hn
 refine .inl ?_
 have e : ∀ y : List V, (rows Shock.cs w.Shocks ++ y).take (w.Shocks.length * 5) = rows Shock.cs w.Shocks := fun y => List.take_left' (rows_len5 _)
 simp only [Watch.v, ren, List.map_cons, List.map_nil, snapR, h0, h1, map_ren_rows, List.drop_zero, take_rows, List.map_append, e]
def makeI (w : Watch) (k n v : Int) : Watch := if k = 1 then ⟨w.Now + (if 1000000 < v then 1000000 else v), w.Posts, w.Shocks, w.Next, w.Archived⟩ else makeW w k n v
theorem wstep1_ok (w : Watch) (n v : Int) (hw : wB w = true) (hv : 1 ≤ v) : Ctr Try.prog 75 [w.v, .agg [.int .i64 1, .int .i64 n, .int .i64 v]] [] (.tup [(makeI w 1 n v).o 0 1, .bool (doneW w 1 n v)]) [some (rows Post.cs w.Posts), some (rows Shock.cs w.Shocks)] := by
 have W := wB_ok hw
 have pl := W.plen
 have sl := W.slen
 have wn := W.now
 have hw1 : IntKind.i64.wrap (1000000 - w.Now) = 1000000 - w.Now := wrap_i64 (by omega) (by omega)
 have hw2 : IntKind.i64.wrap (w.Now + (if 1000000 < v then 1000000 else v)) = w.Now + (if 1000000 < v then 1000000 else v) := by split <;> exact wrap_i64 (by omega) (by omega)
 have hgood := iIsWatch_ok (makeI w 1 n v) (by simp [makeI]; omega) (by simp [makeI]; omega)
 have e2 : doneW w 1 n v = (decide (v ≤ 1000000 - w.Now) && wB (makeI w 1 n v)) := by
   by_cases h : v ≤ 1000000 - w.Now
   · have h2 : ¬ 1000000 < v := by omega
     simp [doneW, makeB, makeW, makeI, h, h2]
   · simp [doneW, makeB, h]
 have e1 : makeI w 1 n v = ⟨w.Now + (if 1000000 < v then 1000000 else v), w.Posts, w.Shocks, w.Next, w.Archived⟩ := by simp [makeI]
 rw [e2]
 rw [e1] at hgood ⊢
 simp only [Watch.v] at hgood
 refine Ctr.intro Try.mixed Try.func75 rfl Try.okF75 ?_
 simp -implicitDefEqProofs -dsimp only [go_sem, Try.ntmps75, Try.results75]
 simp -implicitDefEqProofs -dsimp only [go_sem, Watch.v]
 (first | refine callT.at (copiedWatch_ok w (by omega) (by omega)) ⟨(by first | exact leA | exact Watch.le rfl rfl | exact Watch.leT rfl rfl rfl), trivial⟩ ?_ | refine callS.at (copiedWatch_ok w (by omega) (by omega)) ⟨(by first | exact leA | exact Watch.le rfl rfl | exact Watch.leT rfl rfl rfl), trivial⟩ ?_)
 (repeat ((repeat1' (first | simp -implicitDefEqProofs -dsimp only [go_sem, Watch.o, hw1, hw2] | simp -dsimp (disch := omega) only [wrap_i64])); repeat (with_reducible refine sideA ?_)))
 refine guardT.splitT (fun g => ?_) (fun g => ?_) <;> (repeat ((repeat1' (first | simp -implicitDefEqProofs -dsimp only [go_sem, g] | simp -dsimp (disch := omega) only [wrap_i64])); repeat (with_reducible refine sideA ?_)))
 · skip
   (first | refine callT.at (hgood) ⟨(by first | exact leA | exact Watch.le rfl rfl | exact Watch.leT rfl rfl rfl), trivial⟩ ?_ | refine callS.at (hgood) ⟨(by first | exact leA | exact Watch.le rfl rfl | exact Watch.leT rfl rfl rfl), trivial⟩ ?_)
   (repeat ((repeat1' (first | simp -implicitDefEqProofs -dsimp only [go_sem, g] | simp -dsimp (disch := omega) only [wrap_i64])); repeat (with_reducible refine sideA ?_)))
   refine WeakR.pick [3, 4] (by decide) (fun j hj => by omega) (.inl ?_) ?_
   · first | rfl | (simp [ren, pickF, posOf, Watch.o, g]; done)
   · simp only [pickH, List.map_cons, List.map_nil, pickB, List.getElem?_cons_zero, List.getElem?_cons_succ, map_ren_rows]
 · skip
   refine WeakR.pick [3, 4] (by decide) (fun j hj => by omega) (.inl ?_) ?_
   · first | rfl | (simp [ren, pickF, posOf, Watch.o, g]; done)
   · simp only [pickH, List.map_cons, List.map_nil, pickB, List.getElem?_cons_zero, List.getElem?_cons_succ, map_ren_rows]
theorem wstep2_ok (w : Watch) (k n v : Int) (hk : k = 2 ∨ k = 3) (hw : wB w = true) (hs : stepWB w k n v = true) : Ctr Try.prog 75 [w.v, .agg [.int .i64 k, .int .i64 n, .int .i64 v]] [] (.tup [(makeI w k n v).o 0 1, .bool (doneW w k n v)]) [some (rows Post.cs (makeI w k n v).Posts), some (rows Shock.cs w.Shocks)] := by
 have W := wB_ok hw
 have pl := W.plen
 have sl := W.slen
 obtain ⟨i, hi, hix, hin⟩ : ∃ i, ∃ h : i < w.Posts.length, idxI (postIs n) w.Posts = (i : Int) ∧ postIs n w.Posts[i] = true := by
   have : decide (0 ≤ idxI (postIs n) w.Posts) = true := by
     rcases hk with rfl | rfl <;> simp [stepWB] at hs <;> simp [hs.1]
   exact idxI_get this
 have hst : w.Posts[i].Station = n := by simpa [postIs] using hin
 have hp : pAt w n = i := by simp [pAt, hix]
 have e1 : makeI w k n v = ⟨w.Now, w.Posts.set i ⟨n, decide (k = 3), w.Now⟩, w.Shocks, w.Next, w.Archived⟩ := by
   rcases hk with rfl | rfl <;> simp [makeI, makeW, hp]
 have e2 : doneW w k n v = (w.Posts[i].Up != decide (k = 3) && wB ⟨w.Now, w.Posts.set i ⟨n, decide (k = 3), w.Now⟩, w.Shocks, w.Next, w.Archived⟩) := by
   rcases hk with rfl | rfl <;> simp [doneW, makeB, makeW, hp, poAt_get hi]
 have hr := rows_at Post.csl hi
 have hlen : ∀ p, (w.Posts.set i p).length = w.Posts.length := fun p => by simp
 have s1 : ∀ b, splice (rows Post.cs w.Posts) (i * 3 + 1) [.bool b] = rows Post.cs (w.Posts.set i ⟨n, b, w.Posts[i].Since⟩) := fun b => splice_cell (cs := Post.cs) Post.csl hi (by omega) (by rw [Post.cs, hst.symm]; rfl)
 have s2 : ∀ b, splice (rows Post.cs (w.Posts.set i ⟨n, b, w.Posts[i].Since⟩)) (i * 3 + 2) [.int .i64 w.Now] = rows Post.cs (w.Posts.set i ⟨n, b, w.Now⟩) := fun b => by
   have h := splice_cell (cs := Post.cs) Post.csl (L := w.Posts.set i ⟨n, b, w.Posts[i].Since⟩) (j := i) (f := 2) (v := .int .i64 w.Now) (x := ⟨n, b, w.Now⟩) (by simpa using hi) (by omega) (by simp; rfl)
   rwa [List.set_set] at h
 have hrl : ∀ L : List Post, (rows Post.cs L).length = L.length * 3 := fun L => rows_len Post.csl L
 have hgood := iIsWatch_ok ⟨w.Now, w.Posts.set i ⟨n, decide (k = 3), w.Now⟩, w.Shocks, w.Next, w.Archived⟩ (by simp; omega) (by simp; omega)
 have hroom : i * 3 + 3 ≤ w.Posts.length * 3 := by omega
 rw [e1, e2]
 simp only [Watch.v, hlen] at hgood
 simp only [Watch.o, hlen]
 rcases hk with rfl | rfl
 · have hd : decide ((2 : Int) = 3) = false := rfl
   rw [hd] at hgood ⊢
   refine Ctr.intro Try.mixed Try.func75 rfl Try.okF75 ?_
   simp -implicitDefEqProofs -dsimp only [go_sem, Try.ntmps75, Try.results75]
   simp -implicitDefEqProofs -dsimp only [go_sem, Watch.v]
   (first | refine callT.at (copiedWatch_ok w (by omega) (by omega)) ⟨(by first | exact leA | exact Watch.le rfl rfl | exact Watch.leT rfl rfl rfl), trivial⟩ ?_ | refine callS.at (copiedWatch_ok w (by omega) (by omega)) ⟨(by first | exact leA | exact Watch.le rfl rfl | exact Watch.leT rfl rfl rfl), trivial⟩ ?_)
   (repeat ((repeat1' (first | simp -implicitDefEqProofs -dsimp only [go_sem, Watch.o] | simp -dsimp (disch := omega) only [wrap_i64])); repeat (with_reducible refine sideA ?_)))
   (first | refine callT.at (postAt_ok w n (by omega)) ⟨(by first | exact leA | exact Watch.le rfl rfl | exact Watch.leT rfl rfl rfl), (by first | exact leA | exact Watch.le rfl rfl | exact Watch.leT rfl rfl rfl), trivial⟩ ?_ | refine callS.at (postAt_ok w n (by omega)) ⟨(by first | exact leA | exact Watch.le rfl rfl | exact Watch.leT rfl rfl rfl), (by first | exact leA | exact Watch.le rfl rfl | exact Watch.leT rfl rfl rfl), trivial⟩ ?_)
   rw [hix]
   (repeat ((repeat1' (first | simp -implicitDefEqProofs -dsimp only [go_sem, hr, Post.cs] | simp -dsimp (disch := omega) only [wrap_i64])); repeat (with_reducible refine sideA ?_)))
   refine lateT.path [true, true, true, true, true, true, true, true, true, true, true, true, true, false, false, false, false] [false, false, false, false, false, true, false, false, false, true, true, false, false, false, false, false, false] 1 [3] (by kernel_rfl) ?_
   (repeat ((repeat1' (first | simp -implicitDefEqProofs -dsimp only [go_sem, hr, Post.cs, s1, s2, hrl, hlen, Int.toNat_natCast] | simp -dsimp (disch := omega) only [wrap_i64])); repeat (with_reducible refine sideA ?_)))
   refine guardT.splitT (fun g => ?_) (fun g => ?_) <;> (repeat ((repeat1' (first | simp -implicitDefEqProofs -dsimp only [go_sem, g, s1, s2] | simp -dsimp (disch := omega) only [wrap_i64])); repeat (with_reducible refine sideA ?_)))
   · skip
     (first | refine callT.at (hgood) ⟨(by first | exact leA | exact Watch.le rfl rfl | exact Watch.leT rfl rfl rfl), trivial⟩ ?_ | refine callS.at (hgood) ⟨(by first | exact leA | exact Watch.le rfl rfl | exact Watch.leT rfl rfl rfl), trivial⟩ ?_)
     (repeat ((repeat1' (first | simp -implicitDefEqProofs -dsimp only [go_sem, g] | simp -dsimp (disch := omega) only [wrap_i64])); repeat (with_reducible refine sideA ?_)))
     simp at g
     refine WeakR.pick [3, 4] (by decide) (fun j hj => by omega) (.inl ?_) ?_
     · first | rfl | (simp [ren, pickF, posOf, Watch.o, g]; done)
     · simp only [pickH, List.map_cons, List.map_nil, pickB, List.getElem?_cons_zero, List.getElem?_cons_succ, map_ren_rows]
   · skip
     simp at g
     refine WeakR.pick [3, 4] (by decide) (fun j hj => by omega) (.inl ?_) ?_
     · first | rfl | (simp [ren, pickF, posOf, Watch.o, g]; done)
     · simp only [pickH, List.map_cons, List.map_nil, pickB, List.getElem?_cons_zero, List.getElem?_cons_succ, map_ren_rows]
 · have hd : decide ((3 : Int) = 3) = true := rfl
   rw [hd] at hgood ⊢
   refine Ctr.intro Try.mixed Try.func75 rfl Try.okF75 ?_
   simp -implicitDefEqProofs -dsimp only [go_sem, Try.ntmps75, Try.results75]
   simp -implicitDefEqProofs -dsimp only [go_sem, Watch.v]
   (first | refine callT.at (copiedWatch_ok w (by omega) (by omega)) ⟨(by first | exact leA | exact Watch.le rfl rfl | exact Watch.leT rfl rfl rfl), trivial⟩ ?_ | refine callS.at (copiedWatch_ok w (by omega) (by omega)) ⟨(by first | exact leA | exact Watch.le rfl rfl | exact Watch.leT rfl rfl rfl), trivial⟩ ?_)
   (repeat ((repeat1' (first | simp -implicitDefEqProofs -dsimp only [go_sem, Watch.o] | simp -dsimp (disch := omega) only [wrap_i64])); repeat (with_reducible refine sideA ?_)))
   (first | refine callT.at (postAt_ok w n (by omega)) ⟨(by first | exact leA | exact Watch.le rfl rfl | exact Watch.leT rfl rfl rfl), (by first | exact leA | exact Watch.le rfl rfl | exact Watch.leT rfl rfl rfl), trivial⟩ ?_ | refine callS.at (postAt_ok w n (by omega)) ⟨(by first | exact leA | exact Watch.le rfl rfl | exact Watch.leT rfl rfl rfl), (by first | exact leA | exact Watch.le rfl rfl | exact Watch.leT rfl rfl rfl), trivial⟩ ?_)
   rw [hix]
   (repeat ((repeat1' (first | simp -implicitDefEqProofs -dsimp only [go_sem, hr, Post.cs] | simp -dsimp (disch := omega) only [wrap_i64])); repeat (with_reducible refine sideA ?_)))
   refine lateT.path [true, true, true, true, true, true, true, true, true, true, true, true, true, false, false, false, false] [false, false, false, false, false, true, false, false, false, true, true, false, false, false, false, false, false] 1 [3] (by kernel_rfl) ?_
   (repeat ((repeat1' (first | simp -implicitDefEqProofs -dsimp only [go_sem, hr, Post.cs, s1, s2, hrl, hlen, Int.toNat_natCast] | simp -dsimp (disch := omega) only [wrap_i64])); repeat (with_reducible refine sideA ?_)))
   refine guardT.splitT (fun g => ?_) (fun g => ?_) <;> (repeat ((repeat1' (first | simp -implicitDefEqProofs -dsimp only [go_sem, g, s1, s2] | simp -dsimp (disch := omega) only [wrap_i64])); repeat (with_reducible refine sideA ?_)))
   · skip
     (first | refine callT.at (hgood) ⟨(by first | exact leA | exact Watch.le rfl rfl | exact Watch.leT rfl rfl rfl), trivial⟩ ?_ | refine callS.at (hgood) ⟨(by first | exact leA | exact Watch.le rfl rfl | exact Watch.leT rfl rfl rfl), trivial⟩ ?_)
     (repeat ((repeat1' (first | simp -implicitDefEqProofs -dsimp only [go_sem, g] | simp -dsimp (disch := omega) only [wrap_i64])); repeat (with_reducible refine sideA ?_)))
     simp at g
     refine WeakR.pick [3, 4] (by decide) (fun j hj => by omega) (.inl ?_) ?_
     · first | rfl | (simp [ren, pickF, posOf, Watch.o, g]; done)
     · simp only [pickH, List.map_cons, List.map_nil, pickB, List.getElem?_cons_zero, List.getElem?_cons_succ, map_ren_rows]
   · skip
     simp at g
     refine WeakR.pick [3, 4] (by decide) (fun j hj => by omega) (.inl ?_) ?_
     · first | rfl | (simp [ren, pickF, posOf, Watch.o, g]; done)
     · simp only [pickH, List.map_cons, List.map_nil, pickB, List.getElem?_cons_zero, List.getElem?_cons_succ, map_ren_rows]
theorem upTo_upN (w : Watch) : (upTo w.Posts w.Posts.length).length = upN w w.Posts.length := by simp [upTo, upN]
theorem wstep4_ok (w : Watch) (n v : Int) (hw : wB w = true) : Ctr Try.prog 75 [w.v, .agg [.int .i64 4, .int .i64 n, .int .i64 v]] [] (.tup [(makeI w 4 n v).o 0 1, .bool (doneW w 4 n v)]) [some (rows Post.cs w.Posts), some (rows Shock.cs (makeI w 4 n v).Shocks)] := by
 have W := wB_ok hw
 have pl := W.plen
 have sl := W.slen
 have wn := W.next
 have hwn : IntKind.i64.wrap (w.Next + 1) = w.Next + 1 := wrap_i64 (by omega) (by omega)
 obtain ⟨x, hx⟩ : ∃ x : Shock, x = ⟨w.Next, 0, (upN w w.Posts.length : Int), 0, w.Now⟩ := ⟨_, rfl⟩
 have e1 : makeI w 4 n v = ⟨w.Now, w.Posts, w.Shocks ++ [x], w.Next + 1, w.Archived⟩ := by simp [makeI, makeW, hx]
 have e2 : doneW w 4 n v = wB ⟨w.Now, w.Posts, w.Shocks ++ [x], w.Next + 1, w.Archived⟩ := by simp [doneW, makeB, makeW, hx]
 have hsn : rows Shock.cs w.Shocks ++ [.int .i64 w.Next, .int .i64 0, .int .i64 (upN w w.Posts.length : Int), .int .i64 0, .int .i64 w.Now] = rows Shock.cs (w.Shocks ++ [x]) := by
   rw [hx]
   exact rows_snoc (cs := Shock.cs) w.Shocks ⟨w.Next, 0, (upN w w.Posts.length : Int), 0, w.Now⟩
 have hln : w.Shocks.length + 1 = (w.Shocks ++ [x]).length := by simp
 have hup := watchUp_ok w (by omega)
 rw [upTo_upN] at hup
 have hgood := iIsWatch_ok ⟨w.Now, w.Posts, w.Shocks ++ [x], w.Next + 1, w.Archived⟩ (by simp; omega) (by simp; omega)
 rw [e1, e2]
 refine Ctr.intro Try.mixed Try.func75 rfl Try.okF75 ?_
 simp -implicitDefEqProofs -dsimp only [go_sem, Try.ntmps75, Try.results75]
 simp -implicitDefEqProofs -dsimp only [go_sem, Watch.v]
 (first | refine callT.at (copiedWatch_ok w (by omega) (by omega)) ⟨(by first | exact leA | exact Watch.le rfl rfl | exact Watch.leT rfl rfl rfl), trivial⟩ ?_ | refine callS.at (copiedWatch_ok w (by omega) (by omega)) ⟨(by first | exact leA | exact Watch.le rfl rfl | exact Watch.leT rfl rfl rfl), trivial⟩ ?_)
 (repeat ((repeat1' (first | simp -implicitDefEqProofs -dsimp only [go_sem, Watch.o] | simp -dsimp (disch := omega) only [wrap_i64])); repeat (with_reducible refine sideA ?_)))
 (first | refine callT.at (hup) ⟨(by first | exact leA | exact Watch.le rfl rfl | exact Watch.leT rfl rfl rfl), trivial⟩ ?_ | refine callS.at (hup) ⟨(by first | exact leA | exact Watch.le rfl rfl | exact Watch.leT rfl rfl rfl), trivial⟩ ?_)
 (repeat ((repeat1' (first | simp -implicitDefEqProofs -dsimp only [go_sem, hwn, hsn, hln] | simp -dsimp (disch := omega) only [wrap_i64])); repeat (with_reducible refine sideA ?_)))
 (first | refine callT.at (hgood) ⟨(by first | exact leA | exact Watch.le rfl rfl | exact Watch.leT rfl rfl rfl), trivial⟩ ?_ | refine callS.at (hgood) ⟨(by first | exact leA | exact Watch.le rfl rfl | exact Watch.leT rfl rfl rfl), trivial⟩ ?_)
 (repeat ((repeat1' (first | simp -implicitDefEqProofs -dsimp only [go_sem, hsn] | simp -dsimp (disch := omega) only [wrap_i64])); repeat (with_reducible refine sideA ?_)))
 refine WeakR.pick [3, 4] (by decide) (fun j hj => by omega) (.inl ?_) ?_
 · first | rfl | (simp [ren, pickF, posOf, Watch.o]; done)
 · simp only [pickH, List.map_cons, List.map_nil, pickB, List.getElem?_cons_zero, List.getElem?_cons_succ, map_ren_rows]
theorem wstep5_ok (w : Watch) (k n v : Int) (hk : k = 5 ∨ k = 6 ∨ k = 7) (hw : wB w = true) (hs : stepWB w k n v = true) (hv : -100 ≤ v ∧ v ≤ 100) : Ctr Try.prog 75 [w.v, .agg [.int .i64 k, .int .i64 n, .int .i64 v]] [] (.tup [(makeI w k n v).o 0 1, .bool (doneW w k n v)]) [some (rows Post.cs w.Posts), some (rows Shock.cs (makeI w k n v).Shocks)] := by
 have W := wB_ok hw
 have pl := W.plen
 have sl := W.slen
 obtain ⟨i, hi, hix, hin⟩ : ∃ i, ∃ h : i < w.Shocks.length, idxI (shockIs n) w.Shocks = (i : Int) ∧ shockIs n w.Shocks[i] = true := by
   have : decide (0 ≤ idxI (shockIs n) w.Shocks) = true := by
     rcases hk with rfl | rfl | rfl <;> simp [stepWB] at hs <;> simp [hs]
   exact idxI_get this
 have hp : sAt w n = i := by simp [sAt, hix]
 have hsh := shAt_get hi
 have e1 : makeI w k n v = ⟨w.Now, w.Posts, w.Shocks.set i (chgX w.Shocks[i] k v), w.Next, w.Archived⟩ := by
   rcases hk with rfl | rfl | rfl <;> simp [makeI, makeW, hp, hsh]
 have e2 : doneW w k n v = (chgB w.Shocks[i] k && wB ⟨w.Now, w.Posts, w.Shocks.set i (chgX w.Shocks[i] k v), w.Next, w.Archived⟩) := by
   rcases hk with rfl | rfl | rfl <;> simp [doneW, makeB, makeW, hp, hsh]
 have htr := treat5_ok w i k n v hk hw hi hv
 have hlen : ∀ p, (w.Shocks.set i p).length = w.Shocks.length := fun p => by simp
 have hgood := iIsWatch_ok ⟨w.Now, w.Posts, w.Shocks.set i (chgX w.Shocks[i] k v), w.Next, w.Archived⟩ (by simp; omega) (by simp; omega)
 generalize chgX w.Shocks[i] k v = y at e1 e2 htr hgood
 have hg : grown [some (w.oc 1 2), some (rows Post.cs w.Posts), some (rows Shock.cs w.Shocks)] [some (w.oc 1 2), some (rows Post.cs w.Posts), some (rows Shock.cs (w.Shocks.set i y))] := by
   refine ⟨⟨rfl, rfl⟩, ⟨rfl, rfl⟩, ⟨by rw [rows_len5, rows_len5, hlen], by rw [isMb_rows, isMb_rows]⟩, trivial⟩
 rw [e1, e2]
 clear e1 e2
 simp only [Watch.v, hlen] at hgood
 simp only [Watch.o, hlen]
 generalize chgB w.Shocks[i] k = b at *
 rcases hk with rfl | rfl | rfl
 · skip
   refine Ctr.intro Try.mixed Try.func75 rfl Try.okF75 ?_
   simp -implicitDefEqProofs -dsimp only [go_sem, Try.ntmps75, Try.results75]
   simp -implicitDefEqProofs -dsimp only [go_sem, Watch.v]
   (first | refine callT.at (copiedWatch_ok w (by omega) (by omega)) ⟨(by first | exact leA | exact Watch.le rfl rfl | exact Watch.leT rfl rfl rfl), trivial⟩ ?_ | refine callS.at (copiedWatch_ok w (by omega) (by omega)) ⟨(by first | exact leA | exact Watch.le rfl rfl | exact Watch.leT rfl rfl rfl), trivial⟩ ?_)
   (repeat ((repeat1' (first | simp -implicitDefEqProofs -dsimp only [go_sem, Watch.o] | simp -dsimp (disch := omega) only [wrap_i64])); repeat (with_reducible refine sideA ?_)))
   (first | refine callT.at (shockAt_ok w n (by omega)) ⟨(by first | exact leA | exact Watch.le rfl rfl | exact Watch.leT rfl rfl rfl), (by first | exact leA | exact Watch.le rfl rfl | exact Watch.leT rfl rfl rfl), trivial⟩ ?_ | refine callS.at (shockAt_ok w n (by omega)) ⟨(by first | exact leA | exact Watch.le rfl rfl | exact Watch.leT rfl rfl rfl), (by first | exact leA | exact Watch.le rfl rfl | exact Watch.leT rfl rfl rfl), trivial⟩ ?_)
   rw [hix]
   (repeat ((repeat1' (first | simp -implicitDefEqProofs -dsimp only [go_sem] | simp -dsimp (disch := omega) only [wrap_i64])); repeat (with_reducible refine sideA ?_)))
   refine callS.lend [5, 3, 4] false htr (by decide) ⟨.inl rfl, .inl rfl, .inl rfl, trivial⟩ (by simp [pickH, pickB, ren, pickF, posOf, map_ren_rows, Watch.oc]) hg (.inl rfl) ?_
   (repeat ((repeat1' (first | simp -implicitDefEqProofs -dsimp only [go_sem, Watch.oc] | simp -dsimp (disch := omega) only [wrap_i64])); repeat (with_reducible refine sideA ?_)))
   refine guardT.splitT (fun g => ?_) (fun g => ?_) <;> (repeat ((repeat1' (first | simp -implicitDefEqProofs -dsimp only [go_sem, g] | simp -dsimp (disch := omega) only [wrap_i64])); repeat (with_reducible refine sideA ?_)))
   · skip
     (first | refine callT.at (hgood) ⟨(by first | exact leA | exact Watch.le rfl rfl | exact Watch.leT rfl rfl rfl), trivial⟩ ?_ | refine callS.at (hgood) ⟨(by first | exact leA | exact Watch.le rfl rfl | exact Watch.leT rfl rfl rfl), trivial⟩ ?_)
     (repeat ((repeat1' (first | simp -implicitDefEqProofs -dsimp only [go_sem, g] | simp -dsimp (disch := omega) only [wrap_i64])); repeat (with_reducible refine sideA ?_)))
     refine WeakR.pick [3, 4] (by decide) (fun j hj => by omega) (.inl ?_) ?_
     · first | rfl | (simp [ren, pickF, posOf, Watch.o, g]; done)
     · simp only [pickH, List.map_cons, List.map_nil, pickB, List.getElem?_cons_zero, List.getElem?_cons_succ, map_ren_rows]
   · skip
     refine WeakR.pick [3, 4] (by decide) (fun j hj => by omega) (.inl ?_) ?_
     · first | rfl | (simp [ren, pickF, posOf, Watch.o, g]; done)
     · simp only [pickH, List.map_cons, List.map_nil, pickB, List.getElem?_cons_zero, List.getElem?_cons_succ, map_ren_rows]
 · skip
   refine Ctr.intro Try.mixed Try.func75 rfl Try.okF75 ?_
   simp -implicitDefEqProofs -dsimp only [go_sem, Try.ntmps75, Try.results75]
   simp -implicitDefEqProofs -dsimp only [go_sem, Watch.v]
   (first | refine callT.at (copiedWatch_ok w (by omega) (by omega)) ⟨(by first | exact leA | exact Watch.le rfl rfl | exact Watch.leT rfl rfl rfl), trivial⟩ ?_ | refine callS.at (copiedWatch_ok w (by omega) (by omega)) ⟨(by first | exact leA | exact Watch.le rfl rfl | exact Watch.leT rfl rfl rfl), trivial⟩ ?_)
   (repeat ((repeat1' (first | simp -implicitDefEqProofs -dsimp only [go_sem, Watch.o] | simp -dsimp (disch := omega) only [wrap_i64])); repeat (with_reducible refine sideA ?_)))
   (first | refine callT.at (shockAt_ok w n (by omega)) ⟨(by first | exact leA | exact Watch.le rfl rfl | exact Watch.leT rfl rfl rfl), (by first | exact leA | exact Watch.le rfl rfl | exact Watch.leT rfl rfl rfl), trivial⟩ ?_ | refine callS.at (shockAt_ok w n (by omega)) ⟨(by first | exact leA | exact Watch.le rfl rfl | exact Watch.leT rfl rfl rfl), (by first | exact leA | exact Watch.le rfl rfl | exact Watch.leT rfl rfl rfl), trivial⟩ ?_)
   rw [hix]
   (repeat ((repeat1' (first | simp -implicitDefEqProofs -dsimp only [go_sem] | simp -dsimp (disch := omega) only [wrap_i64])); repeat (with_reducible refine sideA ?_)))
   refine callS.lend [5, 3, 4] false htr (by decide) ⟨.inl rfl, .inl rfl, .inl rfl, trivial⟩ (by simp [pickH, pickB, ren, pickF, posOf, map_ren_rows, Watch.oc]) hg (.inl rfl) ?_
   (repeat ((repeat1' (first | simp -implicitDefEqProofs -dsimp only [go_sem, Watch.oc] | simp -dsimp (disch := omega) only [wrap_i64])); repeat (with_reducible refine sideA ?_)))
   refine guardT.splitT (fun g => ?_) (fun g => ?_) <;> (repeat ((repeat1' (first | simp -implicitDefEqProofs -dsimp only [go_sem, g] | simp -dsimp (disch := omega) only [wrap_i64])); repeat (with_reducible refine sideA ?_)))
   · skip
     (first | refine callT.at (hgood) ⟨(by first | exact leA | exact Watch.le rfl rfl | exact Watch.leT rfl rfl rfl), trivial⟩ ?_ | refine callS.at (hgood) ⟨(by first | exact leA | exact Watch.le rfl rfl | exact Watch.leT rfl rfl rfl), trivial⟩ ?_)
     (repeat ((repeat1' (first | simp -implicitDefEqProofs -dsimp only [go_sem, g] | simp -dsimp (disch := omega) only [wrap_i64])); repeat (with_reducible refine sideA ?_)))
     refine WeakR.pick [3, 4] (by decide) (fun j hj => by omega) (.inl ?_) ?_
     · first | rfl | (simp [ren, pickF, posOf, Watch.o, g]; done)
     · simp only [pickH, List.map_cons, List.map_nil, pickB, List.getElem?_cons_zero, List.getElem?_cons_succ, map_ren_rows]
   · skip
     refine WeakR.pick [3, 4] (by decide) (fun j hj => by omega) (.inl ?_) ?_
     · first | rfl | (simp [ren, pickF, posOf, Watch.o, g]; done)
     · simp only [pickH, List.map_cons, List.map_nil, pickB, List.getElem?_cons_zero, List.getElem?_cons_succ, map_ren_rows]
 · skip
   refine Ctr.intro Try.mixed Try.func75 rfl Try.okF75 ?_
   simp -implicitDefEqProofs -dsimp only [go_sem, Try.ntmps75, Try.results75]
   simp -implicitDefEqProofs -dsimp only [go_sem, Watch.v]
   (first | refine callT.at (copiedWatch_ok w (by omega) (by omega)) ⟨(by first | exact leA | exact Watch.le rfl rfl | exact Watch.leT rfl rfl rfl), trivial⟩ ?_ | refine callS.at (copiedWatch_ok w (by omega) (by omega)) ⟨(by first | exact leA | exact Watch.le rfl rfl | exact Watch.leT rfl rfl rfl), trivial⟩ ?_)
   (repeat ((repeat1' (first | simp -implicitDefEqProofs -dsimp only [go_sem, Watch.o] | simp -dsimp (disch := omega) only [wrap_i64])); repeat (with_reducible refine sideA ?_)))
   (first | refine callT.at (shockAt_ok w n (by omega)) ⟨(by first | exact leA | exact Watch.le rfl rfl | exact Watch.leT rfl rfl rfl), (by first | exact leA | exact Watch.le rfl rfl | exact Watch.leT rfl rfl rfl), trivial⟩ ?_ | refine callS.at (shockAt_ok w n (by omega)) ⟨(by first | exact leA | exact Watch.le rfl rfl | exact Watch.leT rfl rfl rfl), (by first | exact leA | exact Watch.le rfl rfl | exact Watch.leT rfl rfl rfl), trivial⟩ ?_)
   rw [hix]
   (repeat ((repeat1' (first | simp -implicitDefEqProofs -dsimp only [go_sem] | simp -dsimp (disch := omega) only [wrap_i64])); repeat (with_reducible refine sideA ?_)))
   refine callS.lend [5, 3, 4] false htr (by decide) ⟨.inl rfl, .inl rfl, .inl rfl, trivial⟩ (by simp [pickH, pickB, ren, pickF, posOf, map_ren_rows, Watch.oc]) hg (.inl rfl) ?_
   (repeat ((repeat1' (first | simp -implicitDefEqProofs -dsimp only [go_sem, Watch.oc] | simp -dsimp (disch := omega) only [wrap_i64])); repeat (with_reducible refine sideA ?_)))
   refine guardT.splitT (fun g => ?_) (fun g => ?_) <;> (repeat ((repeat1' (first | simp -implicitDefEqProofs -dsimp only [go_sem, g] | simp -dsimp (disch := omega) only [wrap_i64])); repeat (with_reducible refine sideA ?_)))
   · skip
     (first | refine callT.at (hgood) ⟨(by first | exact leA | exact Watch.le rfl rfl | exact Watch.leT rfl rfl rfl), trivial⟩ ?_ | refine callS.at (hgood) ⟨(by first | exact leA | exact Watch.le rfl rfl | exact Watch.leT rfl rfl rfl), trivial⟩ ?_)
     (repeat ((repeat1' (first | simp -implicitDefEqProofs -dsimp only [go_sem, g] | simp -dsimp (disch := omega) only [wrap_i64])); repeat (with_reducible refine sideA ?_)))
     refine WeakR.pick [3, 4] (by decide) (fun j hj => by omega) (.inl ?_) ?_
     · first | rfl | (simp [ren, pickF, posOf, Watch.o, g]; done)
     · simp only [pickH, List.map_cons, List.map_nil, pickB, List.getElem?_cons_zero, List.getElem?_cons_succ, map_ren_rows]
   · skip
     refine WeakR.pick [3, 4] (by decide) (fun j hj => by omega) (.inl ?_) ?_
     · first | rfl | (simp [ren, pickF, posOf, Watch.o, g]; done)
     · simp only [pickH, List.map_cons, List.map_nil, pickB, List.getElem?_cons_zero, List.getElem?_cons_succ, map_ren_rows]
theorem wstep8_ok (w : Watch) (n v : Int) (hw : wB w = true) (hs : stepWB w 8 n v = true) : Ctr Try.prog 75 [w.v, .agg [.int .i64 8, .int .i64 n, .int .i64 v]] [] (.tup [(makeI w 8 n v).o 0 1, .bool (doneW w 8 n v)]) [some (rows Post.cs w.Posts), some (rows Shock.cs (makeI w 8 n v).Shocks)] := by
 have W := wB_ok hw
 have pl := W.plen
 have sl := W.slen
 obtain ⟨i, hi, hix, hin⟩ : ∃ i, ∃ h : i < w.Shocks.length, idxI (shockIs n) w.Shocks = (i : Int) ∧ shockIs n w.Shocks[i] = true := by
   have : decide (0 ≤ idxI (shockIs n) w.Shocks) = true := by
     simp [stepWB] at hs
     simp [hs.1]
   exact idxI_get this
 have hp : sAt w n = i := by simp [sAt, hix]
 have hsh := shAt_get hi
 have e1 : makeI w 8 n v = archW w i := by simp [makeI, makeW, archW, hp]
 have e2 : doneW w 8 n v = (archB w w.Shocks[i] && wB (archW w i)) := by simp [doneW, makeB, makeW, archW, hp, hsh]
 have hgood := iIsWatch_ok (archW w i) (by simp [archW]; omega) (by simp [archW]; omega)
 have htr := treat8_ok w i n v hw hi
 have e3 : (archW w i).Shocks = w.Shocks.take i ++ w.Shocks.drop (i + 1) := rfl
 have hall : (rows Shock.cs (w.Shocks.take i ++ w.Shocks.drop (i + 1)) ++ z5).all isCell = true := by
   rw [List.all_append, rows_cell]; rfl
 have e : (w.Shocks.take i ++ w.Shocks.drop (i + 1)).length = w.Shocks.length - 1 := by simp; omega
 have hg : grown [some (w.oc 1 2), some (rows Post.cs w.Posts), some (rows Shock.cs w.Shocks)] [some ((archW w i).oc 1 2), some (rows Post.cs w.Posts), some (rows Shock.cs (w.Shocks.take i ++ w.Shocks.drop (i + 1)) ++ z5)] := by
   refine ⟨⟨rfl, rfl⟩, ⟨rfl, rfl⟩, ⟨?_, by rw [isMb_cells hall, isMb_rows]⟩, trivial⟩
   rw [List.length_append, rows_len5, rows_len5, e]
   show _ = (w.Shocks.length - 1) * 5 + 5
   omega
 rw [e1, e2, e3]
 refine Ctr.intro Try.mixed Try.func75 rfl Try.okF75 ?_
 simp -implicitDefEqProofs -dsimp only [go_sem, Try.ntmps75, Try.results75]
 simp -implicitDefEqProofs -dsimp only [go_sem, Watch.v]
 (first | refine callT.at (copiedWatch_ok w (by omega) (by omega)) ⟨(by first | exact leA | exact Watch.le rfl rfl | exact Watch.leT rfl rfl rfl), trivial⟩ ?_ | refine callS.at (copiedWatch_ok w (by omega) (by omega)) ⟨(by first | exact leA | exact Watch.le rfl rfl | exact Watch.leT rfl rfl rfl), trivial⟩ ?_)
 (repeat ((repeat1' (first | simp -implicitDefEqProofs -dsimp only [go_sem, Watch.o] | simp -dsimp (disch := omega) only [wrap_i64])); repeat (with_reducible refine sideA ?_)))
 (first | refine callT.at (shockAt_ok w n (by omega)) ⟨(by first | exact leA | exact Watch.le rfl rfl | exact Watch.leT rfl rfl rfl), (by first | exact leA | exact Watch.le rfl rfl | exact Watch.leT rfl rfl rfl), trivial⟩ ?_ | refine callS.at (shockAt_ok w n (by omega)) ⟨(by first | exact leA | exact Watch.le rfl rfl | exact Watch.leT rfl rfl rfl), (by first | exact leA | exact Watch.le rfl rfl | exact Watch.leT rfl rfl rfl), trivial⟩ ?_)
 rw [hix]
 (repeat ((repeat1' (first | simp -implicitDefEqProofs -dsimp only [go_sem] | simp -dsimp (disch := omega) only [wrap_i64])); repeat (with_reducible refine sideA ?_)))
 refine callS.lend [5, 3, 4] false htr (by decide) ⟨.inl rfl, .inl rfl, .inl rfl, trivial⟩ (by simp [pickH, pickB, ren, pickF, posOf, map_ren_rows, Watch.oc]) hg (.inl rfl) ?_
 (repeat ((repeat1' (first | simp -implicitDefEqProofs -dsimp only [go_sem, Watch.oc, z5] | simp -dsimp (disch := omega) only [wrap_i64])); repeat (with_reducible refine sideA ?_)))
 clear hall hg
 have htk : ∀ y : List V, (rows Shock.cs (w.Shocks.take i ++ w.Shocks.drop (i + 1)) ++ y).take ((archW w i).Shocks.length * 5) = rows Shock.cs (w.Shocks.take i ++ w.Shocks.drop (i + 1)) := fun y => List.take_left' (by rw [rows_len5]; rfl)
 refine guardT.splitT (fun g => ?_) (fun g => ?_) <;> (repeat ((repeat1' (first | simp -implicitDefEqProofs -dsimp only [go_sem, g] | simp -dsimp (disch := omega) only [wrap_i64])); repeat (with_reducible refine sideA ?_)))
 · skip
   (first | refine callT.at (hgood) ⟨(by first | exact leA | exact Watch.le rfl rfl | exact Watch.leT rfl rfl rfl), trivial⟩ ?_ | refine callS.at (hgood) ⟨(by first | exact leA | exact Watch.le rfl rfl | exact Watch.leT rfl rfl rfl), trivial⟩ ?_)
   (repeat ((repeat1' (first | simp -implicitDefEqProofs -dsimp only [go_sem, g] | simp -dsimp (disch := omega) only [wrap_i64])); repeat (with_reducible refine sideA ?_)))
   refine WeakR.trim 4 ((archW w i).Shocks.length * 5) rfl (by omega) (by simp only [List.length_append, rows_len5, e3, List.length_cons, List.length_nil]; omega) (isMb_cells (by simp [rows_cell, isCell])) (by rw [htk]; exact isMb_rows _) ?_ ?_ ?_
   · simp [fits]
   · simp [fits, rows_fits, List.all_append]
   · skip
     simp only [htk, List.set_cons_zero, List.set_cons_succ]
     refine WeakR.pick [3, 4] (by decide) (fun j hj => by omega) (.inl ?_) ?_
     · first | rfl | (simp [ren, pickF, posOf, Watch.o, g]; done)
     · simp only [pickH, List.map_cons, List.map_nil, pickB, List.getElem?_cons_zero, List.getElem?_cons_succ, map_ren_rows]
 · skip
   refine WeakR.trim 4 ((archW w i).Shocks.length * 5) rfl (by omega) (by simp only [List.length_append, rows_len5, e3, List.length_cons, List.length_nil]; omega) (isMb_cells (by simp [rows_cell, isCell])) (by rw [htk]; exact isMb_rows _) ?_ ?_ ?_
   · simp [fits]
   · simp [fits, rows_fits, List.all_append]
   · skip
     simp only [htk, List.set_cons_zero, List.set_cons_succ]
     refine WeakR.pick [3, 4] (by decide) (fun j hj => by omega) (.inl ?_) ?_
     · first | rfl | (simp [ren, pickF, posOf, Watch.o, g]; done)
     · simp only [pickH, List.map_cons, List.map_nil, pickB, List.getElem?_cons_zero, List.getElem?_cons_succ, map_ren_rows]
theorem wstep_ok (w : Watch) (k n v : Int) (hw : wB w = true) (hs : stepWB w k n v = true) : Ctr Try.prog 75 [w.v, .agg [.int .i64 k, .int .i64 n, .int .i64 v]] [] (.tup [(makeI w k n v).o 0 1, .bool (doneW w k n v)]) [some (rows Post.cs (makeI w k n v).Posts), some (rows Shock.cs (makeI w k n v).Shocks)] := by
 rcases stepWB_cases hs with ⟨rfl, h1⟩ | hk | rfl | rfl | ⟨hk, h1⟩
 · have e : (makeI w 1 n v).Posts = w.Posts ∧ (makeI w 1 n v).Shocks = w.Shocks := by simp [makeI]
   rw [e.1, e.2]
   exact wstep1_ok w n v hw h1
 · have e : (makeI w k n v).Shocks = w.Shocks := by rcases hk with rfl | rfl <;> simp [makeI, makeW]
   rw [e]
   exact wstep2_ok w k n v hk hw hs
 · have e : (makeI w 4 n v).Posts = w.Posts := by simp [makeI, makeW]
   rw [e]
   exact wstep4_ok w n v hw
 · have e : (makeI w 8 n v).Posts = w.Posts := by simp [makeI, makeW]
   rw [e]
   exact wstep8_ok w n v hw hs
 · have e : (makeI w k n v).Posts = w.Posts := by rcases hk with rfl | rfl | rfl <;> simp [makeI, makeW]
   rw [e]
   exact wstep5_ok w k n v hk hw hs h1
theorem makeI_done {w : Watch} {k n v : Int} (hw : wB w = true) (h : doneW w k n v = true) : makeI w k n v = makeW w k n v := by
 unfold makeI
 split
 · rename_i h1
   subst h1
   have := (wB_ok hw).now
   have h2 : v ≤ 1000000 - w.Now := by
     simp only [doneW, makeB, if_true, Bool.and_eq_true, decide_eq_true_eq] at h
     exact h.1
   have h3 : ¬ 1000000 < v := by omega
   simp [makeW, h3]
 · rfl
theorem iStepWatch_ok (w : Watch) (k n v : Int) (hp : w.Posts.length ≤ 16777216) (hs : w.Shocks.length ≤ 16777216) : Ctr Try.prog 19 [w.v, .agg [.int .i64 k, .int .i64 n, .int .i64 v]] [] (stwR (stepW w k n v)) (stwH (stepW w k n v)) := by
 refine Ctr.intro Try.mixed Try.func19 rfl Try.okF19 ?_
 simp -implicitDefEqProofs -dsimp only [go_sem, Try.ntmps19, Try.results19]
 simp -implicitDefEqProofs -dsimp only [go_sem, Watch.v]
 (first | refine callT.at (iIsWatch_ok w (by omega) (by omega)) ⟨(by first | exact leA | exact Watch.le rfl rfl | exact Watch.leT rfl rfl rfl), trivial⟩ ?_ | refine callS.at (iIsWatch_ok w (by omega) (by omega)) ⟨(by first | exact leA | exact Watch.le rfl rfl | exact Watch.leT rfl rfl rfl), trivial⟩ ?_)
 have no : stepW w k n v = none → ∀ h : Hp, WeakR 0 (.tup [.agg [.int .i64 0, .nilsl, .nilsl, .int .i64 0, .int .i64 0], .bool false]) h (stwR (stepW w k n v)) (stwH (stepW w k n v)) := by
   intro e h
   rw [e]
   exact WeakR.drop' rfl (by rfl)
 cases hw : wB w with
 | false =>
   (repeat ((repeat1' (first | simp -implicitDefEqProofs -dsimp only [go_sem] | simp -dsimp (disch := omega) only [wrap_i64])); repeat (with_reducible refine sideA ?_)))
   exact no (by simp [stepW, hw]) _
 | true =>
   (repeat ((repeat1' (first | simp -implicitDefEqProofs -dsimp only [go_sem] | simp -dsimp (disch := omega) only [wrap_i64])); repeat (with_reducible refine sideA ?_)))
   (first | refine callT.at (isStep_ok w k n v hp hs) ⟨(by first | exact leA | exact Watch.le rfl rfl | exact Watch.leT rfl rfl rfl), (by first | exact leA | exact Watch.le rfl rfl | exact Watch.leT rfl rfl rfl), trivial⟩ ?_ | refine callS.at (isStep_ok w k n v hp hs) ⟨(by first | exact leA | exact Watch.le rfl rfl | exact Watch.leT rfl rfl rfl), (by first | exact leA | exact Watch.le rfl rfl | exact Watch.leT rfl rfl rfl), trivial⟩ ?_)
   cases hst : stepWB w k n v with
   | false =>
     (repeat ((repeat1' (first | simp -implicitDefEqProofs -dsimp only [go_sem] | simp -dsimp (disch := omega) only [wrap_i64])); repeat (with_reducible refine sideA ?_)))
     exact no (by simp [stepW, hst]) _
   | true =>
     (repeat ((repeat1' (first | simp -implicitDefEqProofs -dsimp only [go_sem] | simp -dsimp (disch := omega) only [wrap_i64])); repeat (with_reducible refine sideA ?_)))
     have hm := wstep_ok w k n v hw hst
     cases hd : doneW w k n v with
     | false =>
       rw [hd] at hm
       (first | refine callT.at (hm) ⟨(by first | exact leA | exact Watch.le rfl rfl | exact Watch.leT rfl rfl rfl), (by first | exact leA | exact Watch.le rfl rfl | exact Watch.leT rfl rfl rfl), trivial⟩ ?_ | refine callS.at (hm) ⟨(by first | exact leA | exact Watch.le rfl rfl | exact Watch.leT rfl rfl rfl), (by first | exact leA | exact Watch.le rfl rfl | exact Watch.leT rfl rfl rfl), trivial⟩ ?_)
       (repeat ((repeat1' (first | simp -implicitDefEqProofs -dsimp only [go_sem, Watch.o] | simp -dsimp (disch := omega) only [wrap_i64])); repeat (with_reducible refine sideA ?_)))
       exact no (by simp [stepW, hd]) _
     | true =>
       rw [hd] at hm
       (first | refine callT.at (hm) ⟨(by first | exact leA | exact Watch.le rfl rfl | exact Watch.leT rfl rfl rfl), (by first | exact leA | exact Watch.le rfl rfl | exact Watch.leT rfl rfl rfl), trivial⟩ ?_ | refine callS.at (hm) ⟨(by first | exact leA | exact Watch.le rfl rfl | exact Watch.leT rfl rfl rfl), (by first | exact leA | exact Watch.le rfl rfl | exact Watch.leT rfl rfl rfl), trivial⟩ ?_)
       (repeat ((repeat1' (first | simp -implicitDefEqProofs -dsimp only [go_sem, Watch.o] | simp -dsimp (disch := omega) only [wrap_i64])); repeat (with_reducible refine sideA ?_)))
       have e : stepW w k n v = some (makeW w k n v) := by simp [stepW, hw, hst, hd]
       have e2 := makeI_done hw hd
       rw [e, ← e2, stwR, stwH]
       refine WeakR.pick [3, 4] (by decide) (fun j hj => by omega) (.inl ?_) ?_
       · first | rfl | (simp [ren, pickF, posOf, Watch.o]; done)
       · simp only [pickH, List.map_cons, List.map_nil, pickB, List.getElem?_cons_zero, List.getElem?_cons_succ, map_ren_rows]
end Go.Proofs
end
section
set_option linter.unusedSimpArgs false
set_option linter.unusedVariables false
set_option maxRecDepth 100000
set_option maxHeartbeats 1000000
namespace Go.Proofs
open Go.Lv
structure RunW where
 w : Watch
 n : Nat
def runWS (x : RunW) (s : WatchStep) : RunW := match stepW x.w s.Kind s.Number s.Value with
 | none => x
 | some b => ⟨b, x.n + 1⟩
def runWF (a : Watch) (L : List WatchStep) : RunW := L.foldl runWS ⟨a, 0⟩
theorem runWF_take {a : Watch} {L : List WatchStep} {i : Nat} (hi : i < L.length) : runWF a (L.take (i + 1)) = runWS (runWF a (L.take i)) L[i] := by
 rw [List.take_succ_eq_append_getElem hi, runWF, runWF, List.foldl_append]; rfl
theorem runWF_ok {a : Watch} (ha : wB a = true) (L : List WatchStep) : ∀ i, i ≤ L.length → wB (runWF a (L.take i)).w = true ∧ (runWF a (L.take i)).n ≤ i := by
 intro i
 induction i with
 | zero => exact fun _ => ⟨ha, Nat.le_refl _⟩
 | succ i ih =>
   intro hi
   obtain ⟨h1, h2⟩ := ih (by omega)
   rw [runWF_take (by omega)]
   unfold runWS
   split
   · exact ⟨h1, by omega⟩
   · rename_i b hb
     exact ⟨(stepW_some hb).2.2.2.2, by simp only []; omega⟩
def runWB (a : Watch) (L : List WatchStep) : Bool := wB a && decide (L.length ≤ 40)
def runWNo : V := .tup [zeroW, .int .i64 0, .bool false]
theorem sRunWatch_no (a : Watch) (L : List WatchStep) (hp : a.Posts.length ≤ 16777216) (hs : a.Shocks.length ≤ 16777216) (hL : L.length ≤ 16777216) (hb : runWB a L = false) : Ctr Try.prog 26 [a.v, WatchStep.sl L] [] runWNo [] := by
 refine Ctr.intro Try.mixed Try.func26 rfl Try.okF26 ?_
 simp -implicitDefEqProofs -dsimp only [go_sem, Try.ntmps26, Try.results26]
 simp -implicitDefEqProofs -dsimp only [go_sem, Watch.v]
 (first | refine callT.at (l25Good_ok a (by omega) (by omega)) ⟨(by first | exact leA | exact Watch.le rfl rfl), trivial⟩ ?_ | refine callS.at (l25Good_ok a (by omega) (by omega)) ⟨(by first | exact leA | exact Watch.le rfl rfl), trivial⟩ ?_)
 cases h1 : wB a with
 | false =>
   (repeat ((repeat1' (first | simp -implicitDefEqProofs -dsimp only [go_sem] | simp -dsimp (disch := omega) only [wrap_i64])); repeat (with_reducible refine sideA ?_)))
   exact WeakR.drop' rfl (by rfl)
 | true =>
   have h2 : decide (40 < (L.length : Int)) = true := by simp [runWB, h1] at hb; simp; omega
   (repeat ((repeat1' (first | simp -implicitDefEqProofs -dsimp only [go_sem, h2] | simp -dsimp (disch := omega) only [wrap_i64])); repeat (with_reducible refine sideA ?_)))
   exact WeakR.drop' rfl (by rfl)
theorem sRunWatch_ok (a : Watch) (L : List WatchStep) (hL : lstR WatchStep.ok L) (hb : runWB a L = true) : Ctr Try.prog 26 [a.v, WatchStep.sl L] [] (.tup [(runWF a L).w.o 0 1, .int .i64 (runWF a L).n, .bool true]) [some (rows Post.cs (runWF a L).w.Posts), some (rows Shock.cs (runWF a L).w.Shocks)] := by
 have ha : wB a = true := by simp [runWB] at hb; exact hb.1
 have h40 : L.length ≤ 40 := by simp [runWB] at hb; exact hb.2
 have h2 : decide (40 < (L.length : Int)) = false := by simp; omega
 have ap := (wB_ok ha).plen
 have asl := (wB_ok ha).slen
 refine Ctr.intro Try.mixed Try.func26 rfl Try.okF26 ?_
 simp -implicitDefEqProofs -dsimp only [go_sem, Try.ntmps26, Try.results26]
 simp -implicitDefEqProofs -dsimp only [go_sem, Watch.v]
 (first | refine callT.at (l25Good_ok a (by omega) (by omega)) ⟨(by first | exact leA | exact Watch.le rfl rfl), trivial⟩ ?_ | refine callS.at (l25Good_ok a (by omega) (by omega)) ⟨(by first | exact leA | exact Watch.le rfl rfl), trivial⟩ ?_)
 (repeat ((repeat1' (first | simp -implicitDefEqProofs -dsimp only [go_sem, ha, h2] | simp -dsimp (disch := omega) only [wrap_i64])); repeat (with_reducible refine sideA ?_)))
 (first | refine callT.at (l25Own_ok a (by omega) (by omega)) ⟨(by first | exact leA | exact Watch.le rfl rfl), trivial⟩ ?_ | refine callS.at (l25Own_ok a (by omega) (by omega)) ⟨(by first | exact leA | exact Watch.le rfl rfl), trivial⟩ ?_)
 (repeat ((repeat1' (first | simp -implicitDefEqProofs -dsimp only [go_sem, Watch.o] | simp -dsimp (disch := omega) only [wrap_i64])); repeat (with_reducible refine sideA ?_)))
 refine LoopT.intro (fun i : Nat => i ≤ L.length) (fun i => ⟨[.undef, WatchStep.sl L, .undef, .undef, .ptr 1 0, .undef, .undef, .ptr 4 0, .int .i64 (runWF a (L.take i)).n, .int .i64 i, .undef, .undef, .undef, .undef, .undef, .undef, .undef, .undef, .undef, .undef, .undef, .undef, .undef, .undef, .undef, .undef, .undef, .undef, .undef, .undef, .undef, .undef, .undef, .undef, .undef, .undef, .undef, .undef, .undef, .undef, .undef, .undef, .undef, .undef, .undef, .undef, .undef, .undef, .undef, .undef, .undef], [some a.cs, some [.int .i64 0, .nilsl, .nilsl, .int .i64 0, .int .i64 0], some (rows Post.cs (runWF a (L.take i)).w.Posts), some (rows Shock.cs (runWF a (L.take i)).w.Shocks), some ((runWF a (L.take i)).w.oc 2 3)], 0⟩) (fun i => L.length - i) 0 (Nat.zero_le _) ?_ (fun i hi => ?_)
 · refine Weak.cut (5) (by simp) (by simp) ?_ ?_
   · simp [LeC, LeV, ren, cutF, runWF]
   · simp [cutH, cutB, ren, map_ren_rows, runWF, cutF, Watch.cs, Watch.oc]
 obtain ⟨q1, q3⟩ := runWF_ok ha L i hi
 simp -implicitDefEqProofs -dsimp only [go_sem, Watch.oc]
 refine condT.split (fun g1 => ?_) (fun g1 => ?_)
 · simp -implicitDefEqProofs -dsimp only [go_sem, g1, Watch.oc]
   have hi' : i < L.length := by simpa using g1
   have hr := rows_at WatchStep.csl hi'
   have hw1 : IntKind.i64.wrap (((runWF a (L.take i)).n : Int) + 1) = (((runWF a (L.take i)).n + 1 : Nat) : Int) := by rw [wrap_i64 (by omega) (by omega)]; omega
   have htk := runWF_take (a := a) hi'
   have hsv : L[i].Value ≤ 9223372036854775807 := by obtain ⟨_, _, h⟩ := hL.2 _ (List.getElem_mem hi'); exact h.2
   generalize hx : runWF a (L.take i) = x at *
   have xp := (wB_ok q1).plen
   have xs := (wB_ok q1).slen
   (repeat ((repeat1' (first | simp -implicitDefEqProofs -dsimp only [go_sem, hr, WatchStep.cs, Watch.oc] | simp -dsimp (disch := omega) only [wrap_i64])); repeat (with_reducible refine sideA ?_)))
   (first | refine callT.at (l25Step_ok x.w L[i].Kind L[i].Number L[i].Value (by omega) (by omega)) ⟨(by first | exact leA | exact Watch.le rfl rfl), (by first | exact leA | exact Watch.le rfl rfl), trivial⟩ ?_ | refine callS.at (l25Step_ok x.w L[i].Kind L[i].Number L[i].Value (by omega) (by omega)) ⟨(by first | exact leA | exact Watch.le rfl rfl), (by first | exact leA | exact Watch.le rfl rfl), trivial⟩ ?_)
   cases hsb : stepWB x.w L[i].Kind L[i].Number L[i].Value with
   | false =>
     (repeat ((repeat1' (first | simp -implicitDefEqProofs -dsimp only [go_sem] | simp -dsimp (disch := omega) only [wrap_i64])); repeat (with_reducible refine sideA ?_)))
     refine ⟨i + 1, hi', ?_, by omega⟩
     have : runWF a (L.take (i + 1)) = x := by rw [htk, runWS, stepW, hsb, Bool.and_false]; rfl
     rw [this]
     refine Weak.cut (5) (by simp) (by simp) ?_ ?_
     · simp [LeC, LeV, ren, cutF]
     · simp [cutH, cutB, ren, map_ren_rows, cutF, Watch.cs, Watch.oc]
   | true =>
     have hm := l25Make_ok x.w L[i].Kind L[i].Number L[i].Value q1 hsb hsv
     (repeat ((repeat1' (first | simp -implicitDefEqProofs -dsimp only [go_sem, hr, WatchStep.cs, Watch.oc] | simp -dsimp (disch := omega) only [wrap_i64])); repeat (with_reducible refine sideA ?_)))
     cases hd : doneW x.w L[i].Kind L[i].Number L[i].Value with
     | false =>
       rw [hd] at hm
       simp only [Watch.o] at hm
       (first | refine callT.at (hm) ⟨(by first | exact leA | exact Watch.le rfl rfl), (by first | exact leA | exact Watch.le rfl rfl), trivial⟩ ?_ | refine callS.at (hm) ⟨(by first | exact leA | exact Watch.le rfl rfl), (by first | exact leA | exact Watch.le rfl rfl), trivial⟩ ?_)
       (repeat ((repeat1' (first | simp -implicitDefEqProofs -dsimp only [go_sem] | simp -dsimp (disch := omega) only [wrap_i64])); repeat (with_reducible refine sideA ?_)))
       refine ⟨i + 1, hi', ?_, by omega⟩
       have : runWF a (L.take (i + 1)) = x := by rw [htk, runWS, stepW, hd, Bool.and_false]; rfl
       rw [this]
       refine Weak.cut (5) (by simp) (by simp) ?_ ?_
       · simp [LeC, LeV, ren, cutF]
       · simp [cutH, cutB, ren, map_ren_rows, cutF, Watch.cs, Watch.oc]
     | true =>
       rw [hd, makeS_done hd] at hm
       simp only [Watch.o] at hm
       (first | refine callT.at (hm) ⟨(by first | exact leA | exact Watch.le rfl rfl), (by first | exact leA | exact Watch.le rfl rfl), trivial⟩ ?_ | refine callS.at (hm) ⟨(by first | exact leA | exact Watch.le rfl rfl), (by first | exact leA | exact Watch.le rfl rfl), trivial⟩ ?_)
       (repeat ((repeat1' (first | simp -implicitDefEqProofs -dsimp only [go_sem, hw1] | simp -dsimp (disch := omega) only [wrap_i64])); repeat (with_reducible refine sideA ?_)))
       refine ⟨i + 1, hi', ?_, by omega⟩
       have : runWF a (L.take (i + 1)) = ⟨makeW x.w L[i].Kind L[i].Number L[i].Value, x.n + 1⟩ := by rw [htk, runWS, stepW, q1, hsb, hd]; rfl
       rw [this]
       refine Weak.pick [0, 1, 5, 6, 4] (by decide) (fun j hj => by omega) ?_ ?_
       · simp [LeG, LeV, ren, pickF, posOf]
       · simp [pickH, pickB, ren, pickF, posOf, map_ren_rows, Watch.cs, Watch.oc]
 · simp -implicitDefEqProofs -dsimp only [go_sem, g1, Watch.oc]
   have hi' : i = L.length := by simp at g1; omega
   subst hi'
   rw [List.take_length]
   refine WeakR.pick [2, 3] (by decide) (fun j hj => by omega) (.inl ?_) ?_
   · first | rfl | (simp [ren, pickF, posOf, Watch.o]; done)
   · simp only [pickH, List.map_cons, List.map_nil, pickB, List.getElem?_cons_zero, List.getElem?_cons_succ, map_ren_rows]
theorem iRunWatch_no (a : Watch) (L : List WatchStep) (hp : a.Posts.length ≤ 16777216) (hs : a.Shocks.length ≤ 16777216) (hL : L.length ≤ 16777216) (hb : runWB a L = false) : Ctr Try.prog 25 [a.v, WatchStep.sl L] [] runWNo [] := by
 refine Ctr.intro Try.mixed Try.func25 rfl Try.okF25 ?_
 simp -implicitDefEqProofs -dsimp only [go_sem, Try.ntmps25, Try.results25]
 simp -implicitDefEqProofs -dsimp only [go_sem, Watch.v]
 (first | refine callT.at (iIsWatch_ok a (by omega) (by omega)) ⟨(by first | exact leA | exact Watch.le rfl rfl), trivial⟩ ?_ | refine callS.at (iIsWatch_ok a (by omega) (by omega)) ⟨(by first | exact leA | exact Watch.le rfl rfl), trivial⟩ ?_)
 cases h1 : wB a with
 | false =>
   (repeat ((repeat1' (first | simp -implicitDefEqProofs -dsimp only [go_sem] | simp -dsimp (disch := omega) only [wrap_i64])); repeat (with_reducible refine sideA ?_)))
   exact WeakR.drop' rfl (by rfl)
 | true =>
   have h2 : decide (40 < (L.length : Int)) = true := by simp [runWB, h1] at hb; simp; omega
   (repeat ((repeat1' (first | simp -implicitDefEqProofs -dsimp only [go_sem, h2] | simp -dsimp (disch := omega) only [wrap_i64])); repeat (with_reducible refine sideA ?_)))
   exact WeakR.drop' rfl (by rfl)
theorem iRunWatch_ok (a : Watch) (L : List WatchStep) (hb : runWB a L = true) : Ctr Try.prog 25 [a.v, WatchStep.sl L] [] (.tup [(runWF a L).w.o 0 1, .int .i64 (runWF a L).n, .bool true]) [some (rows Post.cs (runWF a L).w.Posts), some (rows Shock.cs (runWF a L).w.Shocks)] := by
 have ha : wB a = true := by simp [runWB] at hb; exact hb.1
 have h40 : L.length ≤ 40 := by simp [runWB] at hb; exact hb.2
 have h2 : decide (40 < (L.length : Int)) = false := by simp; omega
 have ap := (wB_ok ha).plen
 have asl := (wB_ok ha).slen
 refine Ctr.intro Try.mixed Try.func25 rfl Try.okF25 ?_
 simp -implicitDefEqProofs -dsimp only [go_sem, Try.ntmps25, Try.results25]
 simp -implicitDefEqProofs -dsimp only [go_sem, Watch.v]
 (first | refine callT.at (iIsWatch_ok a (by omega) (by omega)) ⟨(by first | exact leA | exact Watch.le rfl rfl), trivial⟩ ?_ | refine callS.at (iIsWatch_ok a (by omega) (by omega)) ⟨(by first | exact leA | exact Watch.le rfl rfl), trivial⟩ ?_)
 (repeat ((repeat1' (first | simp -implicitDefEqProofs -dsimp only [go_sem, ha, h2] | simp -dsimp (disch := omega) only [wrap_i64])); repeat (with_reducible refine sideA ?_)))
 (first | refine callT.at (copiedWatch_ok a (by omega) (by omega)) ⟨(by first | exact leA | exact Watch.le rfl rfl), trivial⟩ ?_ | refine callS.at (copiedWatch_ok a (by omega) (by omega)) ⟨(by first | exact leA | exact Watch.le rfl rfl), trivial⟩ ?_)
 (repeat ((repeat1' (first | simp -implicitDefEqProofs -dsimp only [go_sem, Watch.o] | simp -dsimp (disch := omega) only [wrap_i64])); repeat (with_reducible refine sideA ?_)))
 refine LoopT.intro (fun i : Nat => i ≤ L.length) (fun i => ⟨[.undef, .undef, .ptr 0 0, .undef, .ptr 1 0, .undef, .undef, .int .i64 (runWF a (L.take i)).n, .undef, .undef, .undef, .undef, .undef, .undef, .undef, .undef, .undef, .undef, .undef, .undef, .undef, .undef, .undef, WatchStep.sl L, .int .i64 L.length, .int .i64 i, .undef, .undef, .undef, .undef, .undef, .undef, .undef, .undef, .undef, .undef, .undef, .undef, .undef, .undef, .undef, .undef], [some ((runWF a (L.take i)).w.oc 2 3), some [.int .i64 0, .nilsl, .nilsl, .int .i64 0, .int .i64 0], some (rows Post.cs (runWF a (L.take i)).w.Posts), some (rows Shock.cs (runWF a (L.take i)).w.Shocks)], 0⟩) (fun i => L.length - i) 0 (Nat.zero_le _) ?_ (fun i hi => ?_)
 · refine Weak.cut (4) (by simp) (by simp) ?_ ?_
   · simp [LeC, LeV, ren, cutF, runWF]
   · simp [cutH, cutB, ren, map_ren_rows, runWF, cutF, Watch.cs, Watch.oc]
 obtain ⟨q1, q3⟩ := runWF_ok ha L i hi
 simp -implicitDefEqProofs -dsimp only [go_sem, Watch.oc]
 refine condT.split (fun g1 => ?_) (fun g1 => ?_)
 · simp -implicitDefEqProofs -dsimp only [go_sem, g1, Watch.oc]
   have hi' : i < L.length := by simpa using g1
   have hr := rows_at WatchStep.csl hi'
   have hw1 : IntKind.i64.wrap (((runWF a (L.take i)).n : Int) + 1) = (((runWF a (L.take i)).n + 1 : Nat) : Int) := by rw [wrap_i64 (by omega) (by omega)]; omega
   have htk := runWF_take (a := a) hi'
   generalize hx : runWF a (L.take i) = x at *
   have xp := (wB_ok q1).plen
   have xs := (wB_ok q1).slen
   have ci := iStepWatch_ok x.w L[i].Kind L[i].Number L[i].Value (by omega) (by omega)
   (repeat ((repeat1' (first | simp -implicitDefEqProofs -dsimp only [go_sem, hr, WatchStep.cs, Watch.oc] | simp -dsimp (disch := omega) only [wrap_i64])); repeat (with_reducible refine sideA ?_)))
   cases h3 : stepW x.w L[i].Kind L[i].Number L[i].Value with
   | none =>
     rw [h3] at ci
     simp only [stwR, stwH, zeroW] at ci
     (first | refine callT.at (ci) ⟨(by first | exact leA | exact Watch.le rfl rfl), (by first | exact leA | exact Watch.le rfl rfl), trivial⟩ ?_ | refine callS.at (ci) ⟨(by first | exact leA | exact Watch.le rfl rfl), (by first | exact leA | exact Watch.le rfl rfl), trivial⟩ ?_)
     (repeat ((repeat1' (first | simp -implicitDefEqProofs -dsimp only [go_sem] | simp -dsimp (disch := omega) only [wrap_i64])); repeat (with_reducible refine sideA ?_)))
     refine ⟨i + 1, hi', ?_, by omega⟩
     have : runWF a (L.take (i + 1)) = x := by rw [htk, runWS, h3]
     rw [this]
     refine Weak.cut (4) (by simp) (by simp) ?_ ?_
     · simp [LeC, LeV, ren, cutF]
     · simp [cutH, cutB, ren, map_ren_rows, cutF, Watch.cs, Watch.oc]
   | some b =>
     rw [h3] at ci
     simp only [stwR, stwH, Watch.o] at ci
     (first | refine callT.at (ci) ⟨(by first | exact leA | exact Watch.le rfl rfl), (by first | exact leA | exact Watch.le rfl rfl), trivial⟩ ?_ | refine callS.at (ci) ⟨(by first | exact leA | exact Watch.le rfl rfl), (by first | exact leA | exact Watch.le rfl rfl), trivial⟩ ?_)
     (repeat ((repeat1' (first | simp -implicitDefEqProofs -dsimp only [go_sem, hw1] | simp -dsimp (disch := omega) only [wrap_i64])); repeat (with_reducible refine sideA ?_)))
     refine ⟨i + 1, hi', ?_, by omega⟩
     have : runWF a (L.take (i + 1)) = ⟨b, x.n + 1⟩ := by rw [htk, runWS, h3]
     rw [this]
     refine Weak.pick [0, 1, 5, 6] (by decide) (fun j hj => by omega) ?_ ?_
     · simp [LeG, LeV, ren, pickF, posOf]
     · simp [pickH, pickB, ren, pickF, posOf, map_ren_rows, Watch.cs, Watch.oc]
 · simp -implicitDefEqProofs -dsimp only [go_sem, g1, Watch.oc]
   have hi' : i = L.length := by simp at g1; omega
   subst hi'
   rw [List.take_length]
   refine WeakR.pick [2, 3] (by decide) (fun j hj => by omega) (.inl ?_) ?_
   · first | rfl | (simp [ren, pickF, posOf, Watch.o]; done)
   · simp only [pickH, List.map_cons, List.map_nil, pickB, List.getElem?_cons_zero, List.getElem?_cons_succ, map_ren_rows]
end Go.Proofs
end
section
set_option linter.unusedSimpArgs false
set_option linter.unusedVariables false
set_option maxRecDepth 100000
set_option maxHeartbeats 1000000
namespace Go.Proofs
open Go.Lv
def newPosts (K : List Int) : List Post := K.map fun n => ⟨n, true, 0⟩
def newW (K : List Int) : Watch := ⟨0, newPosts K, [], 1, 0⟩
theorem newPosts_succ {K : List Int} {i : Nat} (hi : i < K.length) : newPosts (K.take (i + 1)) = newPosts (K.take i) ++ [⟨K[i], true, 0⟩] := by
 rw [newPosts, List.take_succ_eq_append_getElem hi, List.map_append]; rfl
theorem newPosts_len {K : List Int} {i : Nat} (hi : i ≤ K.length) : (newPosts (K.take i)).length = i := by simp [newPosts]; omega
def watchN : V := .tup [.agg [.int .i64 0, .nilsl, .nilsl, .int .i64 0, .int .i64 0], .bool false]
theorem newW_len {K : List Int} (h : wB (newW K) = true) : K.length ≤ 8 := by
 have := (wB_ok h).plen
 simpa [newW, newPosts] using this
theorem sNewWatch_pre (K : List Int) (hk : K.length ≤ 16777216) (r : V) (hout : Hp)
   (fin : wB (newW K) = true → WeakR 0 (.tup [.agg [.int .i64 0, .osl 1 0 K.length 3, .osl 2 0 0 5, .int .i64 1, .int .i64 0], .bool true]) [some [.int .i64 0, .osl 1 0 K.length 3, .osl 2 0 0 5, .int .i64 1, .int .i64 0], some (rows Post.cs (newPosts K)), some [], some [.int .i64 0, .osl 1 0 K.length 3, .osl 2 0 0 5, .int .i64 1, .int .i64 0]] r hout)
   (no : wB (newW K) = false → r = watchN ∧ hout = []) : Ctr Try.prog 29 [IntS.sl K] [] r hout := by
 refine Ctr.intro Try.mixed Try.func29 rfl Try.okF29 ?_
 simp -implicitDefEqProofs -dsimp only [go_sem, Try.ntmps29, Try.results29]
 refine LoopT.intro (fun i : Nat => i ≤ K.length) (fun i => ⟨[IntS.sl K, .undef, .ptr 0 0, .undef, .ptr 3 0, .int .i64 i, .undef, .undef, .undef, .undef, .undef, .undef, .undef, .undef, .undef, .undef, .undef, .undef, .undef, .undef, .undef, .undef, .undef, .undef, .undef, .undef, .undef, .undef, .undef, .undef], [some [.int .i64 0, .nilsl, .nilsl, .int .i64 0, .int .i64 0], some (rows Post.cs (newPosts (K.take i))), some [], some [.int .i64 0, .osl 1 0 i 3, .osl 2 0 0 5, .int .i64 1, .int .i64 0]], 0⟩) (fun i => K.length - i) 0 (Nat.zero_le _) ?_ (fun i hi => ?_)
 · refine Weak.cut (4) (by simp) (by simp) ?_ ?_
   · simp [LeC, LeV, ren, cutF]
   · simp [cutH, cutB, ren, cutF, newPosts, rows]
 simp -implicitDefEqProofs -dsimp only [go_sem]
 refine condT.split (fun h1 => ?_) (fun h1 => ?_)
 · simp -implicitDefEqProofs -dsimp only [go_sem, h1]
   have hi' : i < K.length := by simpa using h1
   have hr := rows_at IntS.csl hi'
   have hn := newPosts_len hi
   (repeat ((repeat1' (first | simp -implicitDefEqProofs -dsimp only [go_sem, hr, IntS.cs, rows_length, hn, rows_cell] | simp -dsimp (disch := omega) only [wrap_i64])); repeat (with_reducible refine sideA ?_)))
   refine ⟨i + 1, hi', ?_, by omega⟩
   refine Weak.cut (4) (by simp) (by simp) ?_ ?_
   · simp [LeC, LeV, ren, cutF]
   · rw [newPosts_succ hi', ← rows_snoc]
     simp [cutH, cutB, ren, cutF, map_ren_rows, killC, Post.cs]
 · simp -implicitDefEqProofs -dsimp only [go_sem, h1]
   have hi' : i = K.length := by simp at h1; omega
   subst hi'
   rw [List.take_length]
   (first | refine callT.at (l25Good_ok (newW K) (by simp [newW, newPosts]; omega) (by simp [newW])) ⟨(by first | exact leA | exact LeV.aggR ⟨.inl rfl, leE_snap rfl (by simp [newPosts, newW]) (by simp [newW]), leE_snap rfl rfl rfl, .inl rfl, .inl rfl, trivial⟩ | exact LeV.aggR ⟨.inl rfl, leE_snap rfl (by simp [newPosts, newW]) (by simp [newW]), LeE.nil, .inl rfl, .inl rfl, trivial⟩), trivial⟩ ?_ | refine callS.at (l25Good_ok (newW K) (by simp [newW, newPosts]; omega) (by simp [newW])) ⟨(by first | exact leA | exact LeV.aggR ⟨.inl rfl, leE_snap rfl (by simp [newPosts, newW]) (by simp [newW]), leE_snap rfl rfl rfl, .inl rfl, .inl rfl, trivial⟩ | exact LeV.aggR ⟨.inl rfl, leE_snap rfl (by simp [newPosts, newW]) (by simp [newW]), LeE.nil, .inl rfl, .inl rfl, trivial⟩), trivial⟩ ?_)
   cases h : wB (newW K) with
   | false =>
     simp -implicitDefEqProofs -dsimp only [go_sem, h]
     obtain ⟨rfl, rfl⟩ := no h
     exact WeakR.drop' rfl (by rfl)
   | true =>
     simp -implicitDefEqProofs -dsimp only [go_sem, h]
     exact fin h
theorem sNewWatch_no (K : List Int) (hk : K.length ≤ 16777216) (h : wB (newW K) = false) : Ctr Try.prog 29 [IntS.sl K] [] watchN [] :=
 sNewWatch_pre K hk _ _ (fun h' => by rw [h] at h'; cases h') (fun _ => ⟨rfl, rfl⟩)
theorem sNewWatch_ok (K : List Int) (hk : K.length ≤ 16777216) (h : wB (newW K) = true) : Ctr Try.prog 29 [IntS.sl K] [] (.tup [.agg [.int .i64 0, .osl 0 0 K.length 3, .osl 1 0 0 5, .int .i64 1, .int .i64 0], .bool true]) [some (rows Post.cs (newPosts K)), some []] := by
 refine sNewWatch_pre K hk _ _ (fun _ => ?_) (fun h' => by rw [h] at h'; cases h')
 refine WeakR.pick [1, 2] (by decide) (fun j hj => by omega) (.inl ?_) ?_
 · first | rfl | (simp [ren, pickF, posOf]; done)
 · simp only [pickH, List.map_cons, List.map_nil, pickB, List.getElem?_cons_zero, List.getElem?_cons_succ, map_ren_rows]
def newS (K : List Int) : Nat → Hp
 | 0 => [some [.int .i64 0, .nilsl, .nilsl, .int .i64 1, .int .i64 0]]
 | i + 1 => [some [.int .i64 0, .osl 2 0 (i + 1) 3, .nilsl, .int .i64 1, .int .i64 0], some (rows Post.cs (newPosts (K.take (i + 1))))]
theorem newS_0 (K : List Int) : newS K 0 = [some [.int .i64 0, .nilsl, .nilsl, .int .i64 1, .int .i64 0]] := rfl
theorem newS_1 (K : List Int) (i : Nat) : newS K (i + 1) = [some [.int .i64 0, .osl 2 0 (i + 1) 3, .nilsl, .int .i64 1, .int .i64 0], some (rows Post.cs (newPosts (K.take (i + 1))))] := rfl
theorem iNewWatch_pre (K : List Int) (hk : K.length ≤ 16777216) (r : V) (hout : Hp)
   (fin0 : K = [] → WeakR 0 (.tup [.agg [.int .i64 0, .nilsl, .nilsl, .int .i64 1, .int .i64 0], .bool true]) [some [.int .i64 0, .nilsl, .nilsl, .int .i64 1, .int .i64 0], some [.int .i64 0, .nilsl, .nilsl, .int .i64 1, .int .i64 0]] r hout)
   (fin : K ≠ [] → wB (newW K) = true → WeakR 0 (.tup [.agg [.int .i64 0, .osl 2 0 K.length 3, .nilsl, .int .i64 1, .int .i64 0], .bool true]) [some [.int .i64 0, .osl 2 0 K.length 3, .nilsl, .int .i64 1, .int .i64 0], some [.int .i64 0, .osl 2 0 K.length 3, .nilsl, .int .i64 1, .int .i64 0], some (rows Post.cs (newPosts K))] r hout)
   (no : wB (newW K) = false → r = watchN ∧ hout = []) : Ctr Try.prog 28 [IntS.sl K] [] r hout := by
 refine Ctr.intro Try.mixed Try.func28 rfl Try.okF28 ?_
 simp -implicitDefEqProofs -dsimp only [go_sem, Try.ntmps28, Try.results28]
 refine LoopT.intro (fun i : Nat => i ≤ K.length) (fun i => ⟨[IntS.sl K, .undef, .ptr 0 0, .undef, .ptr 1 0, .undef, .undef, .undef, IntS.sl K, .int .i64 K.length, .int .i64 i, .undef, .undef, .undef, .undef, .undef, .undef, .undef, .undef, .undef, .undef, .undef, .undef, .undef, .undef, .undef, .undef, .undef, .undef, .undef, .undef, .undef], some [.int .i64 0, .nilsl, .nilsl, .int .i64 0, .int .i64 0] :: newS K i, 0⟩) (fun i => K.length - i) 0 (Nat.zero_le _) ?_ (fun i hi => ?_)
 · refine Weak.cut (2) (by simp) (by simp) ?_ ?_
   · simp [LeC, LeV, ren, cutF]
   · simp [cutH, cutB, ren, cutF, newS]
 simp -implicitDefEqProofs -dsimp only [go_sem]
 refine condT.split (fun h1 => ?_) (fun h1 => ?_)
 · have hi' : i < K.length := by simpa using h1
   have hr := rows_at IntS.csl hi'
   cases i with
   | zero =>
     have hr0 := hr
     rw [Nat.zero_mul, List.drop_zero] at hr0
     (repeat ((repeat1' (first | simp -implicitDefEqProofs -dsimp only [go_sem, h1, hr, hr0, IntS.cs, newS_0] | simp -dsimp (disch := omega) only [wrap_i64])); repeat (with_reducible refine sideA ?_)))
     refine ⟨1, by omega, ?_, by omega⟩
     refine Weak.pick [0, 1, 3] (by decide) (fun j hj => by omega) ?_ ?_
     · simp [LeG, LeV, ren, pickF, posOf]
     · rw [newS_1, newPosts_succ hi']
       simp [pickH, pickB, ren, pickF, posOf, newPosts, rows, Post.cs]
   | succ i =>
     have hn := newPosts_len hi
     (repeat ((repeat1' (first | simp -implicitDefEqProofs -dsimp only [go_sem, h1, hr, IntS.cs, newS_1, rows_length, hn, rows_cell] | simp -dsimp (disch := omega) only [wrap_i64])); repeat (with_reducible refine sideA ?_)))
     refine ⟨i + 2, by omega, ?_, by omega⟩
     refine Weak.cut (3) (by simp) (by simp) ?_ ?_
     · simp [LeC, LeV, ren, cutF]
       omega
     · rw [newS_1, newPosts_succ hi', ← rows_snoc]
       simp [cutH, cutB, ren, cutF, map_ren_rows, killC, Post.cs]
 · simp -implicitDefEqProofs -dsimp only [go_sem, h1]
   have hi' : i = K.length := by simp at h1; omega
   subst hi'
   by_cases hK : K = []
   · subst hK
     have h0 : wB (newW []) = true := by simp [wB, newW, newPosts, countsB, inB', listedB]
     simp -implicitDefEqProofs -dsimp only [go_sem, List.length_nil, newS_0, Int.natCast_zero]
     repeat (first | ((first | refine callT.at (iIsWatch_ok (newW []) (by simp [newW, newPosts]) (by simp [newW])) ⟨(by first | exact leA | exact LeV.aggR ⟨.inl rfl, leE_snap rfl (by simp [newPosts, newW]) (by simp [newW]), leE_snap rfl rfl rfl, .inl rfl, .inl rfl, trivial⟩ | exact LeV.aggR ⟨.inl rfl, leE_snap rfl (by simp [newPosts, newW]) (by simp [newW]), LeE.nil, .inl rfl, .inl rfl, trivial⟩), trivial⟩ ?_ | refine callS.at (iIsWatch_ok (newW []) (by simp [newW, newPosts]) (by simp [newW])) ⟨(by first | exact leA | exact LeV.aggR ⟨.inl rfl, leE_snap rfl (by simp [newPosts, newW]) (by simp [newW]), leE_snap rfl rfl rfl, .inl rfl, .inl rfl, trivial⟩ | exact LeV.aggR ⟨.inl rfl, leE_snap rfl (by simp [newPosts, newW]) (by simp [newW]), LeE.nil, .inl rfl, .inl rfl, trivial⟩), trivial⟩ ?_); simp -implicitDefEqProofs -dsimp only [go_sem, h0]) | (with_reducible refine And.intro (by first | omega | (show drawOk _ = true; kernel_rfl)) ?_; try (repeat1' (first | simp -implicitDefEqProofs -dsimp only [go_sem, h0] | simp -dsimp (disch := omega) only [wrap_i64]))))
     exact fin0 rfl
   · have e : newS K K.length = [some [.int .i64 0, .osl 2 0 K.length 3, .nilsl, .int .i64 1, .int .i64 0], some (rows Post.cs (newPosts K))] := by
       obtain ⟨m, hm⟩ : ∃ m, K.length = m + 1 := ⟨K.length - 1, by have := List.length_pos_iff.2 hK; omega⟩
       rw [hm, newS_1, ← hm, List.take_length]
     rw [e]
     by_cases g : K.length ≤ 8
     · have g' : decide ((8 : Int) < K.length) = false := decide_eq_false (by omega)
       simp -implicitDefEqProofs -dsimp only [go_sem, g']
       (first | refine callT.at (iIsWatch_ok (newW K) (by simp [newW, newPosts]; omega) (by simp [newW])) ⟨(by first | exact leA | exact LeV.aggR ⟨.inl rfl, leE_snap rfl (by simp [newPosts, newW]) (by simp [newW]), leE_snap rfl rfl rfl, .inl rfl, .inl rfl, trivial⟩ | exact LeV.aggR ⟨.inl rfl, leE_snap rfl (by simp [newPosts, newW]) (by simp [newW]), LeE.nil, .inl rfl, .inl rfl, trivial⟩), trivial⟩ ?_ | refine callS.at (iIsWatch_ok (newW K) (by simp [newW, newPosts]; omega) (by simp [newW])) ⟨(by first | exact leA | exact LeV.aggR ⟨.inl rfl, leE_snap rfl (by simp [newPosts, newW]) (by simp [newW]), leE_snap rfl rfl rfl, .inl rfl, .inl rfl, trivial⟩ | exact LeV.aggR ⟨.inl rfl, leE_snap rfl (by simp [newPosts, newW]) (by simp [newW]), LeE.nil, .inl rfl, .inl rfl, trivial⟩), trivial⟩ ?_)
       cases h : wB (newW K) with
       | false =>
         simp -implicitDefEqProofs -dsimp only [go_sem, h]
         obtain ⟨rfl, rfl⟩ := no h
         exact WeakR.drop' rfl (by rfl)
       | true =>
         simp -implicitDefEqProofs -dsimp only [go_sem, h]
         exact fin hK h
     · have g' : decide ((8 : Int) < K.length) = true := decide_eq_true (by omega)
       simp -implicitDefEqProofs -dsimp only [go_sem, g']
       have h : wB (newW K) = false := by
         cases h : wB (newW K) with
         | false => rfl
         | true => exact absurd (newW_len h) g
       obtain ⟨rfl, rfl⟩ := no h
       exact WeakR.drop' rfl (by rfl)
theorem iNewWatch_no (K : List Int) (hk : K.length ≤ 16777216) (h : wB (newW K) = false) : Ctr Try.prog 28 [IntS.sl K] [] watchN [] := by
 refine iNewWatch_pre K hk _ _ (fun h' => ?_) (fun _ h' => by rw [h] at h'; cases h') (fun _ => ⟨rfl, rfl⟩)
 subst h'
 simp [wB, newW, newPosts, countsB, inB', listedB] at h
theorem iNewWatch_nil : Ctr Try.prog 28 [IntS.sl []] [] (.tup [.agg [.int .i64 0, .nilsl, .nilsl, .int .i64 1, .int .i64 0], .bool true]) [] := by
 refine iNewWatch_pre [] (by simp) _ _ (fun _ => WeakR.drop' rfl (by rfl)) (fun h => absurd rfl h) (fun h => ?_)
 simp [wB, newW, newPosts, countsB, inB', listedB] at h
theorem iNewWatch_ok (K : List Int) (hk : K.length ≤ 16777216) (hK : K ≠ []) (h : wB (newW K) = true) : Ctr Try.prog 28 [IntS.sl K] [] (.tup [.agg [.int .i64 0, .osl 0 0 K.length 3, .nilsl, .int .i64 1, .int .i64 0], .bool true]) [some (rows Post.cs (newPosts K))] := by
 refine iNewWatch_pre K hk _ _ (fun h' => absurd h' hK) (fun _ _ => ?_) (fun h' => by rw [h] at h'; cases h')
 refine WeakR.pick [2] (by decide) (fun j hj => by omega) (.inl ?_) ?_
 · first | rfl | (simp [ren, pickF, posOf]; done)
 · simp only [pickH, List.map_cons, List.map_nil, pickB, List.getElem?_cons_zero, List.getElem?_cons_succ, map_ren_rows]
end Go.Proofs
end
section
set_option linter.unusedSimpArgs false
set_option linter.unusedVariables false
namespace Go.Lv
theorem Ctr.weak {P : Program} {f : FuncId} {args : List V} {r r' : V} {hout hout' : Hp} (h : Ctr P f args [] r hout) (hw : WeakR 0 r hout r' hout') : Ctr P f args [] r' hout' :=
 ⟨h.1, fun w vs m av h1 h2 h3 h4 h5 => (h.2 w vs m av h1 h2 h3 h4 h5).mono fun e w' ⟨v, m', g1, g2, g3, g4, g5⟩ => by
   obtain ⟨m2, k1, k2, k3⟩ := hw w m [] av w' m' v rfl (Nat.zero_le _) h2 g2.size g3 g4 g5
   exact ⟨v, m2, g1, g2, k1, k2, k3⟩⟩
section
variable {α : Type} {cs : α → List V} {w : Nat} [FlatP cs w]
end
end Go.Lv
end
section
set_option linter.unusedSimpArgs false
set_option linter.unusedVariables false
set_option maxRecDepth 100000
set_option maxHeartbeats 1000000
namespace Go.Proofs
open Go.Lv
def zW : Watch := ⟨0, [], [], 0, 0⟩
theorem frzT {a a' : V} {l : List V} (h : LeV a a') : WeakR 0 (.tup (a :: l)) [] (.tup (a' :: l)) [] := by
 intro w0 m0 h0 av0 W m val e1 e2 hlt hle H hx hi
 refine ⟨m, H, ?_, hi⟩
 change RV W m [] _ true val (.tup (a :: l)) at hx
 cases hx with
 | tup a vs ha hra =>
   refine .tup _ _ ha (fun i hi => ?_)
   match i, hi with
   | 0, hi => exact (hra 0 (by simp)).le h
   | i + 1, hi => exact hra (i + 1) (by simpa using hi)
theorem zeroLe : LeV zeroW zW.v := LeV.agg ⟨.inl rfl, LeE.nil, LeE.nil, .inl rfl, .inl rfl, trivial⟩
def stV (R : Option Watch) : V := .tup [(R.getD zW).v, .bool R.isSome]
theorem frzW (R : Option Watch) : WeakR 0 (stwR R) (stwH R) (stV R) [] := by
 cases R with
 | none => exact frzT zeroLe
 | some b =>
   refine WeakR.pick [] (by decide) (fun j hj => by omega) (.inl ?_) rfl
   simp [stV, stwR, stwH, Watch.o, Watch.v, ren, pickF, posOf, frzR, take_rows, map_ren_rows]
def rwW (a : Watch) (L : List WatchStep) : Watch := if runWB a L = true then (runWF a L).w else zW
def rwN (a : Watch) (L : List WatchStep) : Int := if runWB a L = true then (runWF a L).n else 0
def rwV (a : Watch) (L : List WatchStep) : V := .tup [(rwW a L).v, .int .i64 (rwN a L), .bool (runWB a L)]
theorem frzRn {a : Watch} {L : List WatchStep} (hb : runWB a L = true) : WeakR 0 (.tup [(runWF a L).w.o 0 1, .int .i64 (runWF a L).n, .bool true]) [some (rows Post.cs (runWF a L).w.Posts), some (rows Shock.cs (runWF a L).w.Shocks)] (rwV a L) [] := by
 refine WeakR.pick [] (by decide) (fun j hj => by omega) (.inl ?_) rfl
 simp [rwV, rwW, rwN, hb, Watch.o, Watch.v, ren, pickF, posOf, frzR, take_rows, map_ren_rows]
theorem frzRnNo {a : Watch} {L : List WatchStep} (hb : runWB a L = false) : WeakR 0 runWNo [] (rwV a L) [] := by
 have e : rwV a L = .tup [zW.v, .int .i64 0, .bool false] := by simp [rwV, rwW, rwN, hb]
 rw [e]
 exact frzT zeroLe
theorem sRunF (a : Watch) (L : List WatchStep) (hp : a.Posts.length ≤ 16777216) (hs : a.Shocks.length ≤ 16777216) (hL : lstR WatchStep.ok L) (hL2 : L.length ≤ 16777216) : Ctr Try.prog 26 [a.v, WatchStep.sl L] [] (rwV a L) [] := by
 cases hb : runWB a L with
 | false => exact (sRunWatch_no a L hp hs hL2 hb).weak (frzRnNo hb)
 | true => exact (sRunWatch_ok a L hL hb).weak (frzRn hb)
theorem iRunF (a : Watch) (L : List WatchStep) (hp : a.Posts.length ≤ 16777216) (hs : a.Shocks.length ≤ 16777216) (hL2 : L.length ≤ 16777216) : Ctr Try.prog 25 [a.v, WatchStep.sl L] [] (rwV a L) [] := by
 cases hb : runWB a L with
 | false => exact (iRunWatch_no a L hp hs hL2 hb).weak (frzRnNo hb)
 | true => exact (iRunWatch_ok a L hb).weak (frzRn hb)
def nwW (K : List Int) : Watch := if wB (newW K) = true then newW K else zW
def nwV (K : List Int) : V := .tup [(nwW K).v, .bool (wB (newW K))]
theorem frzNo {K : List Int} (hb : wB (newW K) = false) : WeakR 0 watchN [] (nwV K) [] := by
 have e : nwV K = .tup [zW.v, .bool false] := by simp [nwV, nwW, hb]
 rw [e]
 exact frzT zeroLe
theorem newPosts_all (K : List Int) : (newPosts K).length = K.length := by simp [newPosts]
theorem take_np (K : List Int) : (rows Post.cs (newPosts K)).take (K.length * 3) = rows Post.cs (newPosts K) := List.take_of_length_le (by rw [rows_len (w := 3) Post.csl, newPosts_all]; exact Nat.le_refl _)
theorem sNewF (K : List Int) (hk : K.length ≤ 16777216) : Ctr Try.prog 29 [IntS.sl K] [] (nwV K) [] := by
 cases hb : wB (newW K) with
 | false => exact (sNewWatch_no K hk hb).weak (frzNo hb)
 | true =>
   have e : nwV K = .tup [(newW K).v, .bool true] := by simp [nwV, nwW, hb]
   rw [e]
   refine (sNewWatch_ok K hk hb).weak (WeakR.pick [] (by decide) (fun j hj => by omega) (.inl ?_) rfl)
   simp [newW, Watch.v, ren, pickF, posOf, frzR, take_np, map_ren_rows, newPosts_all, rows_nil]
theorem iNewF (K : List Int) (hk : K.length ≤ 16777216) : Ctr Try.prog 28 [IntS.sl K] [] (nwV K) [] := by
 cases hb : wB (newW K) with
 | false => exact (iNewWatch_no K hk hb).weak (frzNo hb)
 | true =>
   by_cases hK : K = []
   · subst hK
     refine iNewWatch_nil.weak ?_
     have e : nwV [] = .tup [(newW []).v, .bool true] := by simp [nwV, nwW, hb]
     rw [e]
     exact frzT (LeV.agg ⟨.inl rfl, LeE.nil, LeE.nil, .inl rfl, .inl rfl, trivial⟩)
   · have e : nwV K = .tup [(newW K).v, .bool true] := by simp [nwV, nwW, hb]
     rw [e]
     refine ((iNewWatch_ok K hk hK hb).weak (r' := .tup [.agg [.int .i64 0, .sl K.length 3 (rows Post.cs (newPosts K)), .nilsl, .int .i64 1, .int .i64 0], .bool true]) (hout' := []) (WeakR.pick [] (by decide) (fun j hj => by omega) (.inl ?_) rfl)).weak (frzT ?_)
     · simp [ren, pickF, posOf, frzR, take_np, map_ren_rows]
     · refine LeV.agg ⟨.inl rfl, .inl ?_, LeE.nil, .inl rfl, .inl rfl, trivial⟩
       simp only [newW, newPosts_all]
theorem nwW_len (K : List Int) : (nwW K).Posts.length ≤ 100 ∧ (nwW K).Shocks.length ≤ 100 := by
 unfold nwW
 split
 · rename_i h
   have W := wB_ok h
   have a := W.plen
   have b := W.slen
   exact ⟨by omega, by omega⟩
 · simp [zW]
theorem sasc_eq {w : Watch} (W : WatchOk w) {i j : Nat} (hi : i < w.Shocks.length) (hj : j < w.Shocks.length) (h : w.Shocks[i].Number = w.Shocks[j].Number) : i = j := by
 have P := W.sasc
 rw [List.pairwise_iff_getElem] at P
 rcases Nat.lt_trichotomy i j with c | c | c
 · have := P i j (by simpa using hi) (by simpa using hj) c
   simp only [List.getElem_map] at this
   omega
 · exact c
 · have := P j i (by simpa using hj) (by simpa using hi) c
   simp only [List.getElem_map] at this
   omega
theorem shock_of {w : Watch} (W : WatchOk w) {n : Int} (h : decide (0 ≤ idxI (shockIs n) w.Shocks) = true) {i : Nat} (hi : i < w.Shocks.length) (hn : w.Shocks[i].Number = n) : shAt w (sAt w n) = w.Shocks[i] := by
 obtain ⟨j, hj, e, hp⟩ := idxI_get h
 have hs : sAt w n = j := by simp [sAt, e]
 rw [hs, shAt_get hj]
 have := sasc_eq W hi hj (by rw [hn]; simp [shockIs] at hp; omega)
 subst this
 rfl
theorem step_pub {w b : Watch} {n v : Int} (h : stepW w 7 n v = some b) {i : Nat} (hi : i < w.Shocks.length) (hn : w.Shocks[i].Number = n) : w.Shocks[i].State = 2 ∨ (w.Shocks[i].State = 1 ∧ 50 ≤ w.Shocks[i].Size) := by
 obtain ⟨a1, a2, a3, _⟩ := stepW_some h
 simp [stepWB] at a2
 have e := shock_of (wB_ok a1) (decide_eq_true a2.1) hi hn
 simp [makeB, chgB, e] at a3
 exact a3
theorem step_loc {w b : Watch} {n v : Int} (h : stepW w 5 n v = some b) {i : Nat} (hi : i < w.Shocks.length) (hn : w.Shocks[i].Number = n) : 3 ≤ w.Shocks[i].Seen := by
 obtain ⟨a1, a2, a3, _⟩ := stepW_some h
 simp [stepWB] at a2
 have e := shock_of (wB_ok a1) (decide_eq_true a2.1) hi hn
 simp [makeB, chgB, e] at a3
 exact a3.2
theorem step_keep {w b : Watch} {k n v : Int} (h : stepW w k n v = some b) : w.Now ≤ b.Now ∧ w.Archived ≤ b.Archived ∧ w.Next ≤ b.Next ∧ (b.Shocks.length : Int) + b.Archived - b.Next = w.Shocks.length + w.Archived - w.Next := by
 obtain ⟨a1, a2, a3, rfl, a5⟩ := stepW_some h
 unfold makeW
 split
 · rename_i hk
   simp [stepWB, hk] at a2
   refine ⟨by simp only []; omega, by simp only []; omega, by simp only []; omega, by simp only []⟩
 · split
   · refine ⟨by simp only []; omega, by simp only []; omega, by simp only []; omega, by simp only []⟩
   · split
     · refine ⟨by simp only []; omega, by simp only []; omega, by simp only []; omega, by simp only [List.length_append, List.length_cons, List.length_nil]; omega⟩
     · split
       · rename_i k1 k2 k4 k8
         subst k8
         simp [stepWB] at a2
         obtain ⟨j, hj, e, hp⟩ := idxI_get (decide_eq_true a2.1)
         have hs : sAt w n = j := by simp [sAt, e]
         refine ⟨by simp only []; omega, by simp only []; omega, by simp only []; omega, ?_⟩
         simp only [hs, List.length_append, List.length_take, List.length_drop]
         omega
       · refine ⟨by simp only []; omega, by simp only []; omega, by simp only []; omega, by simp only [List.length_set]⟩
end Go.Proofs
end
section
set_option linter.unusedSimpArgs false
set_option linter.unusedVariables false
set_option maxRecDepth 100000
namespace Go.Proofs
open Go.Lv
def u8R (x : Int) : Prop := 0 ≤ x ∧ x ≤ 255
def ByteS.cs (x : Int) : List V := [.int .u8 x]
instance instFlatPByteS : FlatP ByteS.cs 1 := ⟨fun _ => rfl, fun _ d => by cases d <;> rfl, fun _ => rfl, fun _ => rfl⟩
theorem ByteS.csl (a : Int) : (ByteS.cs a).length = 1 := rfl
abbrev ByteS.ok (x : Int) : Prop := u8R x
abbrev ByteS.sl (L : List Int) : V := .sl L.length 1 (Go.Lv.rows ByteS.cs L)

end Go.Proofs
end
section
set_option linter.unusedSimpArgs false
set_option linter.unusedVariables false
set_option maxRecDepth 100000
set_option maxHeartbeats 2000000
namespace Go.Proofs
open Go.Lv
theorem vBig_ok (L : List Int) : Ctr Try.prog 17 [ByteS.sl L] [] (.bool (decide (65536 < (L.length : Int)))) [] := by
 refine Ctr.intro Try.mixed Try.func17 rfl Try.okF17 ?_
 simp -implicitDefEqProofs -dsimp only [go_sem, Try.ntmps17, Try.results17]
 (repeat ((repeat1' (first | simp -implicitDefEqProofs -dsimp only [go_sem] | simp -dsimp (disch := omega) only [wrap_i64])); repeat (with_reducible refine sideA ?_)))
 exact WeakR.drop' rfl (by rfl)
theorem vPosts_ok (L : List Post) (hl : L.length ≤ 1048576) : Ctr Try.prog 79 [Post.sl L, Post.sl L] [] (.bool true) [] := by
 refine Ctr.intro Try.mixed Try.func79 rfl Try.okF79 ?_
 simp -implicitDefEqProofs -dsimp only [go_sem, Try.ntmps79, Try.results79]
 (repeat ((repeat1' (first | simp -implicitDefEqProofs -dsimp only [go_sem] | simp -dsimp (disch := omega) only [wrap_i64])); repeat (with_reducible refine sideA ?_)))
 refine LoopT.intro (fun i : Nat => i ≤ L.length) (fun i => ⟨[Post.sl L, Post.sl L, .undef, .undef, .undef, .int .i64 i, .undef, .undef, .undef, .undef, .undef, .undef, .undef, .undef, .undef, .undef, .undef, .undef, .undef, .undef, .undef, .undef, .undef, .undef, .undef, .undef], [], 0⟩) (fun i => L.length - i) 0 (Nat.zero_le _) ?_ (fun i hi => ?_)
 · refine Weak.cut (0) (by simp) (by simp) ?_ ?_
   · simp [LeC, LeV, ren, cutF]
   · rfl
 simp -implicitDefEqProofs -dsimp only [go_sem]
 refine condT.split (fun h1 => ?_) (fun h1 => ?_)
 · have hi' : i < L.length := by simpa using h1
   have hr := rows_at Post.csl hi'
   (repeat ((repeat1' (first | simp -implicitDefEqProofs -dsimp only [go_sem, h1, hr, Post.cs] | simp -dsimp (disch := omega) only [wrap_i64])); repeat (with_reducible refine sideA ?_)))
   refine ⟨i + 1, hi', ?_, by omega⟩
   refine Weak.cut (0) (by simp) (by simp) ?_ ?_
   · simp [LeC, LeV, ren, cutF]
   · rfl
 · (repeat ((repeat1' (first | simp -implicitDefEqProofs -dsimp only [go_sem, h1] | simp -dsimp (disch := omega) only [wrap_i64])); repeat (with_reducible refine sideA ?_)))
   exact WeakR.drop' rfl (by rfl)
theorem vShocks_ok (L : List Shock) (hl : L.length ≤ 1048576) : Ctr Try.prog 80 [Shock.sl L, Shock.sl L] [] (.bool true) [] := by
 refine Ctr.intro Try.mixed Try.func80 rfl Try.okF80 ?_
 simp -implicitDefEqProofs -dsimp only [go_sem, Try.ntmps80, Try.results80]
 (repeat ((repeat1' (first | simp -implicitDefEqProofs -dsimp only [go_sem] | simp -dsimp (disch := omega) only [wrap_i64])); repeat (with_reducible refine sideA ?_)))
 refine LoopT.intro (fun i : Nat => i ≤ L.length) (fun i => ⟨[Shock.sl L, Shock.sl L, .undef, .undef, .undef, .int .i64 i, .undef, .undef, .undef, .undef, .undef, .undef, .undef, .undef, .undef, .undef, .undef, .undef, .undef, .undef, .undef, .undef, .undef, .undef, .undef, .undef], [], 0⟩) (fun i => L.length - i) 0 (Nat.zero_le _) ?_ (fun i hi => ?_)
 · refine Weak.cut (0) (by simp) (by simp) ?_ ?_
   · simp [LeC, LeV, ren, cutF]
   · rfl
 simp -implicitDefEqProofs -dsimp only [go_sem]
 refine condT.split (fun h1 => ?_) (fun h1 => ?_)
 · have hi' : i < L.length := by simpa using h1
   have hr := rows_at Shock.csl hi'
   (repeat ((repeat1' (first | simp -implicitDefEqProofs -dsimp only [go_sem, h1, hr, Shock.cs] | simp -dsimp (disch := omega) only [wrap_i64])); repeat (with_reducible refine sideA ?_)))
   refine ⟨i + 1, hi', ?_, by omega⟩
   refine Weak.cut (0) (by simp) (by simp) ?_ ?_
   · simp [LeC, LeV, ren, cutF]
   · rfl
 · (repeat ((repeat1' (first | simp -implicitDefEqProofs -dsimp only [go_sem, h1] | simp -dsimp (disch := omega) only [wrap_i64])); repeat (with_reducible refine sideA ?_)))
   exact WeakR.drop' rfl (by rfl)
theorem vWatch_ok (w : Watch) (hp : w.Posts.length ≤ 1048576) (hs : w.Shocks.length ≤ 1048576) : Ctr Try.prog 21 [w.v, w.v] [] (.bool true) [] := by
 refine Ctr.intro Try.mixed Try.func21 rfl Try.okF21 ?_
 simp -implicitDefEqProofs -dsimp only [go_sem, Try.ntmps21, Try.results21]
 (repeat ((repeat1' (first | simp -implicitDefEqProofs -dsimp only [go_sem, Watch.v] | simp -dsimp (disch := omega) only [wrap_i64])); repeat (with_reducible refine sideA ?_)))
 (first | refine callT.at (vPosts_ok w.Posts hp) ⟨leA, leA, trivial⟩ ?_ | refine callS.at (vPosts_ok w.Posts hp) ⟨leA, leA, trivial⟩ ?_)
 (repeat ((repeat1' (first | simp -implicitDefEqProofs -dsimp only [go_sem] | simp -dsimp (disch := omega) only [wrap_i64])); repeat (with_reducible refine sideA ?_)))
 (first | refine callT.at (vShocks_ok w.Shocks hs) ⟨leA, leA, trivial⟩ ?_ | refine callS.at (vShocks_ok w.Shocks hs) ⟨leA, leA, trivial⟩ ?_)
 (repeat ((repeat1' (first | simp -implicitDefEqProofs -dsimp only [go_sem] | simp -dsimp (disch := omega) only [wrap_i64])); repeat (with_reducible refine sideA ?_)))
 exact WeakR.drop' rfl (by rfl)
end Go.Proofs
end
section
set_option linter.unusedSimpArgs false
set_option linter.unusedVariables false
set_option maxRecDepth 100000
set_option maxHeartbeats 1000000
namespace Go.Proofs
open Go.Lv
structure Cur where
 a : Int
 s : Int
def Cur.cs (B : List Int) (c : Cur) : List V := [ByteS.sl B, .int .i64 c.a, .int .u64 c.s]
def CB (B : List Int) : Prop := lstR u8R B
def Cur.le (c : Cur) (k : Int) : Prop := 0 ≤ c.a ∧ c.a ≤ k
theorem Cur.ren (B : List Int) (c : Cur) (f : Nat → R) (d : Nat) : (c.cs B).map (Go.Lv.ren f d) = c.cs B := by cases d <;> simp [Cur.cs, Go.Lv.ren]
theorem lendCur {B : List Int} {c : Cur} {h : Hp} {id : Nat} (hid : h[id]? = some (some (c.cs B))) : pickH [id] h false = [some (c.cs B)] := by
 simp only [pickH, List.map_cons, List.map_nil, pickB, hid, Cur.ren]
theorem lendCur2 {α : Type} {cs : α → List V} {w : Nat} [FlatP cs w] {L : List α} {B : List Int} {c : Cur} {h : Hp} {i j : Nat} (hi : h[i]? = some (some (c.cs B))) (hj : h[j]? = some (some (rows cs L))) : pickH [i, j] h false = [some (c.cs B), some (rows cs L)] := by
 simp only [pickH, List.map_cons, List.map_nil, pickB, hi, hj, Cur.ren, map_ren_rows]
theorem growCur (B : List Int) (c c' : Cur) : grown [some (c.cs B)] [some (c'.cs B)] := ⟨⟨rfl, rfl⟩, trivial⟩
theorem growCur2 {α : Type} {cs : α → List V} {L : List α} (B : List Int) (c c' : Cur) : grown [some (c.cs B), some (rows cs L)] [some (c'.cs B), some (rows cs L)] := ⟨⟨rfl, rfl⟩, ⟨rfl, rfl⟩, trivial⟩
theorem andI_255 (x : Int) : 0 ≤ andI .u64 x 255 ∧ andI .u64 x 255 ≤ 255 := by
 have h : ∀ y : BitVec 64, (y &&& BitVec.ofInt 64 255).toNat ≤ 255 := fun y => by
   rw [BitVec.toNat_and]
   exact Nat.le_trans Nat.and_le_right (by decide)
 have hb : (BitVec.ofInt 64 x &&& BitVec.ofInt 64 255).toNat ≤ 255 := h _
 have hw : andI .u64 x 255 = (((BitVec.ofInt 64 x &&& BitVec.ofInt 64 255).toNat : Nat) : Int) := by
   unfold andI
   show IntKind.u64.wrap (((BitVec.ofInt 64 x &&& BitVec.ofInt 64 255).toNat : Nat) : Int) = _
   generalize (BitVec.ofInt 64 x &&& BitVec.ofInt 64 255).toNat = n at hb
   simp [IntKind.wrap, IntKind.bits, IntKind.signed]
   omega
 rw [hw]
 omega
def nextB (B : List Int) (c : Cur) : Int := if c.a < B.length then B.getD c.a.toNat 0 else 0
def nextS (B : List Int) (c : Cur) : Int := IntKind.u64.wrap (IntKind.u64.wrap (IntKind.u64.wrap (c.s * 6364136223846793005) + IntKind.u64.wrap (nextB B c)) + 101717)
def nextC (B : List Int) (c : Cur) : Cur := ⟨c.a + 1, nextS B c⟩
def nextV (B : List Int) (c : Cur) : Int := if c.a < B.length then nextB B c else andI .u64 (shrI .u64 (nextS B c) 40) 255
theorem nextB_bd {B : List Int} (hB : CB B) {c : Cur} (h : 0 ≤ c.a) : 0 ≤ nextB B c ∧ nextB B c ≤ 255 := by
 unfold nextB
 split
 · have hi : c.a.toNat < B.length := by omega
   have := hB.2 _ (List.getElem_mem hi)
   simpa [List.getD, hi, u8R] using this
 · omega
theorem nextV_bd {B : List Int} (hB : CB B) {c : Cur} (h : 0 ≤ c.a) : 0 ≤ nextV B c ∧ nextV B c ≤ 255 := by
 unfold nextV
 split
 · exact nextB_bd hB h
 · exact andI_255 _
theorem next_ok {B : List Int} (hB : CB B) {c : Cur} (hc : c.le 4611686018427387904) : Ctr Try.prog 158 [.ptr 0 0] [some (c.cs B)] (.int .i64 (nextV B c)) [some ((nextC B c).cs B)] := by
 obtain ⟨a, s⟩ := c
 obtain ⟨ha, hak⟩ := hc
 dsimp only at ha hak
 have hw : IntKind.i64.wrap (a + 1) = a + 1 := wrap_i64 (by omega) (by omega)
 have hbl := hB.1
 by_cases h1 : a < B.length
 · obtain ⟨i, rfl⟩ : ∃ i : Nat, a = i := ⟨a.toNat, by omega⟩
   have hi : i < B.length := by omega
   have hr := rows_at ByteS.csl hi
   obtain ⟨b0, b1⟩ : 0 ≤ B[i] ∧ B[i] ≤ 255 := by have := hB.2 _ (List.getElem_mem hi); simpa [u8R] using this
   have hwb : IntKind.i64.wrap B[i] = B[i] := wrap_i64 (by omega) (by omega)
   have hd : decide ((i : Int) < (B.length : Int)) = true := by simp; omega
   have hd2 : decide ((i : Int) + 1 ≤ (B.length : Int)) = true := by simp; omega
   have e1 : nextB B ⟨i, s⟩ = B[i] := by simp [nextB, h1, List.getD, hi]
   have e2 : nextV B ⟨i, s⟩ = B[i] := by simp [nextV, h1, e1]
   rw [nextC, nextS, e1, e2]
   refine Ctr.intro Try.mixed Try.func158 rfl Try.okF158 ?_
   simp -implicitDefEqProofs -dsimp only [go_sem, Try.ntmps158, Try.results158]
   (repeat ((repeat1' (first | simp -implicitDefEqProofs -dsimp only [go_sem, Cur.cs, hw, hd, hd2, hr, ByteS.cs, hwb] | simp -dsimp (disch := omega) only [wrap_i64])); repeat (with_reducible refine sideA ?_)))
   exact WeakR.refl _ _ _
 · have hd : decide (a < (B.length : Int)) = false := by simp; omega
   have hd2 : decide (a + 1 ≤ (B.length : Int)) = false := by simp; omega
   have e3 : nextV B ⟨a, s⟩ = andI .u64 (shrI .u64 (nextS B ⟨a, s⟩) 40) 255 := by simp [nextV, h1]
   have e4 : nextB B ⟨a, s⟩ = 0 := by simp [nextB, h1]
   rw [nextC, e3]
   rw [nextS, e4]
   obtain ⟨e1, e2⟩ := andI_255 (shrI .u64 (IntKind.u64.wrap (IntKind.u64.wrap (IntKind.u64.wrap (s * 6364136223846793005) + IntKind.u64.wrap 0) + 101717)) 40)
   generalize hq : andI .u64 (shrI .u64 (IntKind.u64.wrap (IntKind.u64.wrap (IntKind.u64.wrap (s * 6364136223846793005) + IntKind.u64.wrap 0) + 101717)) 40) 255 = q at e1 e2 ⊢
   have hwq : IntKind.i64.wrap q = q := wrap_i64 (by omega) (by omega)
   refine Ctr.intro Try.mixed Try.func158 rfl Try.okF158 ?_
   simp -implicitDefEqProofs -dsimp only [go_sem, Try.ntmps158, Try.results158]
   (repeat ((repeat1' (first | simp -implicitDefEqProofs -dsimp only [go_sem, Cur.cs, hw, hd, hd2, hq] | simp -dsimp (disch := omega) only [wrap_i64])); repeat (with_reducible refine sideA ?_)))
   exact WeakR.refl _ _ _
def pickV (B : List Int) (n : Int) (c : Cur) : Int := if n ≤ 1 then 0 else if 200 < n then (nextV B c * 256 + nextV B (nextC B c)).tmod n else (nextV B c).tmod n
def pickC (B : List Int) (n : Int) (c : Cur) : Cur := if n ≤ 1 then c else if 200 < n then nextC B (nextC B c) else nextC B c
theorem pickC_le {B : List Int} {n k : Int} {c : Cur} (h : c.le k) : (pickC B n c).le (k + 2) := by
 unfold pickC nextC Cur.le at *
 split
 · omega
 · split <;> (simp only []; omega)
theorem pickV_bd {B : List Int} (hB : CB B) {n : Int} {c : Cur} (h : 0 ≤ c.a) : 0 ≤ pickV B n c ∧ (1 ≤ n → pickV B n c < n) := by
 have h1 := nextV_bd hB h
 have h2 := nextV_bd hB (c := nextC B c) (by simp [nextC]; omega)
 unfold pickV
 split
 · omega
 · split
   · exact ⟨Int.tmod_nonneg _ (by omega), fun _ => Int.tmod_lt_of_pos _ (by omega)⟩
   · exact ⟨Int.tmod_nonneg _ (by omega), fun _ => Int.tmod_lt_of_pos _ (by omega)⟩
theorem pick_ok {B : List Int} (hB : CB B) {c : Cur} (hc : c.le 4611686018427387903) (n : Int) (hn : n ≤ 1000000000) : Ctr Try.prog 90 [.ptr 0 0, .int .i64 n] [some (c.cs B)] (.int .i64 (pickV B n c)) [some ((pickC B n c).cs B)] := by
 obtain ⟨r1, r2⟩ := nextV_bd hB hc.1
 have hc1 : (nextC B c).le 4611686018427387904 := by obtain ⟨h, h'⟩ := hc; exact ⟨by simp [nextC]; omega, by simp [nextC]; omega⟩
 obtain ⟨q1, q2⟩ := nextV_bd hB hc1.1
 have p4 := next_ok hB (c := c) ⟨hc.1, by have := hc.2; omega⟩
 have q4 := next_ok hB hc1
 by_cases h1 : n ≤ 1
 · have hd : decide (n ≤ 1) = true := by simp [h1]
   rw [pickV, pickC, if_pos h1, if_pos h1]
   refine Ctr.intro Try.mixed Try.func90 rfl Try.okF90 ?_
   simp -implicitDefEqProofs -dsimp only [go_sem, Try.ntmps90, Try.results90]
   (repeat ((repeat1' (first | simp -implicitDefEqProofs -dsimp only [go_sem, hd] | simp -dsimp (disch := omega) only [wrap_i64])); repeat (with_reducible refine sideA ?_)))
   exact WeakR.refl _ _ _
 have hd : decide (n ≤ 1) = false := by simp; omega
 by_cases h2 : 200 < n
 · have hd2 : decide (200 < n) = true := by simp [h2]
   have hw : IntKind.i64.wrap (nextV B c * 256) = nextV B c * 256 := wrap_i64 (by omega) (by omega)
   have hw2 : IntKind.i64.wrap (nextV B c * 256 + nextV B (nextC B c)) = nextV B c * 256 + nextV B (nextC B c) := wrap_i64 (by omega) (by omega)
   rw [pickV, pickC, if_neg h1, if_neg h1, if_pos h2, if_pos h2]
   refine Ctr.intro Try.mixed Try.func90 rfl Try.okF90 ?_
   simp -implicitDefEqProofs -dsimp only [go_sem, Try.ntmps90, Try.results90]
   (repeat ((repeat1' (first | simp -implicitDefEqProofs -dsimp only [go_sem, hd] | simp -dsimp (disch := omega) only [wrap_i64])); repeat (with_reducible refine sideA ?_)))
   refine callS.lend [0] false p4 (by decide) ⟨leO, trivial⟩ (lendCur rfl) (growCur B _ _) (.inl rfl) ?_
   (repeat ((repeat1' (first | simp -implicitDefEqProofs -dsimp only [go_sem, hd2, hw, Cur.ren] | simp -dsimp (disch := omega) only [wrap_i64])); repeat (with_reducible refine sideA ?_)))
   refine callS.lend [0] false q4 (by decide) ⟨leO, trivial⟩ (lendCur rfl) (growCur B _ _) (.inl rfl) ?_
   (repeat ((repeat1' (first | simp -implicitDefEqProofs -dsimp only [go_sem, hw2, Cur.ren] | simp -dsimp (disch := omega) only [wrap_i64])); repeat (with_reducible refine sideA ?_)))
   exact WeakR.refl _ _ _
 · have hd2 : decide (200 < n) = false := by simp [h2]
   rw [pickV, pickC, if_neg h1, if_neg h1, if_neg h2, if_neg h2]
   refine Ctr.intro Try.mixed Try.func90 rfl Try.okF90 ?_
   simp -implicitDefEqProofs -dsimp only [go_sem, Try.ntmps90, Try.results90]
   (repeat ((repeat1' (first | simp -implicitDefEqProofs -dsimp only [go_sem, hd] | simp -dsimp (disch := omega) only [wrap_i64])); repeat (with_reducible refine sideA ?_)))
   refine callS.lend [0] false p4 (by decide) ⟨leO, trivial⟩ (lendCur rfl) (growCur B _ _) (.inl rfl) ?_
   (repeat ((repeat1' (first | simp -implicitDefEqProofs -dsimp only [go_sem, hd2, Cur.ren] | simp -dsimp (disch := omega) only [wrap_i64])); repeat (with_reducible refine sideA ?_)))
   exact WeakR.refl _ _ _
def oneV (B : List Int) (n : Int) (c : Cur) : Bool := pickV B n c == 0
theorem one_ok {B : List Int} (hB : CB B) {c : Cur} (hc : c.le 4611686018427387903) (n : Int) (hn : n ≤ 1000000000) : Ctr Try.prog 91 [.ptr 0 0, .int .i64 n] [some (c.cs B)] (.bool (oneV B n c)) [some ((pickC B n c).cs B)] := by
 refine Ctr.intro Try.mixed Try.func91 rfl Try.okF91 ?_
 simp -implicitDefEqProofs -dsimp only [go_sem, Try.ntmps91, Try.results91]
 (repeat ((repeat1' (first | simp -implicitDefEqProofs -dsimp only [go_sem] | simp -dsimp (disch := omega) only [wrap_i64])); repeat (with_reducible refine sideA ?_)))
 refine callS.lend [0] false (pick_ok hB hc n hn) (by decide) ⟨leO, leO, trivial⟩ (lendCur rfl) (growCur B _ _) (.inl rfl) ?_
 (repeat ((repeat1' (first | simp -implicitDefEqProofs -dsimp only [go_sem, Cur.ren] | simp -dsimp (disch := omega) only [wrap_i64])); repeat (with_reducible refine sideA ?_)))
 exact WeakR.refl _ _ _
def amongV (B : List Int) (K : List Int) (c : Cur) : Int := K.getD (pickV B K.length c).toNat 0
theorem amongV_mem {B : List Int} (hB : CB B) {K : List Int} (hK : 0 < K.length) {c : Cur} (h : 0 ≤ c.a) : amongV B K c ∈ K := by
 obtain ⟨h1, h2⟩ := pickV_bd hB (n := K.length) h
 have hi : (pickV B K.length c).toNat < K.length := by omega
 simp [amongV, List.getD, hi]
theorem among_ok {B : List Int} (hB : CB B) {c : Cur} (hc : c.le 4611686018427387903) (K : List Int) (hK0 : 0 < K.length) (hK : K.length ≤ 1000000000) : Ctr Try.prog 97 [.ptr 0 0, .osl 1 0 K.length 1] [some (c.cs B), some (rows IntS.cs K)] (.int .i64 (amongV B K c)) [some ((pickC B K.length c).cs B), some (rows IntS.cs K)] := by
 obtain ⟨h1, h2⟩ := pickV_bd hB (n := K.length) hc.1
 obtain ⟨i, hi'⟩ : ∃ i : Nat, pickV B K.length c = i := ⟨(pickV B K.length c).toNat, by omega⟩
 have hi : i < K.length := by omega
 have hr := rows_at IntS.csl hi
 have e : amongV B K c = K[i] := by simp [amongV, hi', List.getD, hi]
 have hp := pick_ok hB hc K.length (by omega)
 rw [hi'] at hp
 rw [e]
 refine Ctr.intro Try.mixed Try.func97 rfl Try.okF97 ?_
 simp -implicitDefEqProofs -dsimp only [go_sem, Try.ntmps97, Try.results97]
 (repeat ((repeat1' (first | simp -implicitDefEqProofs -dsimp only [go_sem] | simp -dsimp (disch := omega) only [wrap_i64])); repeat (with_reducible refine sideA ?_)))
 refine callS.lend [0] false hp (by decide) ⟨leO, leO, trivial⟩ (lendCur rfl) (growCur B _ _) (.inl rfl) ?_
 (repeat ((repeat1' (first | simp -implicitDefEqProofs -dsimp only [go_sem, Cur.ren, hr, IntS.cs] | simp -dsimp (disch := omega) only [wrap_i64])); repeat (with_reducible refine sideA ?_)))
 exact WeakR.refl _ _ _
end Go.Proofs
end
section
set_option linter.unusedSimpArgs false
set_option linter.unusedVariables false
set_option maxRecDepth 100000
set_option maxHeartbeats 2000000
namespace Go.Proofs
open Go.Lv
def stationsP (B : List Int) (k : Int) (r : V) (hout : Hp) : Prop := ∃ (K : List Int) (c : Cur), K.length ≤ 10 ∧ c.le k ∧ r = .osl 1 0 K.length 1 ∧ hout = [some (c.cs B), some (rows IntS.cs K)]
theorem watchStations_ok {B : List Int} (hB : CB B) {k : Int} (hk : k ≤ 1000000) {c : Cur} (hc : c.le k) : CtrP Try.prog 94 [.ptr 0 0] [some (c.cs B)] (stationsP B (k + 100)) := by
 refine CtrP.intro Try.mixed Try.func94 rfl Try.okF94 ?_
 simp -implicitDefEqProofs -dsimp only [go_sem, Try.ntmps94, Try.results94]
 (repeat ((repeat1' (first | simp -implicitDefEqProofs -dsimp only [go_sem] | simp -dsimp (disch := omega) only [wrap_i64])); repeat (with_reducible refine sideA ?_)))
 refine LoopT.intro (fun x : Nat × List Int × Cur => 1 ≤ x.1 ∧ x.1 ≤ 7 ∧ x.2.1.length + 1 ≤ x.1 ∧ x.2.2.le (k + 2 * x.1)) (fun x => ⟨[.ptr 0 0, .undef, .undef, .osl 1 0 x.2.1.length 1, .int .i64 x.1, .undef, .undef, .undef, .undef, .undef, .undef, .undef, .undef, .undef, .undef, .undef, .undef, .undef, .undef, .undef, .undef, .undef, .undef, .undef, .undef, .undef, .undef, .undef, .undef, .undef, .undef, .undef, .undef, .undef, .undef, .undef, .undef, .undef, .undef, .undef, .undef, .undef, .undef], [some (x.2.2.cs B), some (rows IntS.cs x.2.1)], 1⟩) (fun x => 7 - x.1) (1, [], c) ⟨Nat.le_refl 1, (by decide : 1 ≤ 7), Nat.le_refl 1, ⟨hc.1, by have := hc.2; simp only []; omega⟩⟩ ?_ (fun x hx => ?_)
 · refine Weak.cut (2) (by simp) (by simp) ?_ ?_
   · simp [LeC, LeV, ren, cutF]
   · simp [cutH, cutB, Cur.ren, rows]
 obtain ⟨n, K, c1⟩ := x
 obtain ⟨x1, x2, x3, x4⟩ := hx
 dsimp only at x1 x2 x3 x4
 simp -implicitDefEqProofs -dsimp only [go_sem]
 refine condT.split (fun h1 => ?_) (fun h1 => ?_) <;> simp -implicitDefEqProofs -dsimp only [go_sem, h1]
 · have hn : n < 7 := by have := of_decide_eq_true h1; omega
   have hw : IntKind.i64.wrap (4 * (n : Int)) = 4 * (n : Int) := wrap_i64 (by omega) (by omega)
   have hw2 : IntKind.i64.wrap ((n : Int) + 1) = ((n + 1 : Nat) : Int) := by rw [wrap_i64 (by omega) (by omega)]; omega
   have hc2 := pickC_le (B := B) (n := 3) x4
   refine callS.lend [0] false (one_ok hB ⟨x4.1, by have := x4.2; omega⟩ 3 (by omega)) (by decide) ⟨leO, leO, trivial⟩ (lendCur rfl) (growCur B _ _) (.inl rfl) ?_
   (repeat ((repeat1' (first | simp -implicitDefEqProofs -dsimp only [go_sem, hw, Cur.ren] | simp -dsimp (disch := omega) only [wrap_i64])); repeat (with_reducible refine sideA ?_)))
   refine condT.split (fun h2 => ?_) (fun h2 => ?_)
   · (repeat ((repeat1' (first | simp -implicitDefEqProofs -dsimp only [go_sem, h2, hw, hw2] | simp -dsimp (disch := omega) only [wrap_i64])); repeat (with_reducible refine sideA ?_)))
     refine ⟨(n + 1, K ++ [4 * (n : Int)], pickC B 3 c1), ⟨by simp only []; omega, by simp only []; omega, by simp only [List.length_append, List.length_singleton]; omega, ⟨hc2.1, by have := hc2.2; simp only []; omega⟩⟩, ?_, by simp only []; omega⟩
     refine Weak.cut (2) (by simp) (by simp) ?_ ?_
     · simp [LeC, LeV, ren, cutF]
     · simp only [← rows_snoc]; simp [cutH, cutB, Cur.ren, map_ren_rows, ren, IntS.cs]
   · (repeat ((repeat1' (first | simp -implicitDefEqProofs -dsimp only [go_sem, h2, hw2] | simp -dsimp (disch := omega) only [wrap_i64])); repeat (with_reducible refine sideA ?_)))
     refine ⟨(n + 1, K, pickC B 3 c1), ⟨by simp only []; omega, by simp only []; omega, by simp only []; omega, ⟨hc2.1, by have := hc2.2; simp only []; omega⟩⟩, ?_, by simp only []; omega⟩
     refine Weak.cut (2) (by simp) (by simp) ?_ ?_
     · simp [LeC, LeV, ren, cutF]
     · simp [cutH, cutB, Cur.ren, map_ren_rows]
 · have hn : n = 7 := by have := of_decide_eq_false h1; omega
   subst hn
   have hp := pickV_bd hB (n := 32) x4.1
   have hc2 := pickC_le (B := B) (n := 32) x4
   have fin : ∀ (K' : List Int) (c' : Cur), K'.length ≤ 10 → c'.le (k + 100) → stationsP B (k + 100) (.osl 1 0 K'.length 1) [some (c'.cs B), some (rows IntS.cs K')] := fun K' c' h h' => ⟨K', c', h, h', rfl, rfl⟩
   refine callS.lend [0] false (pick_ok hB ⟨x4.1, by have := x4.2; omega⟩ 32 (by omega)) (by decide) ⟨leO, leO, trivial⟩ (lendCur rfl) (growCur B _ _) (.inl rfl) ?_
   (repeat ((repeat1' (first | simp -implicitDefEqProofs -dsimp only [go_sem, Cur.ren] | simp -dsimp (disch := omega) only [wrap_i64])); repeat (with_reducible refine sideA ?_)))
   refine condT.split (fun h2 => ?_) (fun h2 => ?_)
   · (repeat ((repeat1' (first | simp -implicitDefEqProofs -dsimp only [go_sem, h2] | simp -dsimp (disch := omega) only [wrap_i64])); repeat (with_reducible refine sideA ?_)))
     have hc3 := pickC_le (B := B) (n := 4) hc2
     have bnd : (pickC B 32 c1).le 4611686018427387903 := ⟨hc2.1, by have := hc2.2; omega⟩
     refine callS.lend [0, 2] false (among_ok hB bnd [0, 4, 99, 100] (by decide) (by decide)) (by decide) ⟨leO, leO, trivial⟩ (lendCur2 rfl rfl) (growCur2 B _ _) (.inl rfl) ?_
     (repeat ((repeat1' (first | simp -implicitDefEqProofs -dsimp only [go_sem, Cur.ren] | simp -dsimp (disch := omega) only [wrap_i64])); repeat (with_reducible refine sideA ?_)))
     refine ⟨_, _, fin (K ++ [amongV B [0, 4, 99, 100] (pickC B 32 c1)]) (pickC B 4 (pickC B 32 c1)) (by simp only [List.length_append, List.length_singleton]; omega) ⟨hc3.1, by have := hc3.2; omega⟩, ?_⟩
     have hsn : rows IntS.cs K ++ [.int .i64 (amongV B [0, 4, 99, 100] (pickC B 32 c1))] = rows IntS.cs (K ++ [amongV B [0, 4, 99, 100] (pickC B 32 c1)]) := rows_snoc _ _
     rw [List.length_append, List.length_singleton, hsn]
     refine WeakR.pick [0, 1] (by decide) (fun j hj => by cases j <;> simp_all) (.inl ?_) ?_
     · simp [ren, pickF, posOf]
     · simp only [pickH, List.map_cons, List.map_nil, pickB, List.getElem?_cons_zero, List.getElem?_cons_succ, map_ren_rows, Cur.ren]; rfl
   · (repeat ((repeat1' (first | simp -implicitDefEqProofs -dsimp only [go_sem, h2] | simp -dsimp (disch := omega) only [wrap_i64])); repeat (with_reducible refine sideA ?_)))
     refine condT.split (fun h3 => ?_) (fun h3 => ?_)
     · (repeat ((repeat1' (first | simp -implicitDefEqProofs -dsimp only [go_sem, h3] | simp -dsimp (disch := omega) only [wrap_i64])); repeat (with_reducible refine sideA ?_)))
       refine LoopT.intro (fun x : List Int × Cur => x.1.length ≤ 9 ∧ x.2.le (k + 20 + 2 * x.1.length)) (fun x => ⟨[.ptr 0 0, .undef, .undef, .osl 1 0 x.1.length 1, .undef, .undef, .undef, .undef, .undef, .undef, .undef, .undef, .undef, .undef, .undef, .undef, .undef, .undef, .undef, .undef, .undef, .undef, .undef, .undef, .undef, .undef, .undef, .undef, .undef, .undef, .undef, .undef, .undef, .undef, .undef, .undef, .undef, .undef, .undef, .undef, .undef, .undef, .undef], [some (x.2.cs B), some (rows IntS.cs x.1)], 1⟩) (fun x => 10 - x.1.length) (K, pickC B 32 c1) ⟨by simp only []; omega, ⟨hc2.1, by have := hc2.2; simp only []; omega⟩⟩ ?_ (fun x hx => ?_)
       · refine Weak.cut (2) (by simp) (by simp) ?_ ?_
         · simp [LeC, LeV, ren, cutF]
         · simp [cutH, cutB, Cur.ren, map_ren_rows]
       obtain ⟨K2, c2⟩ := x
       obtain ⟨y1, y2⟩ := hx
       dsimp only at y1 y2
       have hp2 := pickV_bd hB (n := 2) y2.1
       have hc4 := pickC_le (B := B) (n := 2) y2
       simp -implicitDefEqProofs -dsimp only [go_sem]
       refine callS.lend [0] false (pick_ok hB ⟨y2.1, by have := y2.2; omega⟩ 2 (by omega)) (by decide) ⟨leO, leO, trivial⟩ (lendCur rfl) (growCur B _ _) (.inl rfl) ?_
       generalize hq : pickV B 2 c2 = q at *
       have hwq : IntKind.i64.wrap (8 + q) = 8 + q := wrap_i64 (by omega) (by omega)
       have hwl : IntKind.i64.wrap (50 + (K2.length : Int)) = 50 + (K2.length : Int) := wrap_i64 (by omega) (by omega)
       (repeat ((repeat1' (first | simp -implicitDefEqProofs -dsimp only [go_sem, Cur.ren, hwq] | simp -dsimp (disch := omega) only [wrap_i64])); repeat (with_reducible refine sideA ?_)))
       refine condT.split (fun h4 => ?_) (fun h4 => ?_)
       · (repeat ((repeat1' (first | simp -implicitDefEqProofs -dsimp only [go_sem, h4, hwl] | simp -dsimp (disch := omega) only [wrap_i64])); repeat (with_reducible refine sideA ?_)))
         have h4' := of_decide_eq_true h4
         refine ⟨(K2 ++ [50 + (K2.length : Int)], pickC B 2 c2), ⟨by simp only [List.length_append, List.length_singleton]; omega, ⟨hc4.1, by have := hc4.2; simp only [List.length_append, List.length_singleton]; omega⟩⟩, ?_, by simp only [List.length_append, List.length_singleton]; omega⟩
         refine Weak.cut (2) (by simp) (by simp) ?_ ?_
         · simp [LeC, LeV, ren, cutF]
         · simp only [← rows_snoc]; simp [cutH, cutB, Cur.ren, map_ren_rows, ren, IntS.cs]
       · (repeat ((repeat1' (first | simp -implicitDefEqProofs -dsimp only [go_sem, h4] | simp -dsimp (disch := omega) only [wrap_i64])); repeat (with_reducible refine sideA ?_)))
         exact ⟨_, _, fin K2 (pickC B 2 c2) (by omega) ⟨hc4.1, by have := hc4.2; omega⟩, WeakR.refl _ _ _⟩
     · (repeat ((repeat1' (first | simp -implicitDefEqProofs -dsimp only [go_sem, h3] | simp -dsimp (disch := omega) only [wrap_i64])); repeat (with_reducible refine sideA ?_)))
       exact ⟨_, _, fin K (pickC B 32 c1) (by omega) ⟨hc2.1, by have := hc2.2; omega⟩, WeakR.refl _ _ _⟩
end Go.Proofs
end
section
set_option linter.unusedSimpArgs false
set_option linter.unusedVariables false
set_option maxRecDepth 100000
set_option maxHeartbeats 2000000
namespace Go.Proofs
open Go.Lv
def stepP (B : List Int) (k : Int) (r : V) (hout : Hp) : Prop := ∃ (s : WatchStep) (c : Cur), s.ok ∧ c.le k ∧ r = s.v ∧ hout = [some (c.cs B)]
theorem step_fin {B : List Int} {k : Int} {h : Hp} {K N v : Int} {c : Cur} (h0 : h[0]? = some (some (c.cs B))) (hK : i64R K) (hN : i64R N) (hv : i64R v) (hc : c.le k) : RelR 1 (.agg [.int .i64 K, .int .i64 N, .int .i64 v]) h (stepP B k) := by
 refine ⟨_, _, ⟨⟨K, N, v⟩, c, ⟨hK, hN, hv⟩, hc, rfl, rfl⟩, WeakR.pick [0] (by decide) (fun j hj => by cases j <;> simp_all) (.inl rfl) ?_⟩
 simp only [pickH, List.map_cons, List.map_nil, pickB, h0, Cur.ren]
theorem lmono {c : Cur} {a b : Int} (h : c.le a) (hab : a ≤ b) : c.le b := ⟨h.1, Int.le_trans h.2 hab⟩
theorem i64R_mem {K : List Int} {v : Int} (h : v ∈ K) (hk : ∀ x ∈ K, i64R x) : i64R v := hk v h
theorem watchStep_ok {B : List Int} (hB : CB B) {k : Int} (hk : k ≤ 1000000) {c : Cur} (hc : c.le k) (w : Watch) (hw : w.ok) (hp : w.Posts.length ≤ 1000) (hs : w.Shocks.length ≤ 1000) : CtrP Try.prog 73 [.ptr 0 0, w.v] [some (c.cs B)] (stepP B (k + 20)) := by
 have hcb : ∀ {c' : Cur} {k' : Int}, c'.le k' → k' ≤ 4000000 → c'.le 4611686018427387903 := fun h h' => ⟨h.1, by have := h.2; omega⟩
 refine CtrP.intro Try.mixed Try.func73 rfl Try.okF73 ?_
 simp -implicitDefEqProofs -dsimp only [go_sem, Try.ntmps73, Try.results73]
 (repeat ((repeat1' (first | simp -implicitDefEqProofs -dsimp only [go_sem, Watch.v] | simp -dsimp (disch := omega) only [wrap_i64])); repeat (with_reducible refine sideA ?_)))
 have pc1 := among_ok hB (hcb hc (by omega)) [1, 1, 2, 3, 4, 4, 5, 6, 7, 8] (by simp) (by simp); have hc1 := pickC_le (B := B) (n := (([1, 1, 2, 3, 4, 4, 5, 6, 7, 8] : List Int).length : Int)) hc; have pvc1 := amongV_mem hB (K := [1, 1, 2, 3, 4, 4, 5, 6, 7, 8]) (by simp) hc.1; generalize amongV B [1, 1, 2, 3, 4, 4, 5, 6, 7, 8] c = vc1 at pc1 pvc1; generalize pickC B (([1, 1, 2, 3, 4, 4, 5, 6, 7, 8] : List Int).length : Int) c = c1 at pc1 hc1; (first | refine callS.lend [0, 3] false pc1 (by decide) ⟨leO, leO, trivial⟩ (lendCur2 rfl rfl) (growCur2 B _ _) (.inl rfl) ?_)
 have hk1 : i64R vc1 := i64R_mem pvc1 (by simp [i64R])
 (repeat ((repeat1' (first | simp -implicitDefEqProofs -dsimp only [go_sem, Cur.ren] | simp -dsimp (disch := omega) only [wrap_i64])); repeat (with_reducible refine sideA ?_)))
 refine condT.split (fun h1 => ?_) (fun h1 => ?_)
 · have h1' := of_decide_eq_true h1
   obtain ⟨i, hi⟩ : ∃ i : Nat, pickV B w.Posts.length c1 = i := ⟨(pickV B w.Posts.length c1).toNat, by have := (pickV_bd hB (n := w.Posts.length) hc1.1).1; omega⟩
   have hi' : i < w.Posts.length := by have := (pickV_bd hB (n := w.Posts.length) hc1.1).2; omega
   have hr0 := rows_drop_at0 (cs := Post.cs) Post.csl hi'
   (repeat ((repeat1' (first | simp -implicitDefEqProofs -dsimp only [go_sem, h1] | simp -dsimp (disch := omega) only [wrap_i64])); repeat (with_reducible refine sideA ?_)))
   refine clT.tree (fun s2 => ∃ (st : Int) (c2 : Cur), i64R st ∧ c2.le (k + 4) ∧ s2 = ⟨[.ptr 0 0, .undef, .undef, .ptr 1 0, .ptr 2 0, .int .i64 1, .int .i64 st, .int .i64 vc1, .undef, .undef, .undef, .undef, .undef, .undef, .undef, .undef, .undef, .undef, .undef, .undef, .undef, .undef, .undef, .undef, .undef, .undef, .undef, .undef, .undef, .undef, .undef, .undef, .undef, .undef, .undef, .undef, .undef, .undef, .undef, .undef, .undef, .undef, .undef, .undef, .undef, .undef, .undef, .undef, .undef, .undef, .undef, .undef, .undef, .undef, .undef, .undef, .undef, .undef, .undef, .undef, .undef, .undef, .undef, .undef, .undef, .undef, .undef, .undef, .undef, .undef, .undef, .undef, .undef, .undef, .undef, .undef, .undef, .undef, .undef, .undef, .undef, .undef, .undef, .undef, .undef, .undef, .undef, .undef, .undef, .undef, .undef, .undef, .undef, .undef, .undef, .undef, .undef, .undef, .undef, .undef, .undef, .undef, .undef], [some (c2.cs B), some w.cs, some [.int .i64 0, .int .i64 0, .int .i64 0]], 1⟩) (.take 0 (.take 2 (.take 3 (.alt 1 (.alt 4 (.alt 5 (.alt 6 (.take 7 (.take 8 (.alt 9 (.alt 10 .done .stop) .stop))) .stop) .stop) .stop) (.alt 4 (.alt 1 (.alt 5 (.alt 6 (.take 7 (.take 8 (.alt 9 (.alt 10 .done .stop) .stop))) .stop) .stop) (.alt 5 (.alt 1 (.alt 6 (.take 7 (.take 8 (.alt 9 (.alt 10 .done .stop) .stop))) .stop) (.alt 6 (.alt 1 (.take 7 (.take 8 (.alt 9 (.alt 10 .done .stop) .stop))) .stop) .stop)) .stop)) .stop))))) (by kernel_rfl) (fun s2 hs2 => ?_) ?_
   · obtain ⟨st, c2, hst, hc2, rfl⟩ := hs2
     have hst1 : st = st := rfl
     (repeat ((repeat1' (first | simp -implicitDefEqProofs -dsimp only [go_sem, Watch.cs] | simp -dsimp (disch := omega) only [wrap_i64])); repeat (with_reducible refine sideA ?_)))
     refine condT.split (fun h2 => ?_) (fun h2 => ?_)
     · have h2' := of_decide_eq_true h2
       obtain ⟨j, hj⟩ : ∃ j : Nat, pickV B w.Shocks.length c2 = j := ⟨(pickV B w.Shocks.length c2).toNat, by have := (pickV_bd hB (n := w.Shocks.length) hc2.1).1; omega⟩
       have hj' : j < w.Shocks.length := by have := (pickV_bd hB (n := w.Shocks.length) hc2.1).2; omega
       have hr0 := rows_at Shock.csl hj'
       (repeat ((repeat1' (first | simp -implicitDefEqProofs -dsimp only [go_sem, h2] | simp -dsimp (disch := omega) only [wrap_i64])); repeat (with_reducible refine sideA ?_)))
       refine clT.tree (fun s2 => ∃ (c3 : Cur), c3.le (k + 6) ∧ s2 = ⟨[.ptr 0 0, .undef, .undef, .ptr 1 0, .ptr 2 0, .int .i64 1, .int .i64 st, .int .i64 vc1, .ptr 3 0, .undef, .undef, .undef, .undef, .undef, .undef, .undef, .undef, .undef, .undef, .undef, .undef, .undef, .undef, .undef, .undef, .undef, .undef, .undef, .undef, .undef, .undef, .undef, .undef, .undef, .undef, .undef, .undef, .undef, .undef, .undef, .undef, .undef, .undef, .undef, .undef, .undef, .undef, .undef, .undef, .undef, .undef, .undef, .undef, .undef, .undef, .undef, .undef, .undef, .undef, .undef, .undef, .undef, .undef, .undef, .undef, .undef, .undef, .undef, .undef, .undef, .undef, .undef, .undef, .undef, .undef, .undef, .undef, .undef, .undef, .undef, .undef, .undef, .undef, .undef, .undef, .undef, .undef, .undef, .undef, .undef, .undef, .undef, .undef, .undef, .undef, .undef, .undef, .undef, .undef, .undef, .undef, .undef, .undef], [some (c3.cs B), some w.cs, some [.int .i64 0, .int .i64 0, .int .i64 0], some w.Shocks[j].cs], 1⟩) (.take 0 (.take 2 (.take 3 (.alt 1 (.alt 4 (.alt 5 (.alt 6 (.take 7 (.alt 8 (.alt 9 (.alt 10 .done .stop) .stop) (.alt 9 (.alt 8 (.alt 10 .done .stop) .stop) .stop))) (.alt 9 (.alt 6 (.take 7 (.alt 8 (.alt 10 .done .stop) .stop)) .stop) .stop)) (.alt 9 (.alt 5 (.alt 6 (.take 7 (.alt 8 (.alt 10 .done .stop) .stop)) .stop) .stop) .stop)) (.alt 9 (.alt 4 (.alt 5 (.alt 6 (.take 7 (.alt 8 (.alt 10 .done .stop) .stop)) .stop) .stop) .stop) .stop)) (.alt 4 (.alt 1 (.alt 5 (.alt 6 (.take 7 (.alt 8 (.alt 9 (.alt 10 .done .stop) .stop) (.alt 9 (.alt 8 (.alt 10 .done .stop) .stop) .stop))) (.alt 9 (.alt 6 (.take 7 (.alt 8 (.alt 10 .done .stop) .stop)) .stop) .stop)) (.alt 9 (.alt 5 (.alt 6 (.take 7 (.alt 8 (.alt 10 .done .stop) .stop)) .stop) .stop) .stop)) (.alt 5 (.alt 1 (.alt 6 (.take 7 (.alt 8 (.alt 9 (.alt 10 .done .stop) .stop) (.alt 9 (.alt 8 (.alt 10 .done .stop) .stop) .stop))) (.alt 9 (.alt 6 (.take 7 (.alt 8 (.alt 10 .done .stop) .stop)) .stop) .stop)) (.alt 6 (.alt 1 (.take 7 (.alt 8 (.alt 9 (.alt 10 .done .stop) .stop) (.alt 9 (.alt 8 (.alt 10 .done .stop) .stop) .stop))) (.alt 9 (.alt 1 (.take 7 (.alt 8 (.alt 10 .done .stop) .stop)) .stop) .stop)) (.alt 9 (.alt 1 (.alt 6 (.take 7 (.alt 8 (.alt 10 .done .stop) .stop)) .stop) (.alt 6 (.alt 1 (.take 7 (.alt 8 (.alt 10 .done .stop) .stop)) .stop) .stop)) .stop))) (.alt 9 (.alt 1 (.alt 5 (.alt 6 (.take 7 (.alt 8 (.alt 10 .done .stop) .stop)) .stop) .stop) (.alt 5 (.alt 1 (.alt 6 (.take 7 (.alt 8 (.alt 10 .done .stop) .stop)) .stop) (.alt 6 (.alt 1 (.take 7 (.alt 8 (.alt 10 .done .stop) .stop)) .stop) .stop)) .stop)) .stop))) (.alt 9 (.alt 1 (.alt 4 (.alt 5 (.alt 6 (.take 7 (.alt 8 (.alt 10 .done .stop) .stop)) .stop) .stop) .stop) (.alt 4 (.alt 1 (.alt 5 (.alt 6 (.take 7 (.alt 8 (.alt 10 .done .stop) .stop)) .stop) .stop) (.alt 5 (.alt 1 (.alt 6 (.take 7 (.alt 8 (.alt 10 .done .stop) .stop)) .stop) (.alt 6 (.alt 1 (.take 7 (.alt 8 (.alt 10 .done .stop) .stop)) .stop) .stop)) .stop)) .stop)) .stop)))))) (by kernel_rfl) (fun s2 hs2 => ?_) ?_
       · obtain ⟨c8, hc8, rfl⟩ := hs2
         have hnm : i64R w.Shocks[j].Number := (hw.2.2.1.2 _ (List.getElem_mem hj')).1
         (repeat ((repeat1' (first | simp -implicitDefEqProofs -dsimp only [go_sem, Shock.cs] | simp -dsimp (disch := omega) only [wrap_i64])); repeat (with_reducible refine sideA ?_)))
         generalize w.Shocks[j].Number = nm at hnm ⊢
         generalize w.Shocks[j].State = sv
         have pc3 := one_ok hB (hcb hc8 (by omega)) 2 (by omega); have hc3 := pickC_le (B := B) (n := 2) hc8; generalize oneV B 2 c8 = vc3 at pc3; generalize pickC B 2 c8 = c3 at pc3 hc3; refine callS.lend [0] false pc3 (by decide) ⟨leO, leO, trivial⟩ (lendCur rfl) (growCur B _ _) (.inl rfl) ?_
         (repeat ((repeat1' (first | simp -implicitDefEqProofs -dsimp only [go_sem, Cur.ren] | simp -dsimp (disch := omega) only [wrap_i64])); repeat (with_reducible refine sideA ?_)))
         refine guardT.split (fun h7 => ?_) (fun h7 => ?_) <;> (repeat ((repeat1' (first | simp -implicitDefEqProofs -dsimp only [go_sem, h7, Cur.ren] | simp -dsimp (disch := omega) only [wrap_i64])); repeat (with_reducible refine sideA ?_)))
         · (first | refine callT.at (l1In_ok _ _ _) ⟨leA, leA, leA, trivial⟩ ?_ | refine callS.at (l1In_ok _ _ _) ⟨leA, leA, leA, trivial⟩ ?_)
           (repeat ((repeat1' (first | simp -implicitDefEqProofs -dsimp only [go_sem] | simp -dsimp (disch := omega) only [wrap_i64])); repeat (with_reducible refine sideA ?_)))
           refine condT.split (fun h8 => ?_) (fun h8 => ?_)
           · have hsv : sv = 0 ∨ sv = 1 ∨ sv = 2 ∨ sv = 3 := by simp [inB'] at h8; omega
             rcases hsv with rfl | rfl | rfl | rfl
             all_goals
               (repeat ((repeat1' (first | simp -implicitDefEqProofs -dsimp only [go_sem, h8] | simp -dsimp (disch := omega) only [wrap_i64])); repeat (with_reducible refine sideA ?_)))
               have pc4 := one_ok hB (hcb hc3 (by omega)) 40 (by omega); have hc4 := pickC_le (B := B) (n := 40) hc3; generalize oneV B 40 c3 = vc4 at pc4; generalize pickC B 40 c3 = c4 at pc4 hc4; refine callS.lend [0] false pc4 (by decide) ⟨leO, leO, trivial⟩ (lendCur rfl) (growCur B _ _) (.inl rfl) ?_
               (repeat ((repeat1' (first | simp -implicitDefEqProofs -dsimp only [go_sem, Cur.ren] | simp -dsimp (disch := omega) only [wrap_i64])); repeat (with_reducible refine sideA ?_)))
               refine condT.split (fun h5 => ?_) (fun h5 => ?_)
               · (repeat ((repeat1' (first | simp -implicitDefEqProofs -dsimp only [go_sem, h5] | simp -dsimp (disch := omega) only [wrap_i64])); repeat (with_reducible refine sideA ?_)))
                 have pc5 := among_ok hB (hcb hc4 (by omega)) [0, 9, 6] (by simp) (by simp); have hc5 := pickC_le (B := B) (n := (([0, 9, 6] : List Int).length : Int)) hc4; have pvc5 := amongV_mem hB (K := [0, 9, 6]) (by simp) hc4.1; generalize amongV B [0, 9, 6] c4 = vc5 at pc5 pvc5; generalize pickC B (([0, 9, 6] : List Int).length : Int) c4 = c5 at pc5 hc5; (first | refine callS.lend [0, 3] false pc5 (by decide) ⟨leO, leO, trivial⟩ (lendCur2 rfl rfl) (growCur2 B _ _) (.inl rfl) ?_ | refine callS.lend [0, 4] false pc5 (by decide) ⟨leO, leO, trivial⟩ (lendCur2 rfl rfl) (growCur2 B _ _) (.inl rfl) ?_ | refine callS.lend [0, 5] false pc5 (by decide) ⟨leO, leO, trivial⟩ (lendCur2 rfl rfl) (growCur2 B _ _) (.inl rfl) ?_ | refine callS.lend [0, 6] false pc5 (by decide) ⟨leO, leO, trivial⟩ (lendCur2 rfl rfl) (growCur2 B _ _) (.inl rfl) ?_ | refine callS.lend [0, 7] false pc5 (by decide) ⟨leO, leO, trivial⟩ (lendCur2 rfl rfl) (growCur2 B _ _) (.inl rfl) ?_ | refine callS.lend [0, 8] false pc5 (by decide) ⟨leO, leO, trivial⟩ (lendCur2 rfl rfl) (growCur2 B _ _) (.inl rfl) ?_)
                 (repeat ((repeat1' (first | simp -implicitDefEqProofs -dsimp only [go_sem, Cur.ren] | simp -dsimp (disch := omega) only [wrap_i64])); repeat (with_reducible refine sideA ?_)))
                 have pc6 := among_ok hB (hcb hc5 (by omega)) [0, nm, 999] (by simp) (by simp); have hc6 := pickC_le (B := B) (n := (([0, nm, 999] : List Int).length : Int)) hc5; have pvc6 := amongV_mem hB (K := [0, nm, 999]) (by simp) hc5.1; generalize amongV B [0, nm, 999] c5 = vc6 at pc6 pvc6; generalize pickC B (([0, nm, 999] : List Int).length : Int) c5 = c6 at pc6 hc6; (first | refine callS.lend [0, 3] false pc6 (by decide) ⟨leO, leO, trivial⟩ (lendCur2 rfl rfl) (growCur2 B _ _) (.inl rfl) ?_ | refine callS.lend [0, 4] false pc6 (by decide) ⟨leO, leO, trivial⟩ (lendCur2 rfl rfl) (growCur2 B _ _) (.inl rfl) ?_ | refine callS.lend [0, 5] false pc6 (by decide) ⟨leO, leO, trivial⟩ (lendCur2 rfl rfl) (growCur2 B _ _) (.inl rfl) ?_ | refine callS.lend [0, 6] false pc6 (by decide) ⟨leO, leO, trivial⟩ (lendCur2 rfl rfl) (growCur2 B _ _) (.inl rfl) ?_ | refine callS.lend [0, 7] false pc6 (by decide) ⟨leO, leO, trivial⟩ (lendCur2 rfl rfl) (growCur2 B _ _) (.inl rfl) ?_ | refine callS.lend [0, 8] false pc6 (by decide) ⟨leO, leO, trivial⟩ (lendCur2 rfl rfl) (growCur2 B _ _) (.inl rfl) ?_)
                 (repeat ((repeat1' (first | simp -implicitDefEqProofs -dsimp only [go_sem, Cur.ren] | simp -dsimp (disch := omega) only [wrap_i64])); repeat (with_reducible refine sideA ?_)))
                 have pc7 := among_ok hB (hcb hc6 (by omega)) [0, 1, -1] (by simp) (by simp); have hc7 := pickC_le (B := B) (n := (([0, 1, -1] : List Int).length : Int)) hc6; have pvc7 := amongV_mem hB (K := [0, 1, -1]) (by simp) hc6.1; generalize amongV B [0, 1, -1] c6 = vc7 at pc7 pvc7; generalize pickC B (([0, 1, -1] : List Int).length : Int) c6 = c7 at pc7 hc7; (first | refine callS.lend [0, 3] false pc7 (by decide) ⟨leO, leO, trivial⟩ (lendCur2 rfl rfl) (growCur2 B _ _) (.inl rfl) ?_ | refine callS.lend [0, 4] false pc7 (by decide) ⟨leO, leO, trivial⟩ (lendCur2 rfl rfl) (growCur2 B _ _) (.inl rfl) ?_ | refine callS.lend [0, 5] false pc7 (by decide) ⟨leO, leO, trivial⟩ (lendCur2 rfl rfl) (growCur2 B _ _) (.inl rfl) ?_ | refine callS.lend [0, 6] false pc7 (by decide) ⟨leO, leO, trivial⟩ (lendCur2 rfl rfl) (growCur2 B _ _) (.inl rfl) ?_ | refine callS.lend [0, 7] false pc7 (by decide) ⟨leO, leO, trivial⟩ (lendCur2 rfl rfl) (growCur2 B _ _) (.inl rfl) ?_ | refine callS.lend [0, 8] false pc7 (by decide) ⟨leO, leO, trivial⟩ (lendCur2 rfl rfl) (growCur2 B _ _) (.inl rfl) ?_)
                 (repeat ((repeat1' (first | simp -implicitDefEqProofs -dsimp only [go_sem, Cur.ren] | simp -dsimp (disch := omega) only [wrap_i64])); repeat (with_reducible refine sideA ?_)))
                 exact step_fin rfl (i64R_mem pvc5 (by simp [i64R])) (i64R_mem pvc6 (by intro x hx; simp at hx; rcases hx with rfl | rfl | rfl <;> first | assumption | simp [i64R])) (i64R_mem pvc7 (by simp [i64R])) (lmono hc7 (by simp only [List.length_cons, List.length_nil] at *; omega))
               · (repeat ((repeat1' (first | simp -implicitDefEqProofs -dsimp only [go_sem, h5] | simp -dsimp (disch := omega) only [wrap_i64])); repeat (with_reducible refine sideA ?_)))
                 repeat' (first | (refine condT.split (fun h6 => ?_) (fun h6 => ?_) <;> (repeat ((repeat1' (first | simp -implicitDefEqProofs -dsimp only [go_sem, h6, Cur.ren] | simp -dsimp (disch := omega) only [wrap_i64])); repeat (with_reducible refine sideA ?_)))) | (exact step_fin rfl (by first | assumption | (simp [i64R]; done) | exact i64R_mem pvc5 (by simp [i64R])) (by first | assumption | (simp [i64R]; done) | exact i64R_mem pvc5 (by simp [i64R])) (by first | assumption | (simp [i64R]; done) | exact i64R_mem pvc5 (by simp [i64R])) (by first | exact lmono hc5 (by omega) | exact lmono hc4 (by omega))) | (have pc5 := among_ok hB (hcb hc4 (by omega)) [1, 100, 6000, 6001, 1000001, 0] (by simp) (by simp); have hc5 := pickC_le (B := B) (n := (([1, 100, 6000, 6001, 1000001, 0] : List Int).length : Int)) hc4; have pvc5 := amongV_mem hB (K := [1, 100, 6000, 6001, 1000001, 0]) (by simp) hc4.1; generalize amongV B [1, 100, 6000, 6001, 1000001, 0] c4 = vc5 at pc5 pvc5; generalize pickC B (([1, 100, 6000, 6001, 1000001, 0] : List Int).length : Int) c4 = c5 at pc5 hc5; (first | refine callS.lend [0, 3] false pc5 (by decide) ⟨leO, leO, trivial⟩ (lendCur2 rfl rfl) (growCur2 B _ _) (.inl rfl) ?_ | refine callS.lend [0, 4] false pc5 (by decide) ⟨leO, leO, trivial⟩ (lendCur2 rfl rfl) (growCur2 B _ _) (.inl rfl) ?_ | refine callS.lend [0, 5] false pc5 (by decide) ⟨leO, leO, trivial⟩ (lendCur2 rfl rfl) (growCur2 B _ _) (.inl rfl) ?_ | refine callS.lend [0, 6] false pc5 (by decide) ⟨leO, leO, trivial⟩ (lendCur2 rfl rfl) (growCur2 B _ _) (.inl rfl) ?_ | refine callS.lend [0, 7] false pc5 (by decide) ⟨leO, leO, trivial⟩ (lendCur2 rfl rfl) (growCur2 B _ _) (.inl rfl) ?_ | refine callS.lend [0, 8] false pc5 (by decide) ⟨leO, leO, trivial⟩ (lendCur2 rfl rfl) (growCur2 B _ _) (.inl rfl) ?_); (repeat ((repeat1' (first | simp -implicitDefEqProofs -dsimp only [go_sem, Cur.ren] | simp -dsimp (disch := omega) only [wrap_i64])); repeat (with_reducible refine sideA ?_)))) | (have pc5 := among_ok hB (hcb hc4 (by omega)) [-20, 12, 30, 49, 50, 95, 96] (by simp) (by simp); have hc5 := pickC_le (B := B) (n := (([-20, 12, 30, 49, 50, 95, 96] : List Int).length : Int)) hc4; have pvc5 := amongV_mem hB (K := [-20, 12, 30, 49, 50, 95, 96]) (by simp) hc4.1; generalize amongV B [-20, 12, 30, 49, 50, 95, 96] c4 = vc5 at pc5 pvc5; generalize pickC B (([-20, 12, 30, 49, 50, 95, 96] : List Int).length : Int) c4 = c5 at pc5 hc5; (first | refine callS.lend [0, 3] false pc5 (by decide) ⟨leO, leO, trivial⟩ (lendCur2 rfl rfl) (growCur2 B _ _) (.inl rfl) ?_ | refine callS.lend [0, 4] false pc5 (by decide) ⟨leO, leO, trivial⟩ (lendCur2 rfl rfl) (growCur2 B _ _) (.inl rfl) ?_ | refine callS.lend [0, 5] false pc5 (by decide) ⟨leO, leO, trivial⟩ (lendCur2 rfl rfl) (growCur2 B _ _) (.inl rfl) ?_ | refine callS.lend [0, 6] false pc5 (by decide) ⟨leO, leO, trivial⟩ (lendCur2 rfl rfl) (growCur2 B _ _) (.inl rfl) ?_ | refine callS.lend [0, 7] false pc5 (by decide) ⟨leO, leO, trivial⟩ (lendCur2 rfl rfl) (growCur2 B _ _) (.inl rfl) ?_ | refine callS.lend [0, 8] false pc5 (by decide) ⟨leO, leO, trivial⟩ (lendCur2 rfl rfl) (growCur2 B _ _) (.inl rfl) ?_); (repeat ((repeat1' (first | simp -implicitDefEqProofs -dsimp only [go_sem, Cur.ren] | simp -dsimp (disch := omega) only [wrap_i64])); repeat (with_reducible refine sideA ?_)))) | (have pc5 := among_ok hB (hcb hc4 (by omega)) [0, 1, -3, 10, -10, 11] (by simp) (by simp); have hc5 := pickC_le (B := B) (n := (([0, 1, -3, 10, -10, 11] : List Int).length : Int)) hc4; have pvc5 := amongV_mem hB (K := [0, 1, -3, 10, -10, 11]) (by simp) hc4.1; generalize amongV B [0, 1, -3, 10, -10, 11] c4 = vc5 at pc5 pvc5; generalize pickC B (([0, 1, -3, 10, -10, 11] : List Int).length : Int) c4 = c5 at pc5 hc5; (first | refine callS.lend [0, 3] false pc5 (by decide) ⟨leO, leO, trivial⟩ (lendCur2 rfl rfl) (growCur2 B _ _) (.inl rfl) ?_ | refine callS.lend [0, 4] false pc5 (by decide) ⟨leO, leO, trivial⟩ (lendCur2 rfl rfl) (growCur2 B _ _) (.inl rfl) ?_ | refine callS.lend [0, 5] false pc5 (by decide) ⟨leO, leO, trivial⟩ (lendCur2 rfl rfl) (growCur2 B _ _) (.inl rfl) ?_ | refine callS.lend [0, 6] false pc5 (by decide) ⟨leO, leO, trivial⟩ (lendCur2 rfl rfl) (growCur2 B _ _) (.inl rfl) ?_ | refine callS.lend [0, 7] false pc5 (by decide) ⟨leO, leO, trivial⟩ (lendCur2 rfl rfl) (growCur2 B _ _) (.inl rfl) ?_ | refine callS.lend [0, 8] false pc5 (by decide) ⟨leO, leO, trivial⟩ (lendCur2 rfl rfl) (growCur2 B _ _) (.inl rfl) ?_); (repeat ((repeat1' (first | simp -implicitDefEqProofs -dsimp only [go_sem, Cur.ren] | simp -dsimp (disch := omega) only [wrap_i64])); repeat (with_reducible refine sideA ?_)))))
           · (repeat ((repeat1' (first | simp -implicitDefEqProofs -dsimp only [go_sem, h8] | simp -dsimp (disch := omega) only [wrap_i64])); repeat (with_reducible refine sideA ?_)))
             have pc4 := one_ok hB (hcb hc3 (by omega)) 40 (by omega); have hc4 := pickC_le (B := B) (n := 40) hc3; generalize oneV B 40 c3 = vc4 at pc4; generalize pickC B 40 c3 = c4 at pc4 hc4; refine callS.lend [0] false pc4 (by decide) ⟨leO, leO, trivial⟩ (lendCur rfl) (growCur B _ _) (.inl rfl) ?_
             (repeat ((repeat1' (first | simp -implicitDefEqProofs -dsimp only [go_sem, Cur.ren] | simp -dsimp (disch := omega) only [wrap_i64])); repeat (with_reducible refine sideA ?_)))
             refine condT.split (fun h5 => ?_) (fun h5 => ?_)
             · (repeat ((repeat1' (first | simp -implicitDefEqProofs -dsimp only [go_sem, h5] | simp -dsimp (disch := omega) only [wrap_i64])); repeat (with_reducible refine sideA ?_)))
               have pc5 := among_ok hB (hcb hc4 (by omega)) [0, 9, 6] (by simp) (by simp); have hc5 := pickC_le (B := B) (n := (([0, 9, 6] : List Int).length : Int)) hc4; have pvc5 := amongV_mem hB (K := [0, 9, 6]) (by simp) hc4.1; generalize amongV B [0, 9, 6] c4 = vc5 at pc5 pvc5; generalize pickC B (([0, 9, 6] : List Int).length : Int) c4 = c5 at pc5 hc5; (first | refine callS.lend [0, 3] false pc5 (by decide) ⟨leO, leO, trivial⟩ (lendCur2 rfl rfl) (growCur2 B _ _) (.inl rfl) ?_ | refine callS.lend [0, 4] false pc5 (by decide) ⟨leO, leO, trivial⟩ (lendCur2 rfl rfl) (growCur2 B _ _) (.inl rfl) ?_ | refine callS.lend [0, 5] false pc5 (by decide) ⟨leO, leO, trivial⟩ (lendCur2 rfl rfl) (growCur2 B _ _) (.inl rfl) ?_ | refine callS.lend [0, 6] false pc5 (by decide) ⟨leO, leO, trivial⟩ (lendCur2 rfl rfl) (growCur2 B _ _) (.inl rfl) ?_ | refine callS.lend [0, 7] false pc5 (by decide) ⟨leO, leO, trivial⟩ (lendCur2 rfl rfl) (growCur2 B _ _) (.inl rfl) ?_ | refine callS.lend [0, 8] false pc5 (by decide) ⟨leO, leO, trivial⟩ (lendCur2 rfl rfl) (growCur2 B _ _) (.inl rfl) ?_)
               (repeat ((repeat1' (first | simp -implicitDefEqProofs -dsimp only [go_sem, Cur.ren] | simp -dsimp (disch := omega) only [wrap_i64])); repeat (with_reducible refine sideA ?_)))
               have pc6 := among_ok hB (hcb hc5 (by omega)) [0, nm, 999] (by simp) (by simp); have hc6 := pickC_le (B := B) (n := (([0, nm, 999] : List Int).length : Int)) hc5; have pvc6 := amongV_mem hB (K := [0, nm, 999]) (by simp) hc5.1; generalize amongV B [0, nm, 999] c5 = vc6 at pc6 pvc6; generalize pickC B (([0, nm, 999] : List Int).length : Int) c5 = c6 at pc6 hc6; (first | refine callS.lend [0, 3] false pc6 (by decide) ⟨leO, leO, trivial⟩ (lendCur2 rfl rfl) (growCur2 B _ _) (.inl rfl) ?_ | refine callS.lend [0, 4] false pc6 (by decide) ⟨leO, leO, trivial⟩ (lendCur2 rfl rfl) (growCur2 B _ _) (.inl rfl) ?_ | refine callS.lend [0, 5] false pc6 (by decide) ⟨leO, leO, trivial⟩ (lendCur2 rfl rfl) (growCur2 B _ _) (.inl rfl) ?_ | refine callS.lend [0, 6] false pc6 (by decide) ⟨leO, leO, trivial⟩ (lendCur2 rfl rfl) (growCur2 B _ _) (.inl rfl) ?_ | refine callS.lend [0, 7] false pc6 (by decide) ⟨leO, leO, trivial⟩ (lendCur2 rfl rfl) (growCur2 B _ _) (.inl rfl) ?_ | refine callS.lend [0, 8] false pc6 (by decide) ⟨leO, leO, trivial⟩ (lendCur2 rfl rfl) (growCur2 B _ _) (.inl rfl) ?_)
               (repeat ((repeat1' (first | simp -implicitDefEqProofs -dsimp only [go_sem, Cur.ren] | simp -dsimp (disch := omega) only [wrap_i64])); repeat (with_reducible refine sideA ?_)))
               have pc7 := among_ok hB (hcb hc6 (by omega)) [0, 1, -1] (by simp) (by simp); have hc7 := pickC_le (B := B) (n := (([0, 1, -1] : List Int).length : Int)) hc6; have pvc7 := amongV_mem hB (K := [0, 1, -1]) (by simp) hc6.1; generalize amongV B [0, 1, -1] c6 = vc7 at pc7 pvc7; generalize pickC B (([0, 1, -1] : List Int).length : Int) c6 = c7 at pc7 hc7; (first | refine callS.lend [0, 3] false pc7 (by decide) ⟨leO, leO, trivial⟩ (lendCur2 rfl rfl) (growCur2 B _ _) (.inl rfl) ?_ | refine callS.lend [0, 4] false pc7 (by decide) ⟨leO, leO, trivial⟩ (lendCur2 rfl rfl) (growCur2 B _ _) (.inl rfl) ?_ | refine callS.lend [0, 5] false pc7 (by decide) ⟨leO, leO, trivial⟩ (lendCur2 rfl rfl) (growCur2 B _ _) (.inl rfl) ?_ | refine callS.lend [0, 6] false pc7 (by decide) ⟨leO, leO, trivial⟩ (lendCur2 rfl rfl) (growCur2 B _ _) (.inl rfl) ?_ | refine callS.lend [0, 7] false pc7 (by decide) ⟨leO, leO, trivial⟩ (lendCur2 rfl rfl) (growCur2 B _ _) (.inl rfl) ?_ | refine callS.lend [0, 8] false pc7 (by decide) ⟨leO, leO, trivial⟩ (lendCur2 rfl rfl) (growCur2 B _ _) (.inl rfl) ?_)
               (repeat ((repeat1' (first | simp -implicitDefEqProofs -dsimp only [go_sem, Cur.ren] | simp -dsimp (disch := omega) only [wrap_i64])); repeat (with_reducible refine sideA ?_)))
               exact step_fin rfl (i64R_mem pvc5 (by simp [i64R])) (i64R_mem pvc6 (by intro x hx; simp at hx; rcases hx with rfl | rfl | rfl <;> first | assumption | simp [i64R])) (i64R_mem pvc7 (by simp [i64R])) (lmono hc7 (by simp only [List.length_cons, List.length_nil] at *; omega))
             · (repeat ((repeat1' (first | simp -implicitDefEqProofs -dsimp only [go_sem, h5] | simp -dsimp (disch := omega) only [wrap_i64])); repeat (with_reducible refine sideA ?_)))
               repeat' (first | (refine condT.split (fun h6 => ?_) (fun h6 => ?_) <;> (repeat ((repeat1' (first | simp -implicitDefEqProofs -dsimp only [go_sem, h6, Cur.ren] | simp -dsimp (disch := omega) only [wrap_i64])); repeat (with_reducible refine sideA ?_)))) | (exact step_fin rfl (by first | assumption | (simp [i64R]; done) | exact i64R_mem pvc5 (by simp [i64R])) (by first | assumption | (simp [i64R]; done) | exact i64R_mem pvc5 (by simp [i64R])) (by first | assumption | (simp [i64R]; done) | exact i64R_mem pvc5 (by simp [i64R])) (by first | exact lmono hc5 (by omega) | exact lmono hc4 (by omega))) | (have pc5 := among_ok hB (hcb hc4 (by omega)) [1, 100, 6000, 6001, 1000001, 0] (by simp) (by simp); have hc5 := pickC_le (B := B) (n := (([1, 100, 6000, 6001, 1000001, 0] : List Int).length : Int)) hc4; have pvc5 := amongV_mem hB (K := [1, 100, 6000, 6001, 1000001, 0]) (by simp) hc4.1; generalize amongV B [1, 100, 6000, 6001, 1000001, 0] c4 = vc5 at pc5 pvc5; generalize pickC B (([1, 100, 6000, 6001, 1000001, 0] : List Int).length : Int) c4 = c5 at pc5 hc5; (first | refine callS.lend [0, 3] false pc5 (by decide) ⟨leO, leO, trivial⟩ (lendCur2 rfl rfl) (growCur2 B _ _) (.inl rfl) ?_ | refine callS.lend [0, 4] false pc5 (by decide) ⟨leO, leO, trivial⟩ (lendCur2 rfl rfl) (growCur2 B _ _) (.inl rfl) ?_ | refine callS.lend [0, 5] false pc5 (by decide) ⟨leO, leO, trivial⟩ (lendCur2 rfl rfl) (growCur2 B _ _) (.inl rfl) ?_ | refine callS.lend [0, 6] false pc5 (by decide) ⟨leO, leO, trivial⟩ (lendCur2 rfl rfl) (growCur2 B _ _) (.inl rfl) ?_ | refine callS.lend [0, 7] false pc5 (by decide) ⟨leO, leO, trivial⟩ (lendCur2 rfl rfl) (growCur2 B _ _) (.inl rfl) ?_ | refine callS.lend [0, 8] false pc5 (by decide) ⟨leO, leO, trivial⟩ (lendCur2 rfl rfl) (growCur2 B _ _) (.inl rfl) ?_); (repeat ((repeat1' (first | simp -implicitDefEqProofs -dsimp only [go_sem, Cur.ren] | simp -dsimp (disch := omega) only [wrap_i64])); repeat (with_reducible refine sideA ?_)))) | (have pc5 := among_ok hB (hcb hc4 (by omega)) [-20, 12, 30, 49, 50, 95, 96] (by simp) (by simp); have hc5 := pickC_le (B := B) (n := (([-20, 12, 30, 49, 50, 95, 96] : List Int).length : Int)) hc4; have pvc5 := amongV_mem hB (K := [-20, 12, 30, 49, 50, 95, 96]) (by simp) hc4.1; generalize amongV B [-20, 12, 30, 49, 50, 95, 96] c4 = vc5 at pc5 pvc5; generalize pickC B (([-20, 12, 30, 49, 50, 95, 96] : List Int).length : Int) c4 = c5 at pc5 hc5; (first | refine callS.lend [0, 3] false pc5 (by decide) ⟨leO, leO, trivial⟩ (lendCur2 rfl rfl) (growCur2 B _ _) (.inl rfl) ?_ | refine callS.lend [0, 4] false pc5 (by decide) ⟨leO, leO, trivial⟩ (lendCur2 rfl rfl) (growCur2 B _ _) (.inl rfl) ?_ | refine callS.lend [0, 5] false pc5 (by decide) ⟨leO, leO, trivial⟩ (lendCur2 rfl rfl) (growCur2 B _ _) (.inl rfl) ?_ | refine callS.lend [0, 6] false pc5 (by decide) ⟨leO, leO, trivial⟩ (lendCur2 rfl rfl) (growCur2 B _ _) (.inl rfl) ?_ | refine callS.lend [0, 7] false pc5 (by decide) ⟨leO, leO, trivial⟩ (lendCur2 rfl rfl) (growCur2 B _ _) (.inl rfl) ?_ | refine callS.lend [0, 8] false pc5 (by decide) ⟨leO, leO, trivial⟩ (lendCur2 rfl rfl) (growCur2 B _ _) (.inl rfl) ?_); (repeat ((repeat1' (first | simp -implicitDefEqProofs -dsimp only [go_sem, Cur.ren] | simp -dsimp (disch := omega) only [wrap_i64])); repeat (with_reducible refine sideA ?_)))) | (have pc5 := among_ok hB (hcb hc4 (by omega)) [0, 1, -3, 10, -10, 11] (by simp) (by simp); have hc5 := pickC_le (B := B) (n := (([0, 1, -3, 10, -10, 11] : List Int).length : Int)) hc4; have pvc5 := amongV_mem hB (K := [0, 1, -3, 10, -10, 11]) (by simp) hc4.1; generalize amongV B [0, 1, -3, 10, -10, 11] c4 = vc5 at pc5 pvc5; generalize pickC B (([0, 1, -3, 10, -10, 11] : List Int).length : Int) c4 = c5 at pc5 hc5; (first | refine callS.lend [0, 3] false pc5 (by decide) ⟨leO, leO, trivial⟩ (lendCur2 rfl rfl) (growCur2 B _ _) (.inl rfl) ?_ | refine callS.lend [0, 4] false pc5 (by decide) ⟨leO, leO, trivial⟩ (lendCur2 rfl rfl) (growCur2 B _ _) (.inl rfl) ?_ | refine callS.lend [0, 5] false pc5 (by decide) ⟨leO, leO, trivial⟩ (lendCur2 rfl rfl) (growCur2 B _ _) (.inl rfl) ?_ | refine callS.lend [0, 6] false pc5 (by decide) ⟨leO, leO, trivial⟩ (lendCur2 rfl rfl) (growCur2 B _ _) (.inl rfl) ?_ | refine callS.lend [0, 7] false pc5 (by decide) ⟨leO, leO, trivial⟩ (lendCur2 rfl rfl) (growCur2 B _ _) (.inl rfl) ?_ | refine callS.lend [0, 8] false pc5 (by decide) ⟨leO, leO, trivial⟩ (lendCur2 rfl rfl) (growCur2 B _ _) (.inl rfl) ?_); (repeat ((repeat1' (first | simp -implicitDefEqProofs -dsimp only [go_sem, Cur.ren] | simp -dsimp (disch := omega) only [wrap_i64])); repeat (with_reducible refine sideA ?_)))))
         · skip
           have pc4 := one_ok hB (hcb hc3 (by omega)) 40 (by omega); have hc4 := pickC_le (B := B) (n := 40) hc3; generalize oneV B 40 c3 = vc4 at pc4; generalize pickC B 40 c3 = c4 at pc4 hc4; refine callS.lend [0] false pc4 (by decide) ⟨leO, leO, trivial⟩ (lendCur rfl) (growCur B _ _) (.inl rfl) ?_
           (repeat ((repeat1' (first | simp -implicitDefEqProofs -dsimp only [go_sem, Cur.ren] | simp -dsimp (disch := omega) only [wrap_i64])); repeat (with_reducible refine sideA ?_)))
           refine condT.split (fun h5 => ?_) (fun h5 => ?_)
           · (repeat ((repeat1' (first | simp -implicitDefEqProofs -dsimp only [go_sem, h5] | simp -dsimp (disch := omega) only [wrap_i64])); repeat (with_reducible refine sideA ?_)))
             have pc5 := among_ok hB (hcb hc4 (by omega)) [0, 9, 6] (by simp) (by simp); have hc5 := pickC_le (B := B) (n := (([0, 9, 6] : List Int).length : Int)) hc4; have pvc5 := amongV_mem hB (K := [0, 9, 6]) (by simp) hc4.1; generalize amongV B [0, 9, 6] c4 = vc5 at pc5 pvc5; generalize pickC B (([0, 9, 6] : List Int).length : Int) c4 = c5 at pc5 hc5; (first | refine callS.lend [0, 3] false pc5 (by decide) ⟨leO, leO, trivial⟩ (lendCur2 rfl rfl) (growCur2 B _ _) (.inl rfl) ?_ | refine callS.lend [0, 4] false pc5 (by decide) ⟨leO, leO, trivial⟩ (lendCur2 rfl rfl) (growCur2 B _ _) (.inl rfl) ?_ | refine callS.lend [0, 5] false pc5 (by decide) ⟨leO, leO, trivial⟩ (lendCur2 rfl rfl) (growCur2 B _ _) (.inl rfl) ?_ | refine callS.lend [0, 6] false pc5 (by decide) ⟨leO, leO, trivial⟩ (lendCur2 rfl rfl) (growCur2 B _ _) (.inl rfl) ?_ | refine callS.lend [0, 7] false pc5 (by decide) ⟨leO, leO, trivial⟩ (lendCur2 rfl rfl) (growCur2 B _ _) (.inl rfl) ?_ | refine callS.lend [0, 8] false pc5 (by decide) ⟨leO, leO, trivial⟩ (lendCur2 rfl rfl) (growCur2 B _ _) (.inl rfl) ?_)
             (repeat ((repeat1' (first | simp -implicitDefEqProofs -dsimp only [go_sem, Cur.ren] | simp -dsimp (disch := omega) only [wrap_i64])); repeat (with_reducible refine sideA ?_)))
             have pc6 := among_ok hB (hcb hc5 (by omega)) [0, nm, 999] (by simp) (by simp); have hc6 := pickC_le (B := B) (n := (([0, nm, 999] : List Int).length : Int)) hc5; have pvc6 := amongV_mem hB (K := [0, nm, 999]) (by simp) hc5.1; generalize amongV B [0, nm, 999] c5 = vc6 at pc6 pvc6; generalize pickC B (([0, nm, 999] : List Int).length : Int) c5 = c6 at pc6 hc6; (first | refine callS.lend [0, 3] false pc6 (by decide) ⟨leO, leO, trivial⟩ (lendCur2 rfl rfl) (growCur2 B _ _) (.inl rfl) ?_ | refine callS.lend [0, 4] false pc6 (by decide) ⟨leO, leO, trivial⟩ (lendCur2 rfl rfl) (growCur2 B _ _) (.inl rfl) ?_ | refine callS.lend [0, 5] false pc6 (by decide) ⟨leO, leO, trivial⟩ (lendCur2 rfl rfl) (growCur2 B _ _) (.inl rfl) ?_ | refine callS.lend [0, 6] false pc6 (by decide) ⟨leO, leO, trivial⟩ (lendCur2 rfl rfl) (growCur2 B _ _) (.inl rfl) ?_ | refine callS.lend [0, 7] false pc6 (by decide) ⟨leO, leO, trivial⟩ (lendCur2 rfl rfl) (growCur2 B _ _) (.inl rfl) ?_ | refine callS.lend [0, 8] false pc6 (by decide) ⟨leO, leO, trivial⟩ (lendCur2 rfl rfl) (growCur2 B _ _) (.inl rfl) ?_)
             (repeat ((repeat1' (first | simp -implicitDefEqProofs -dsimp only [go_sem, Cur.ren] | simp -dsimp (disch := omega) only [wrap_i64])); repeat (with_reducible refine sideA ?_)))
             have pc7 := among_ok hB (hcb hc6 (by omega)) [0, 1, -1] (by simp) (by simp); have hc7 := pickC_le (B := B) (n := (([0, 1, -1] : List Int).length : Int)) hc6; have pvc7 := amongV_mem hB (K := [0, 1, -1]) (by simp) hc6.1; generalize amongV B [0, 1, -1] c6 = vc7 at pc7 pvc7; generalize pickC B (([0, 1, -1] : List Int).length : Int) c6 = c7 at pc7 hc7; (first | refine callS.lend [0, 3] false pc7 (by decide) ⟨leO, leO, trivial⟩ (lendCur2 rfl rfl) (growCur2 B _ _) (.inl rfl) ?_ | refine callS.lend [0, 4] false pc7 (by decide) ⟨leO, leO, trivial⟩ (lendCur2 rfl rfl) (growCur2 B _ _) (.inl rfl) ?_ | refine callS.lend [0, 5] false pc7 (by decide) ⟨leO, leO, trivial⟩ (lendCur2 rfl rfl) (growCur2 B _ _) (.inl rfl) ?_ | refine callS.lend [0, 6] false pc7 (by decide) ⟨leO, leO, trivial⟩ (lendCur2 rfl rfl) (growCur2 B _ _) (.inl rfl) ?_ | refine callS.lend [0, 7] false pc7 (by decide) ⟨leO, leO, trivial⟩ (lendCur2 rfl rfl) (growCur2 B _ _) (.inl rfl) ?_ | refine callS.lend [0, 8] false pc7 (by decide) ⟨leO, leO, trivial⟩ (lendCur2 rfl rfl) (growCur2 B _ _) (.inl rfl) ?_)
             (repeat ((repeat1' (first | simp -implicitDefEqProofs -dsimp only [go_sem, Cur.ren] | simp -dsimp (disch := omega) only [wrap_i64])); repeat (with_reducible refine sideA ?_)))
             exact step_fin rfl (i64R_mem pvc5 (by simp [i64R])) (i64R_mem pvc6 (by intro x hx; simp at hx; rcases hx with rfl | rfl | rfl <;> first | assumption | simp [i64R])) (i64R_mem pvc7 (by simp [i64R])) (lmono hc7 (by simp only [List.length_cons, List.length_nil] at *; omega))
           · (repeat ((repeat1' (first | simp -implicitDefEqProofs -dsimp only [go_sem, h5] | simp -dsimp (disch := omega) only [wrap_i64])); repeat (with_reducible refine sideA ?_)))
             repeat' (first | (refine condT.split (fun h6 => ?_) (fun h6 => ?_) <;> (repeat ((repeat1' (first | simp -implicitDefEqProofs -dsimp only [go_sem, h6, Cur.ren] | simp -dsimp (disch := omega) only [wrap_i64])); repeat (with_reducible refine sideA ?_)))) | (exact step_fin rfl (by first | assumption | (simp [i64R]; done) | exact i64R_mem pvc5 (by simp [i64R])) (by first | assumption | (simp [i64R]; done) | exact i64R_mem pvc5 (by simp [i64R])) (by first | assumption | (simp [i64R]; done) | exact i64R_mem pvc5 (by simp [i64R])) (by first | exact lmono hc5 (by omega) | exact lmono hc4 (by omega))) | (have pc5 := among_ok hB (hcb hc4 (by omega)) [1, 100, 6000, 6001, 1000001, 0] (by simp) (by simp); have hc5 := pickC_le (B := B) (n := (([1, 100, 6000, 6001, 1000001, 0] : List Int).length : Int)) hc4; have pvc5 := amongV_mem hB (K := [1, 100, 6000, 6001, 1000001, 0]) (by simp) hc4.1; generalize amongV B [1, 100, 6000, 6001, 1000001, 0] c4 = vc5 at pc5 pvc5; generalize pickC B (([1, 100, 6000, 6001, 1000001, 0] : List Int).length : Int) c4 = c5 at pc5 hc5; (first | refine callS.lend [0, 3] false pc5 (by decide) ⟨leO, leO, trivial⟩ (lendCur2 rfl rfl) (growCur2 B _ _) (.inl rfl) ?_ | refine callS.lend [0, 4] false pc5 (by decide) ⟨leO, leO, trivial⟩ (lendCur2 rfl rfl) (growCur2 B _ _) (.inl rfl) ?_ | refine callS.lend [0, 5] false pc5 (by decide) ⟨leO, leO, trivial⟩ (lendCur2 rfl rfl) (growCur2 B _ _) (.inl rfl) ?_ | refine callS.lend [0, 6] false pc5 (by decide) ⟨leO, leO, trivial⟩ (lendCur2 rfl rfl) (growCur2 B _ _) (.inl rfl) ?_ | refine callS.lend [0, 7] false pc5 (by decide) ⟨leO, leO, trivial⟩ (lendCur2 rfl rfl) (growCur2 B _ _) (.inl rfl) ?_ | refine callS.lend [0, 8] false pc5 (by decide) ⟨leO, leO, trivial⟩ (lendCur2 rfl rfl) (growCur2 B _ _) (.inl rfl) ?_); (repeat ((repeat1' (first | simp -implicitDefEqProofs -dsimp only [go_sem, Cur.ren] | simp -dsimp (disch := omega) only [wrap_i64])); repeat (with_reducible refine sideA ?_)))) | (have pc5 := among_ok hB (hcb hc4 (by omega)) [-20, 12, 30, 49, 50, 95, 96] (by simp) (by simp); have hc5 := pickC_le (B := B) (n := (([-20, 12, 30, 49, 50, 95, 96] : List Int).length : Int)) hc4; have pvc5 := amongV_mem hB (K := [-20, 12, 30, 49, 50, 95, 96]) (by simp) hc4.1; generalize amongV B [-20, 12, 30, 49, 50, 95, 96] c4 = vc5 at pc5 pvc5; generalize pickC B (([-20, 12, 30, 49, 50, 95, 96] : List Int).length : Int) c4 = c5 at pc5 hc5; (first | refine callS.lend [0, 3] false pc5 (by decide) ⟨leO, leO, trivial⟩ (lendCur2 rfl rfl) (growCur2 B _ _) (.inl rfl) ?_ | refine callS.lend [0, 4] false pc5 (by decide) ⟨leO, leO, trivial⟩ (lendCur2 rfl rfl) (growCur2 B _ _) (.inl rfl) ?_ | refine callS.lend [0, 5] false pc5 (by decide) ⟨leO, leO, trivial⟩ (lendCur2 rfl rfl) (growCur2 B _ _) (.inl rfl) ?_ | refine callS.lend [0, 6] false pc5 (by decide) ⟨leO, leO, trivial⟩ (lendCur2 rfl rfl) (growCur2 B _ _) (.inl rfl) ?_ | refine callS.lend [0, 7] false pc5 (by decide) ⟨leO, leO, trivial⟩ (lendCur2 rfl rfl) (growCur2 B _ _) (.inl rfl) ?_ | refine callS.lend [0, 8] false pc5 (by decide) ⟨leO, leO, trivial⟩ (lendCur2 rfl rfl) (growCur2 B _ _) (.inl rfl) ?_); (repeat ((repeat1' (first | simp -implicitDefEqProofs -dsimp only [go_sem, Cur.ren] | simp -dsimp (disch := omega) only [wrap_i64])); repeat (with_reducible refine sideA ?_)))) | (have pc5 := among_ok hB (hcb hc4 (by omega)) [0, 1, -3, 10, -10, 11] (by simp) (by simp); have hc5 := pickC_le (B := B) (n := (([0, 1, -3, 10, -10, 11] : List Int).length : Int)) hc4; have pvc5 := amongV_mem hB (K := [0, 1, -3, 10, -10, 11]) (by simp) hc4.1; generalize amongV B [0, 1, -3, 10, -10, 11] c4 = vc5 at pc5 pvc5; generalize pickC B (([0, 1, -3, 10, -10, 11] : List Int).length : Int) c4 = c5 at pc5 hc5; (first | refine callS.lend [0, 3] false pc5 (by decide) ⟨leO, leO, trivial⟩ (lendCur2 rfl rfl) (growCur2 B _ _) (.inl rfl) ?_ | refine callS.lend [0, 4] false pc5 (by decide) ⟨leO, leO, trivial⟩ (lendCur2 rfl rfl) (growCur2 B _ _) (.inl rfl) ?_ | refine callS.lend [0, 5] false pc5 (by decide) ⟨leO, leO, trivial⟩ (lendCur2 rfl rfl) (growCur2 B _ _) (.inl rfl) ?_ | refine callS.lend [0, 6] false pc5 (by decide) ⟨leO, leO, trivial⟩ (lendCur2 rfl rfl) (growCur2 B _ _) (.inl rfl) ?_ | refine callS.lend [0, 7] false pc5 (by decide) ⟨leO, leO, trivial⟩ (lendCur2 rfl rfl) (growCur2 B _ _) (.inl rfl) ?_ | refine callS.lend [0, 8] false pc5 (by decide) ⟨leO, leO, trivial⟩ (lendCur2 rfl rfl) (growCur2 B _ _) (.inl rfl) ?_); (repeat ((repeat1' (first | simp -implicitDefEqProofs -dsimp only [go_sem, Cur.ren] | simp -dsimp (disch := omega) only [wrap_i64])); repeat (with_reducible refine sideA ?_)))))
       · have pk := pick_ok hB (hcb hc2 (by omega)) w.Shocks.length (by omega)
         have hq := pickC_le (B := B) (n := w.Shocks.length) hc2
         rw [hj] at pk
         generalize pickC B w.Shocks.length c2 = c3 at pk hq
         (repeat ((repeat1' (first | simp -implicitDefEqProofs -dsimp only [go_sem] | simp -dsimp (disch := omega) only [wrap_i64])); repeat (with_reducible refine sideA ?_)))
         repeat' (first | (refine callS.lend [0] false pk (by decide) ⟨leO, leO, trivial⟩ (lendCur rfl) (growCur B _ _) (.inl rfl) ?_; (repeat ((repeat1' (first | simp -implicitDefEqProofs -dsimp only [go_sem, hr0, Shock.cs, Cur.ren] | simp -dsimp (disch := omega) only [wrap_i64])); repeat (with_reducible refine sideA ?_)))) | (refine And.intro ?_ ?_) | exact trivial)
         all_goals
           refine ⟨_, ⟨c3, lmono hq (by omega), rfl⟩, ?_⟩
           first
           | (refine Weak.cut 4 (by simp) (by simp) ?_ ?_
              · (simp [LeC, LeV, ren, cutF, hst1]; done)
              · (simp [cutH, cutB, Cur.ren, ren, Watch.cs, map_ren_rows, Shock.cs]; done))
           | (refine Weak.pick [0, 1, 2, 4] (by decide) (fun j hj => by cases j <;> simp_all) ?_ ?_
              · (simp [LeG, LeC, LeV, ren, pickF, posOf, hst1]; done)
              · (simp [pickH, pickB, Cur.ren, ren, Watch.cs, map_ren_rows, Shock.cs]; done))
     · (repeat ((repeat1' (first | simp -implicitDefEqProofs -dsimp only [go_sem, h2] | simp -dsimp (disch := omega) only [wrap_i64])); repeat (with_reducible refine sideA ?_)))
       obtain ⟨c3, ec3⟩ : ∃ x, x = c2 := ⟨_, rfl⟩
       have hc3 : c3.le (k + 6) := by rw [ec3]; exact lmono hc2 (by omega)
       rw [← ec3]
       have pc4 := one_ok hB (hcb hc3 (by omega)) 40 (by omega); have hc4 := pickC_le (B := B) (n := 40) hc3; generalize oneV B 40 c3 = vc4 at pc4; generalize pickC B 40 c3 = c4 at pc4 hc4; refine callS.lend [0] false pc4 (by decide) ⟨leO, leO, trivial⟩ (lendCur rfl) (growCur B _ _) (.inl rfl) ?_
       (repeat ((repeat1' (first | simp -implicitDefEqProofs -dsimp only [go_sem, Cur.ren] | simp -dsimp (disch := omega) only [wrap_i64])); repeat (with_reducible refine sideA ?_)))
       refine condT.split (fun h5 => ?_) (fun h5 => ?_)
       · (repeat ((repeat1' (first | simp -implicitDefEqProofs -dsimp only [go_sem, h5] | simp -dsimp (disch := omega) only [wrap_i64])); repeat (with_reducible refine sideA ?_)))
         have pc5 := among_ok hB (hcb hc4 (by omega)) [0, 9, 6] (by simp) (by simp); have hc5 := pickC_le (B := B) (n := (([0, 9, 6] : List Int).length : Int)) hc4; have pvc5 := amongV_mem hB (K := [0, 9, 6]) (by simp) hc4.1; generalize amongV B [0, 9, 6] c4 = vc5 at pc5 pvc5; generalize pickC B (([0, 9, 6] : List Int).length : Int) c4 = c5 at pc5 hc5; (first | refine callS.lend [0, 3] false pc5 (by decide) ⟨leO, leO, trivial⟩ (lendCur2 rfl rfl) (growCur2 B _ _) (.inl rfl) ?_ | refine callS.lend [0, 4] false pc5 (by decide) ⟨leO, leO, trivial⟩ (lendCur2 rfl rfl) (growCur2 B _ _) (.inl rfl) ?_ | refine callS.lend [0, 5] false pc5 (by decide) ⟨leO, leO, trivial⟩ (lendCur2 rfl rfl) (growCur2 B _ _) (.inl rfl) ?_ | refine callS.lend [0, 6] false pc5 (by decide) ⟨leO, leO, trivial⟩ (lendCur2 rfl rfl) (growCur2 B _ _) (.inl rfl) ?_ | refine callS.lend [0, 7] false pc5 (by decide) ⟨leO, leO, trivial⟩ (lendCur2 rfl rfl) (growCur2 B _ _) (.inl rfl) ?_ | refine callS.lend [0, 8] false pc5 (by decide) ⟨leO, leO, trivial⟩ (lendCur2 rfl rfl) (growCur2 B _ _) (.inl rfl) ?_)
         (repeat ((repeat1' (first | simp -implicitDefEqProofs -dsimp only [go_sem, Cur.ren] | simp -dsimp (disch := omega) only [wrap_i64])); repeat (with_reducible refine sideA ?_)))
         have pc6 := among_ok hB (hcb hc5 (by omega)) [0, 1, 999] (by simp) (by simp); have hc6 := pickC_le (B := B) (n := (([0, 1, 999] : List Int).length : Int)) hc5; have pvc6 := amongV_mem hB (K := [0, 1, 999]) (by simp) hc5.1; generalize amongV B [0, 1, 999] c5 = vc6 at pc6 pvc6; generalize pickC B (([0, 1, 999] : List Int).length : Int) c5 = c6 at pc6 hc6; (first | refine callS.lend [0, 3] false pc6 (by decide) ⟨leO, leO, trivial⟩ (lendCur2 rfl rfl) (growCur2 B _ _) (.inl rfl) ?_ | refine callS.lend [0, 4] false pc6 (by decide) ⟨leO, leO, trivial⟩ (lendCur2 rfl rfl) (growCur2 B _ _) (.inl rfl) ?_ | refine callS.lend [0, 5] false pc6 (by decide) ⟨leO, leO, trivial⟩ (lendCur2 rfl rfl) (growCur2 B _ _) (.inl rfl) ?_ | refine callS.lend [0, 6] false pc6 (by decide) ⟨leO, leO, trivial⟩ (lendCur2 rfl rfl) (growCur2 B _ _) (.inl rfl) ?_ | refine callS.lend [0, 7] false pc6 (by decide) ⟨leO, leO, trivial⟩ (lendCur2 rfl rfl) (growCur2 B _ _) (.inl rfl) ?_ | refine callS.lend [0, 8] false pc6 (by decide) ⟨leO, leO, trivial⟩ (lendCur2 rfl rfl) (growCur2 B _ _) (.inl rfl) ?_)
         (repeat ((repeat1' (first | simp -implicitDefEqProofs -dsimp only [go_sem, Cur.ren] | simp -dsimp (disch := omega) only [wrap_i64])); repeat (with_reducible refine sideA ?_)))
         have pc7 := among_ok hB (hcb hc6 (by omega)) [0, 1, -1] (by simp) (by simp); have hc7 := pickC_le (B := B) (n := (([0, 1, -1] : List Int).length : Int)) hc6; have pvc7 := amongV_mem hB (K := [0, 1, -1]) (by simp) hc6.1; generalize amongV B [0, 1, -1] c6 = vc7 at pc7 pvc7; generalize pickC B (([0, 1, -1] : List Int).length : Int) c6 = c7 at pc7 hc7; (first | refine callS.lend [0, 3] false pc7 (by decide) ⟨leO, leO, trivial⟩ (lendCur2 rfl rfl) (growCur2 B _ _) (.inl rfl) ?_ | refine callS.lend [0, 4] false pc7 (by decide) ⟨leO, leO, trivial⟩ (lendCur2 rfl rfl) (growCur2 B _ _) (.inl rfl) ?_ | refine callS.lend [0, 5] false pc7 (by decide) ⟨leO, leO, trivial⟩ (lendCur2 rfl rfl) (growCur2 B _ _) (.inl rfl) ?_ | refine callS.lend [0, 6] false pc7 (by decide) ⟨leO, leO, trivial⟩ (lendCur2 rfl rfl) (growCur2 B _ _) (.inl rfl) ?_ | refine callS.lend [0, 7] false pc7 (by decide) ⟨leO, leO, trivial⟩ (lendCur2 rfl rfl) (growCur2 B _ _) (.inl rfl) ?_ | refine callS.lend [0, 8] false pc7 (by decide) ⟨leO, leO, trivial⟩ (lendCur2 rfl rfl) (growCur2 B _ _) (.inl rfl) ?_)
         (repeat ((repeat1' (first | simp -implicitDefEqProofs -dsimp only [go_sem, Cur.ren] | simp -dsimp (disch := omega) only [wrap_i64])); repeat (with_reducible refine sideA ?_)))
         exact step_fin rfl (i64R_mem pvc5 (by simp [i64R])) (i64R_mem pvc6 (by intro x hx; simp at hx; rcases hx with rfl | rfl | rfl <;> first | assumption | simp [i64R])) (i64R_mem pvc7 (by simp [i64R])) (lmono hc7 (by simp only [List.length_cons, List.length_nil] at *; omega))
       · (repeat ((repeat1' (first | simp -implicitDefEqProofs -dsimp only [go_sem, h5] | simp -dsimp (disch := omega) only [wrap_i64])); repeat (with_reducible refine sideA ?_)))
         repeat' (first | (refine condT.split (fun h6 => ?_) (fun h6 => ?_) <;> (repeat ((repeat1' (first | simp -implicitDefEqProofs -dsimp only [go_sem, h6, Cur.ren] | simp -dsimp (disch := omega) only [wrap_i64])); repeat (with_reducible refine sideA ?_)))) | (exact step_fin rfl (by first | assumption | (simp [i64R]; done) | exact i64R_mem pvc5 (by simp [i64R])) (by first | assumption | (simp [i64R]; done) | exact i64R_mem pvc5 (by simp [i64R])) (by first | assumption | (simp [i64R]; done) | exact i64R_mem pvc5 (by simp [i64R])) (by first | exact lmono hc5 (by omega) | exact lmono hc4 (by omega))) | (have pc5 := among_ok hB (hcb hc4 (by omega)) [1, 100, 6000, 6001, 1000001, 0] (by simp) (by simp); have hc5 := pickC_le (B := B) (n := (([1, 100, 6000, 6001, 1000001, 0] : List Int).length : Int)) hc4; have pvc5 := amongV_mem hB (K := [1, 100, 6000, 6001, 1000001, 0]) (by simp) hc4.1; generalize amongV B [1, 100, 6000, 6001, 1000001, 0] c4 = vc5 at pc5 pvc5; generalize pickC B (([1, 100, 6000, 6001, 1000001, 0] : List Int).length : Int) c4 = c5 at pc5 hc5; (first | refine callS.lend [0, 3] false pc5 (by decide) ⟨leO, leO, trivial⟩ (lendCur2 rfl rfl) (growCur2 B _ _) (.inl rfl) ?_ | refine callS.lend [0, 4] false pc5 (by decide) ⟨leO, leO, trivial⟩ (lendCur2 rfl rfl) (growCur2 B _ _) (.inl rfl) ?_ | refine callS.lend [0, 5] false pc5 (by decide) ⟨leO, leO, trivial⟩ (lendCur2 rfl rfl) (growCur2 B _ _) (.inl rfl) ?_ | refine callS.lend [0, 6] false pc5 (by decide) ⟨leO, leO, trivial⟩ (lendCur2 rfl rfl) (growCur2 B _ _) (.inl rfl) ?_ | refine callS.lend [0, 7] false pc5 (by decide) ⟨leO, leO, trivial⟩ (lendCur2 rfl rfl) (growCur2 B _ _) (.inl rfl) ?_ | refine callS.lend [0, 8] false pc5 (by decide) ⟨leO, leO, trivial⟩ (lendCur2 rfl rfl) (growCur2 B _ _) (.inl rfl) ?_); (repeat ((repeat1' (first | simp -implicitDefEqProofs -dsimp only [go_sem, Cur.ren] | simp -dsimp (disch := omega) only [wrap_i64])); repeat (with_reducible refine sideA ?_)))) | (have pc5 := among_ok hB (hcb hc4 (by omega)) [-20, 12, 30, 49, 50, 95, 96] (by simp) (by simp); have hc5 := pickC_le (B := B) (n := (([-20, 12, 30, 49, 50, 95, 96] : List Int).length : Int)) hc4; have pvc5 := amongV_mem hB (K := [-20, 12, 30, 49, 50, 95, 96]) (by simp) hc4.1; generalize amongV B [-20, 12, 30, 49, 50, 95, 96] c4 = vc5 at pc5 pvc5; generalize pickC B (([-20, 12, 30, 49, 50, 95, 96] : List Int).length : Int) c4 = c5 at pc5 hc5; (first | refine callS.lend [0, 3] false pc5 (by decide) ⟨leO, leO, trivial⟩ (lendCur2 rfl rfl) (growCur2 B _ _) (.inl rfl) ?_ | refine callS.lend [0, 4] false pc5 (by decide) ⟨leO, leO, trivial⟩ (lendCur2 rfl rfl) (growCur2 B _ _) (.inl rfl) ?_ | refine callS.lend [0, 5] false pc5 (by decide) ⟨leO, leO, trivial⟩ (lendCur2 rfl rfl) (growCur2 B _ _) (.inl rfl) ?_ | refine callS.lend [0, 6] false pc5 (by decide) ⟨leO, leO, trivial⟩ (lendCur2 rfl rfl) (growCur2 B _ _) (.inl rfl) ?_ | refine callS.lend [0, 7] false pc5 (by decide) ⟨leO, leO, trivial⟩ (lendCur2 rfl rfl) (growCur2 B _ _) (.inl rfl) ?_ | refine callS.lend [0, 8] false pc5 (by decide) ⟨leO, leO, trivial⟩ (lendCur2 rfl rfl) (growCur2 B _ _) (.inl rfl) ?_); (repeat ((repeat1' (first | simp -implicitDefEqProofs -dsimp only [go_sem, Cur.ren] | simp -dsimp (disch := omega) only [wrap_i64])); repeat (with_reducible refine sideA ?_)))) | (have pc5 := among_ok hB (hcb hc4 (by omega)) [0, 1, -3, 10, -10, 11] (by simp) (by simp); have hc5 := pickC_le (B := B) (n := (([0, 1, -3, 10, -10, 11] : List Int).length : Int)) hc4; have pvc5 := amongV_mem hB (K := [0, 1, -3, 10, -10, 11]) (by simp) hc4.1; generalize amongV B [0, 1, -3, 10, -10, 11] c4 = vc5 at pc5 pvc5; generalize pickC B (([0, 1, -3, 10, -10, 11] : List Int).length : Int) c4 = c5 at pc5 hc5; (first | refine callS.lend [0, 3] false pc5 (by decide) ⟨leO, leO, trivial⟩ (lendCur2 rfl rfl) (growCur2 B _ _) (.inl rfl) ?_ | refine callS.lend [0, 4] false pc5 (by decide) ⟨leO, leO, trivial⟩ (lendCur2 rfl rfl) (growCur2 B _ _) (.inl rfl) ?_ | refine callS.lend [0, 5] false pc5 (by decide) ⟨leO, leO, trivial⟩ (lendCur2 rfl rfl) (growCur2 B _ _) (.inl rfl) ?_ | refine callS.lend [0, 6] false pc5 (by decide) ⟨leO, leO, trivial⟩ (lendCur2 rfl rfl) (growCur2 B _ _) (.inl rfl) ?_ | refine callS.lend [0, 7] false pc5 (by decide) ⟨leO, leO, trivial⟩ (lendCur2 rfl rfl) (growCur2 B _ _) (.inl rfl) ?_ | refine callS.lend [0, 8] false pc5 (by decide) ⟨leO, leO, trivial⟩ (lendCur2 rfl rfl) (growCur2 B _ _) (.inl rfl) ?_); (repeat ((repeat1' (first | simp -implicitDefEqProofs -dsimp only [go_sem, Cur.ren] | simp -dsimp (disch := omega) only [wrap_i64])); repeat (with_reducible refine sideA ?_)))))
   · have pk := pick_ok hB (hcb hc1 (by omega)) w.Posts.length (by omega)
     have hq := pickC_le (B := B) (n := w.Posts.length) hc1
     rw [hi] at pk
     generalize pickC B w.Posts.length c1 = c2 at pk hq
     have hok := hw.2.1.2 _ (List.getElem_mem hi')
     (repeat ((repeat1' (first | simp -implicitDefEqProofs -dsimp only [go_sem] | simp -dsimp (disch := omega) only [wrap_i64])); repeat (with_reducible refine sideA ?_)))
     repeat' (first | (refine callS.lend [0] false pk (by decide) ⟨leO, leO, trivial⟩ (lendCur rfl) (growCur B _ _) (.inl rfl) ?_; (repeat ((repeat1' (first | simp -implicitDefEqProofs -dsimp only [go_sem, hr0, Post.cs, Cur.ren] | simp -dsimp (disch := omega) only [wrap_i64])); repeat (with_reducible refine sideA ?_)))) | (refine And.intro ?_ ?_) | exact trivial)
     all_goals
       refine ⟨_, ⟨w.Posts[i].Station, c2, hok.1, lmono hq (by omega), rfl⟩, ?_⟩
       refine Weak.cut (3) (by simp) (by simp) ?_ ?_
       · simp [LeC, LeV, ren, cutF]
       · simp [cutH, cutB, Cur.ren, ren, Watch.cs, map_ren_rows]
 · (repeat ((repeat1' (first | simp -implicitDefEqProofs -dsimp only [go_sem, h1] | simp -dsimp (disch := omega) only [wrap_i64])); repeat (with_reducible refine sideA ?_)))
   obtain ⟨c2, ec2⟩ : ∃ x, x = c1 := ⟨_, rfl⟩
   rw [← ec2] at hc1 ⊢
   have hc2 : c2.le (k + 4) := lmono hc1 (by omega)
   obtain ⟨st, hst1⟩ : ∃ x : Int, x = 1 := ⟨1, rfl⟩
   have hst : i64R st := by rw [hst1]; simp [i64R]
   refine condT.split (fun h2 => ?_) (fun h2 => ?_)
   · have h2' := of_decide_eq_true h2
     obtain ⟨j, hj⟩ : ∃ j : Nat, pickV B w.Shocks.length c2 = j := ⟨(pickV B w.Shocks.length c2).toNat, by have := (pickV_bd hB (n := w.Shocks.length) hc2.1).1; omega⟩
     have hj' : j < w.Shocks.length := by have := (pickV_bd hB (n := w.Shocks.length) hc2.1).2; omega
     have hr0 := rows_at Shock.csl hj'
     (repeat ((repeat1' (first | simp -implicitDefEqProofs -dsimp only [go_sem, h2] | simp -dsimp (disch := omega) only [wrap_i64])); repeat (with_reducible refine sideA ?_)))
     refine clT.tree (fun s2 => ∃ (c3 : Cur), c3.le (k + 6) ∧ s2 = ⟨[.ptr 0 0, .undef, .undef, .ptr 1 0, .ptr 2 0, .int .i64 1, .int .i64 st, .int .i64 vc1, .ptr 3 0, .undef, .undef, .undef, .undef, .undef, .undef, .undef, .undef, .undef, .undef, .undef, .undef, .undef, .undef, .undef, .undef, .undef, .undef, .undef, .undef, .undef, .undef, .undef, .undef, .undef, .undef, .undef, .undef, .undef, .undef, .undef, .undef, .undef, .undef, .undef, .undef, .undef, .undef, .undef, .undef, .undef, .undef, .undef, .undef, .undef, .undef, .undef, .undef, .undef, .undef, .undef, .undef, .undef, .undef, .undef, .undef, .undef, .undef, .undef, .undef, .undef, .undef, .undef, .undef, .undef, .undef, .undef, .undef, .undef, .undef, .undef, .undef, .undef, .undef, .undef, .undef, .undef, .undef, .undef, .undef, .undef, .undef, .undef, .undef, .undef, .undef, .undef, .undef, .undef, .undef, .undef, .undef, .undef, .undef], [some (c3.cs B), some w.cs, some [.int .i64 0, .int .i64 0, .int .i64 0], some w.Shocks[j].cs], 1⟩) (.take 0 (.take 2 (.take 3 (.alt 1 (.alt 4 (.alt 5 (.alt 6 (.take 7 (.alt 8 (.alt 9 (.alt 10 .done .stop) .stop) (.alt 9 (.alt 8 (.alt 10 .done .stop) .stop) .stop))) (.alt 9 (.alt 6 (.take 7 (.alt 8 (.alt 10 .done .stop) .stop)) .stop) .stop)) (.alt 9 (.alt 5 (.alt 6 (.take 7 (.alt 8 (.alt 10 .done .stop) .stop)) .stop) .stop) .stop)) (.alt 9 (.alt 4 (.alt 5 (.alt 6 (.take 7 (.alt 8 (.alt 10 .done .stop) .stop)) .stop) .stop) .stop) .stop)) (.alt 4 (.alt 1 (.alt 5 (.alt 6 (.take 7 (.alt 8 (.alt 9 (.alt 10 .done .stop) .stop) (.alt 9 (.alt 8 (.alt 10 .done .stop) .stop) .stop))) (.alt 9 (.alt 6 (.take 7 (.alt 8 (.alt 10 .done .stop) .stop)) .stop) .stop)) (.alt 9 (.alt 5 (.alt 6 (.take 7 (.alt 8 (.alt 10 .done .stop) .stop)) .stop) .stop) .stop)) (.alt 5 (.alt 1 (.alt 6 (.take 7 (.alt 8 (.alt 9 (.alt 10 .done .stop) .stop) (.alt 9 (.alt 8 (.alt 10 .done .stop) .stop) .stop))) (.alt 9 (.alt 6 (.take 7 (.alt 8 (.alt 10 .done .stop) .stop)) .stop) .stop)) (.alt 6 (.alt 1 (.take 7 (.alt 8 (.alt 9 (.alt 10 .done .stop) .stop) (.alt 9 (.alt 8 (.alt 10 .done .stop) .stop) .stop))) (.alt 9 (.alt 1 (.take 7 (.alt 8 (.alt 10 .done .stop) .stop)) .stop) .stop)) (.alt 9 (.alt 1 (.alt 6 (.take 7 (.alt 8 (.alt 10 .done .stop) .stop)) .stop) (.alt 6 (.alt 1 (.take 7 (.alt 8 (.alt 10 .done .stop) .stop)) .stop) .stop)) .stop))) (.alt 9 (.alt 1 (.alt 5 (.alt 6 (.take 7 (.alt 8 (.alt 10 .done .stop) .stop)) .stop) .stop) (.alt 5 (.alt 1 (.alt 6 (.take 7 (.alt 8 (.alt 10 .done .stop) .stop)) .stop) (.alt 6 (.alt 1 (.take 7 (.alt 8 (.alt 10 .done .stop) .stop)) .stop) .stop)) .stop)) .stop))) (.alt 9 (.alt 1 (.alt 4 (.alt 5 (.alt 6 (.take 7 (.alt 8 (.alt 10 .done .stop) .stop)) .stop) .stop) .stop) (.alt 4 (.alt 1 (.alt 5 (.alt 6 (.take 7 (.alt 8 (.alt 10 .done .stop) .stop)) .stop) .stop) (.alt 5 (.alt 1 (.alt 6 (.take 7 (.alt 8 (.alt 10 .done .stop) .stop)) .stop) (.alt 6 (.alt 1 (.take 7 (.alt 8 (.alt 10 .done .stop) .stop)) .stop) .stop)) .stop)) .stop)) .stop)))))) (by kernel_rfl) (fun s2 hs2 => ?_) ?_
     · obtain ⟨c8, hc8, rfl⟩ := hs2
       have hnm : i64R w.Shocks[j].Number := (hw.2.2.1.2 _ (List.getElem_mem hj')).1
       (repeat ((repeat1' (first | simp -implicitDefEqProofs -dsimp only [go_sem, Shock.cs] | simp -dsimp (disch := omega) only [wrap_i64])); repeat (with_reducible refine sideA ?_)))
       generalize w.Shocks[j].Number = nm at hnm ⊢
       generalize w.Shocks[j].State = sv
       have pc3 := one_ok hB (hcb hc8 (by omega)) 2 (by omega); have hc3 := pickC_le (B := B) (n := 2) hc8; generalize oneV B 2 c8 = vc3 at pc3; generalize pickC B 2 c8 = c3 at pc3 hc3; refine callS.lend [0] false pc3 (by decide) ⟨leO, leO, trivial⟩ (lendCur rfl) (growCur B _ _) (.inl rfl) ?_
       (repeat ((repeat1' (first | simp -implicitDefEqProofs -dsimp only [go_sem, Cur.ren] | simp -dsimp (disch := omega) only [wrap_i64])); repeat (with_reducible refine sideA ?_)))
       refine guardT.split (fun h7 => ?_) (fun h7 => ?_) <;> (repeat ((repeat1' (first | simp -implicitDefEqProofs -dsimp only [go_sem, h7, Cur.ren] | simp -dsimp (disch := omega) only [wrap_i64])); repeat (with_reducible refine sideA ?_)))
       · (first | refine callT.at (l1In_ok _ _ _) ⟨leA, leA, leA, trivial⟩ ?_ | refine callS.at (l1In_ok _ _ _) ⟨leA, leA, leA, trivial⟩ ?_)
         (repeat ((repeat1' (first | simp -implicitDefEqProofs -dsimp only [go_sem] | simp -dsimp (disch := omega) only [wrap_i64])); repeat (with_reducible refine sideA ?_)))
         refine condT.split (fun h8 => ?_) (fun h8 => ?_)
         · have hsv : sv = 0 ∨ sv = 1 ∨ sv = 2 ∨ sv = 3 := by simp [inB'] at h8; omega
           rcases hsv with rfl | rfl | rfl | rfl
           all_goals
             (repeat ((repeat1' (first | simp -implicitDefEqProofs -dsimp only [go_sem, h8] | simp -dsimp (disch := omega) only [wrap_i64])); repeat (with_reducible refine sideA ?_)))
             have pc4 := one_ok hB (hcb hc3 (by omega)) 40 (by omega); have hc4 := pickC_le (B := B) (n := 40) hc3; generalize oneV B 40 c3 = vc4 at pc4; generalize pickC B 40 c3 = c4 at pc4 hc4; refine callS.lend [0] false pc4 (by decide) ⟨leO, leO, trivial⟩ (lendCur rfl) (growCur B _ _) (.inl rfl) ?_
             (repeat ((repeat1' (first | simp -implicitDefEqProofs -dsimp only [go_sem, Cur.ren] | simp -dsimp (disch := omega) only [wrap_i64])); repeat (with_reducible refine sideA ?_)))
             refine condT.split (fun h5 => ?_) (fun h5 => ?_)
             · (repeat ((repeat1' (first | simp -implicitDefEqProofs -dsimp only [go_sem, h5] | simp -dsimp (disch := omega) only [wrap_i64])); repeat (with_reducible refine sideA ?_)))
               have pc5 := among_ok hB (hcb hc4 (by omega)) [0, 9, 6] (by simp) (by simp); have hc5 := pickC_le (B := B) (n := (([0, 9, 6] : List Int).length : Int)) hc4; have pvc5 := amongV_mem hB (K := [0, 9, 6]) (by simp) hc4.1; generalize amongV B [0, 9, 6] c4 = vc5 at pc5 pvc5; generalize pickC B (([0, 9, 6] : List Int).length : Int) c4 = c5 at pc5 hc5; (first | refine callS.lend [0, 3] false pc5 (by decide) ⟨leO, leO, trivial⟩ (lendCur2 rfl rfl) (growCur2 B _ _) (.inl rfl) ?_ | refine callS.lend [0, 4] false pc5 (by decide) ⟨leO, leO, trivial⟩ (lendCur2 rfl rfl) (growCur2 B _ _) (.inl rfl) ?_ | refine callS.lend [0, 5] false pc5 (by decide) ⟨leO, leO, trivial⟩ (lendCur2 rfl rfl) (growCur2 B _ _) (.inl rfl) ?_ | refine callS.lend [0, 6] false pc5 (by decide) ⟨leO, leO, trivial⟩ (lendCur2 rfl rfl) (growCur2 B _ _) (.inl rfl) ?_ | refine callS.lend [0, 7] false pc5 (by decide) ⟨leO, leO, trivial⟩ (lendCur2 rfl rfl) (growCur2 B _ _) (.inl rfl) ?_ | refine callS.lend [0, 8] false pc5 (by decide) ⟨leO, leO, trivial⟩ (lendCur2 rfl rfl) (growCur2 B _ _) (.inl rfl) ?_)
               (repeat ((repeat1' (first | simp -implicitDefEqProofs -dsimp only [go_sem, Cur.ren] | simp -dsimp (disch := omega) only [wrap_i64])); repeat (with_reducible refine sideA ?_)))
               have pc6 := among_ok hB (hcb hc5 (by omega)) [0, nm, 999] (by simp) (by simp); have hc6 := pickC_le (B := B) (n := (([0, nm, 999] : List Int).length : Int)) hc5; have pvc6 := amongV_mem hB (K := [0, nm, 999]) (by simp) hc5.1; generalize amongV B [0, nm, 999] c5 = vc6 at pc6 pvc6; generalize pickC B (([0, nm, 999] : List Int).length : Int) c5 = c6 at pc6 hc6; (first | refine callS.lend [0, 3] false pc6 (by decide) ⟨leO, leO, trivial⟩ (lendCur2 rfl rfl) (growCur2 B _ _) (.inl rfl) ?_ | refine callS.lend [0, 4] false pc6 (by decide) ⟨leO, leO, trivial⟩ (lendCur2 rfl rfl) (growCur2 B _ _) (.inl rfl) ?_ | refine callS.lend [0, 5] false pc6 (by decide) ⟨leO, leO, trivial⟩ (lendCur2 rfl rfl) (growCur2 B _ _) (.inl rfl) ?_ | refine callS.lend [0, 6] false pc6 (by decide) ⟨leO, leO, trivial⟩ (lendCur2 rfl rfl) (growCur2 B _ _) (.inl rfl) ?_ | refine callS.lend [0, 7] false pc6 (by decide) ⟨leO, leO, trivial⟩ (lendCur2 rfl rfl) (growCur2 B _ _) (.inl rfl) ?_ | refine callS.lend [0, 8] false pc6 (by decide) ⟨leO, leO, trivial⟩ (lendCur2 rfl rfl) (growCur2 B _ _) (.inl rfl) ?_)
               (repeat ((repeat1' (first | simp -implicitDefEqProofs -dsimp only [go_sem, Cur.ren] | simp -dsimp (disch := omega) only [wrap_i64])); repeat (with_reducible refine sideA ?_)))
               have pc7 := among_ok hB (hcb hc6 (by omega)) [0, 1, -1] (by simp) (by simp); have hc7 := pickC_le (B := B) (n := (([0, 1, -1] : List Int).length : Int)) hc6; have pvc7 := amongV_mem hB (K := [0, 1, -1]) (by simp) hc6.1; generalize amongV B [0, 1, -1] c6 = vc7 at pc7 pvc7; generalize pickC B (([0, 1, -1] : List Int).length : Int) c6 = c7 at pc7 hc7; (first | refine callS.lend [0, 3] false pc7 (by decide) ⟨leO, leO, trivial⟩ (lendCur2 rfl rfl) (growCur2 B _ _) (.inl rfl) ?_ | refine callS.lend [0, 4] false pc7 (by decide) ⟨leO, leO, trivial⟩ (lendCur2 rfl rfl) (growCur2 B _ _) (.inl rfl) ?_ | refine callS.lend [0, 5] false pc7 (by decide) ⟨leO, leO, trivial⟩ (lendCur2 rfl rfl) (growCur2 B _ _) (.inl rfl) ?_ | refine callS.lend [0, 6] false pc7 (by decide) ⟨leO, leO, trivial⟩ (lendCur2 rfl rfl) (growCur2 B _ _) (.inl rfl) ?_ | refine callS.lend [0, 7] false pc7 (by decide) ⟨leO, leO, trivial⟩ (lendCur2 rfl rfl) (growCur2 B _ _) (.inl rfl) ?_ | refine callS.lend [0, 8] false pc7 (by decide) ⟨leO, leO, trivial⟩ (lendCur2 rfl rfl) (growCur2 B _ _) (.inl rfl) ?_)
               (repeat ((repeat1' (first | simp -implicitDefEqProofs -dsimp only [go_sem, Cur.ren] | simp -dsimp (disch := omega) only [wrap_i64])); repeat (with_reducible refine sideA ?_)))
               exact step_fin rfl (i64R_mem pvc5 (by simp [i64R])) (i64R_mem pvc6 (by intro x hx; simp at hx; rcases hx with rfl | rfl | rfl <;> first | assumption | simp [i64R])) (i64R_mem pvc7 (by simp [i64R])) (lmono hc7 (by simp only [List.length_cons, List.length_nil] at *; omega))
             · (repeat ((repeat1' (first | simp -implicitDefEqProofs -dsimp only [go_sem, h5] | simp -dsimp (disch := omega) only [wrap_i64])); repeat (with_reducible refine sideA ?_)))
               repeat' (first | (refine condT.split (fun h6 => ?_) (fun h6 => ?_) <;> (repeat ((repeat1' (first | simp -implicitDefEqProofs -dsimp only [go_sem, h6, Cur.ren] | simp -dsimp (disch := omega) only [wrap_i64])); repeat (with_reducible refine sideA ?_)))) | (exact step_fin rfl (by first | assumption | (simp [i64R]; done) | exact i64R_mem pvc5 (by simp [i64R])) (by first | assumption | (simp [i64R]; done) | exact i64R_mem pvc5 (by simp [i64R])) (by first | assumption | (simp [i64R]; done) | exact i64R_mem pvc5 (by simp [i64R])) (by first | exact lmono hc5 (by omega) | exact lmono hc4 (by omega))) | (have pc5 := among_ok hB (hcb hc4 (by omega)) [1, 100, 6000, 6001, 1000001, 0] (by simp) (by simp); have hc5 := pickC_le (B := B) (n := (([1, 100, 6000, 6001, 1000001, 0] : List Int).length : Int)) hc4; have pvc5 := amongV_mem hB (K := [1, 100, 6000, 6001, 1000001, 0]) (by simp) hc4.1; generalize amongV B [1, 100, 6000, 6001, 1000001, 0] c4 = vc5 at pc5 pvc5; generalize pickC B (([1, 100, 6000, 6001, 1000001, 0] : List Int).length : Int) c4 = c5 at pc5 hc5; (first | refine callS.lend [0, 3] false pc5 (by decide) ⟨leO, leO, trivial⟩ (lendCur2 rfl rfl) (growCur2 B _ _) (.inl rfl) ?_ | refine callS.lend [0, 4] false pc5 (by decide) ⟨leO, leO, trivial⟩ (lendCur2 rfl rfl) (growCur2 B _ _) (.inl rfl) ?_ | refine callS.lend [0, 5] false pc5 (by decide) ⟨leO, leO, trivial⟩ (lendCur2 rfl rfl) (growCur2 B _ _) (.inl rfl) ?_ | refine callS.lend [0, 6] false pc5 (by decide) ⟨leO, leO, trivial⟩ (lendCur2 rfl rfl) (growCur2 B _ _) (.inl rfl) ?_ | refine callS.lend [0, 7] false pc5 (by decide) ⟨leO, leO, trivial⟩ (lendCur2 rfl rfl) (growCur2 B _ _) (.inl rfl) ?_ | refine callS.lend [0, 8] false pc5 (by decide) ⟨leO, leO, trivial⟩ (lendCur2 rfl rfl) (growCur2 B _ _) (.inl rfl) ?_); (repeat ((repeat1' (first | simp -implicitDefEqProofs -dsimp only [go_sem, Cur.ren] | simp -dsimp (disch := omega) only [wrap_i64])); repeat (with_reducible refine sideA ?_)))) | (have pc5 := among_ok hB (hcb hc4 (by omega)) [-20, 12, 30, 49, 50, 95, 96] (by simp) (by simp); have hc5 := pickC_le (B := B) (n := (([-20, 12, 30, 49, 50, 95, 96] : List Int).length : Int)) hc4; have pvc5 := amongV_mem hB (K := [-20, 12, 30, 49, 50, 95, 96]) (by simp) hc4.1; generalize amongV B [-20, 12, 30, 49, 50, 95, 96] c4 = vc5 at pc5 pvc5; generalize pickC B (([-20, 12, 30, 49, 50, 95, 96] : List Int).length : Int) c4 = c5 at pc5 hc5; (first | refine callS.lend [0, 3] false pc5 (by decide) ⟨leO, leO, trivial⟩ (lendCur2 rfl rfl) (growCur2 B _ _) (.inl rfl) ?_ | refine callS.lend [0, 4] false pc5 (by decide) ⟨leO, leO, trivial⟩ (lendCur2 rfl rfl) (growCur2 B _ _) (.inl rfl) ?_ | refine callS.lend [0, 5] false pc5 (by decide) ⟨leO, leO, trivial⟩ (lendCur2 rfl rfl) (growCur2 B _ _) (.inl rfl) ?_ | refine callS.lend [0, 6] false pc5 (by decide) ⟨leO, leO, trivial⟩ (lendCur2 rfl rfl) (growCur2 B _ _) (.inl rfl) ?_ | refine callS.lend [0, 7] false pc5 (by decide) ⟨leO, leO, trivial⟩ (lendCur2 rfl rfl) (growCur2 B _ _) (.inl rfl) ?_ | refine callS.lend [0, 8] false pc5 (by decide) ⟨leO, leO, trivial⟩ (lendCur2 rfl rfl) (growCur2 B _ _) (.inl rfl) ?_); (repeat ((repeat1' (first | simp -implicitDefEqProofs -dsimp only [go_sem, Cur.ren] | simp -dsimp (disch := omega) only [wrap_i64])); repeat (with_reducible refine sideA ?_)))) | (have pc5 := among_ok hB (hcb hc4 (by omega)) [0, 1, -3, 10, -10, 11] (by simp) (by simp); have hc5 := pickC_le (B := B) (n := (([0, 1, -3, 10, -10, 11] : List Int).length : Int)) hc4; have pvc5 := amongV_mem hB (K := [0, 1, -3, 10, -10, 11]) (by simp) hc4.1; generalize amongV B [0, 1, -3, 10, -10, 11] c4 = vc5 at pc5 pvc5; generalize pickC B (([0, 1, -3, 10, -10, 11] : List Int).length : Int) c4 = c5 at pc5 hc5; (first | refine callS.lend [0, 3] false pc5 (by decide) ⟨leO, leO, trivial⟩ (lendCur2 rfl rfl) (growCur2 B _ _) (.inl rfl) ?_ | refine callS.lend [0, 4] false pc5 (by decide) ⟨leO, leO, trivial⟩ (lendCur2 rfl rfl) (growCur2 B _ _) (.inl rfl) ?_ | refine callS.lend [0, 5] false pc5 (by decide) ⟨leO, leO, trivial⟩ (lendCur2 rfl rfl) (growCur2 B _ _) (.inl rfl) ?_ | refine callS.lend [0, 6] false pc5 (by decide) ⟨leO, leO, trivial⟩ (lendCur2 rfl rfl) (growCur2 B _ _) (.inl rfl) ?_ | refine callS.lend [0, 7] false pc5 (by decide) ⟨leO, leO, trivial⟩ (lendCur2 rfl rfl) (growCur2 B _ _) (.inl rfl) ?_ | refine callS.lend [0, 8] false pc5 (by decide) ⟨leO, leO, trivial⟩ (lendCur2 rfl rfl) (growCur2 B _ _) (.inl rfl) ?_); (repeat ((repeat1' (first | simp -implicitDefEqProofs -dsimp only [go_sem, Cur.ren] | simp -dsimp (disch := omega) only [wrap_i64])); repeat (with_reducible refine sideA ?_)))))
         · (repeat ((repeat1' (first | simp -implicitDefEqProofs -dsimp only [go_sem, h8] | simp -dsimp (disch := omega) only [wrap_i64])); repeat (with_reducible refine sideA ?_)))
           have pc4 := one_ok hB (hcb hc3 (by omega)) 40 (by omega); have hc4 := pickC_le (B := B) (n := 40) hc3; generalize oneV B 40 c3 = vc4 at pc4; generalize pickC B 40 c3 = c4 at pc4 hc4; refine callS.lend [0] false pc4 (by decide) ⟨leO, leO, trivial⟩ (lendCur rfl) (growCur B _ _) (.inl rfl) ?_
           (repeat ((repeat1' (first | simp -implicitDefEqProofs -dsimp only [go_sem, Cur.ren] | simp -dsimp (disch := omega) only [wrap_i64])); repeat (with_reducible refine sideA ?_)))
           refine condT.split (fun h5 => ?_) (fun h5 => ?_)
           · (repeat ((repeat1' (first | simp -implicitDefEqProofs -dsimp only [go_sem, h5] | simp -dsimp (disch := omega) only [wrap_i64])); repeat (with_reducible refine sideA ?_)))
             have pc5 := among_ok hB (hcb hc4 (by omega)) [0, 9, 6] (by simp) (by simp); have hc5 := pickC_le (B := B) (n := (([0, 9, 6] : List Int).length : Int)) hc4; have pvc5 := amongV_mem hB (K := [0, 9, 6]) (by simp) hc4.1; generalize amongV B [0, 9, 6] c4 = vc5 at pc5 pvc5; generalize pickC B (([0, 9, 6] : List Int).length : Int) c4 = c5 at pc5 hc5; (first | refine callS.lend [0, 3] false pc5 (by decide) ⟨leO, leO, trivial⟩ (lendCur2 rfl rfl) (growCur2 B _ _) (.inl rfl) ?_ | refine callS.lend [0, 4] false pc5 (by decide) ⟨leO, leO, trivial⟩ (lendCur2 rfl rfl) (growCur2 B _ _) (.inl rfl) ?_ | refine callS.lend [0, 5] false pc5 (by decide) ⟨leO, leO, trivial⟩ (lendCur2 rfl rfl) (growCur2 B _ _) (.inl rfl) ?_ | refine callS.lend [0, 6] false pc5 (by decide) ⟨leO, leO, trivial⟩ (lendCur2 rfl rfl) (growCur2 B _ _) (.inl rfl) ?_ | refine callS.lend [0, 7] false pc5 (by decide) ⟨leO, leO, trivial⟩ (lendCur2 rfl rfl) (growCur2 B _ _) (.inl rfl) ?_ | refine callS.lend [0, 8] false pc5 (by decide) ⟨leO, leO, trivial⟩ (lendCur2 rfl rfl) (growCur2 B _ _) (.inl rfl) ?_)
             (repeat ((repeat1' (first | simp -implicitDefEqProofs -dsimp only [go_sem, Cur.ren] | simp -dsimp (disch := omega) only [wrap_i64])); repeat (with_reducible refine sideA ?_)))
             have pc6 := among_ok hB (hcb hc5 (by omega)) [0, nm, 999] (by simp) (by simp); have hc6 := pickC_le (B := B) (n := (([0, nm, 999] : List Int).length : Int)) hc5; have pvc6 := amongV_mem hB (K := [0, nm, 999]) (by simp) hc5.1; generalize amongV B [0, nm, 999] c5 = vc6 at pc6 pvc6; generalize pickC B (([0, nm, 999] : List Int).length : Int) c5 = c6 at pc6 hc6; (first | refine callS.lend [0, 3] false pc6 (by decide) ⟨leO, leO, trivial⟩ (lendCur2 rfl rfl) (growCur2 B _ _) (.inl rfl) ?_ | refine callS.lend [0, 4] false pc6 (by decide) ⟨leO, leO, trivial⟩ (lendCur2 rfl rfl) (growCur2 B _ _) (.inl rfl) ?_ | refine callS.lend [0, 5] false pc6 (by decide) ⟨leO, leO, trivial⟩ (lendCur2 rfl rfl) (growCur2 B _ _) (.inl rfl) ?_ | refine callS.lend [0, 6] false pc6 (by decide) ⟨leO, leO, trivial⟩ (lendCur2 rfl rfl) (growCur2 B _ _) (.inl rfl) ?_ | refine callS.lend [0, 7] false pc6 (by decide) ⟨leO, leO, trivial⟩ (lendCur2 rfl rfl) (growCur2 B _ _) (.inl rfl) ?_ | refine callS.lend [0, 8] false pc6 (by decide) ⟨leO, leO, trivial⟩ (lendCur2 rfl rfl) (growCur2 B _ _) (.inl rfl) ?_)
             (repeat ((repeat1' (first | simp -implicitDefEqProofs -dsimp only [go_sem, Cur.ren] | simp -dsimp (disch := omega) only [wrap_i64])); repeat (with_reducible refine sideA ?_)))
             have pc7 := among_ok hB (hcb hc6 (by omega)) [0, 1, -1] (by simp) (by simp); have hc7 := pickC_le (B := B) (n := (([0, 1, -1] : List Int).length : Int)) hc6; have pvc7 := amongV_mem hB (K := [0, 1, -1]) (by simp) hc6.1; generalize amongV B [0, 1, -1] c6 = vc7 at pc7 pvc7; generalize pickC B (([0, 1, -1] : List Int).length : Int) c6 = c7 at pc7 hc7; (first | refine callS.lend [0, 3] false pc7 (by decide) ⟨leO, leO, trivial⟩ (lendCur2 rfl rfl) (growCur2 B _ _) (.inl rfl) ?_ | refine callS.lend [0, 4] false pc7 (by decide) ⟨leO, leO, trivial⟩ (lendCur2 rfl rfl) (growCur2 B _ _) (.inl rfl) ?_ | refine callS.lend [0, 5] false pc7 (by decide) ⟨leO, leO, trivial⟩ (lendCur2 rfl rfl) (growCur2 B _ _) (.inl rfl) ?_ | refine callS.lend [0, 6] false pc7 (by decide) ⟨leO, leO, trivial⟩ (lendCur2 rfl rfl) (growCur2 B _ _) (.inl rfl) ?_ | refine callS.lend [0, 7] false pc7 (by decide) ⟨leO, leO, trivial⟩ (lendCur2 rfl rfl) (growCur2 B _ _) (.inl rfl) ?_ | refine callS.lend [0, 8] false pc7 (by decide) ⟨leO, leO, trivial⟩ (lendCur2 rfl rfl) (growCur2 B _ _) (.inl rfl) ?_)
             (repeat ((repeat1' (first | simp -implicitDefEqProofs -dsimp only [go_sem, Cur.ren] | simp -dsimp (disch := omega) only [wrap_i64])); repeat (with_reducible refine sideA ?_)))
             exact step_fin rfl (i64R_mem pvc5 (by simp [i64R])) (i64R_mem pvc6 (by intro x hx; simp at hx; rcases hx with rfl | rfl | rfl <;> first | assumption | simp [i64R])) (i64R_mem pvc7 (by simp [i64R])) (lmono hc7 (by simp only [List.length_cons, List.length_nil] at *; omega))
           · (repeat ((repeat1' (first | simp -implicitDefEqProofs -dsimp only [go_sem, h5] | simp -dsimp (disch := omega) only [wrap_i64])); repeat (with_reducible refine sideA ?_)))
             repeat' (first | (refine condT.split (fun h6 => ?_) (fun h6 => ?_) <;> (repeat ((repeat1' (first | simp -implicitDefEqProofs -dsimp only [go_sem, h6, Cur.ren] | simp -dsimp (disch := omega) only [wrap_i64])); repeat (with_reducible refine sideA ?_)))) | (exact step_fin rfl (by first | assumption | (simp [i64R]; done) | exact i64R_mem pvc5 (by simp [i64R])) (by first | assumption | (simp [i64R]; done) | exact i64R_mem pvc5 (by simp [i64R])) (by first | assumption | (simp [i64R]; done) | exact i64R_mem pvc5 (by simp [i64R])) (by first | exact lmono hc5 (by omega) | exact lmono hc4 (by omega))) | (have pc5 := among_ok hB (hcb hc4 (by omega)) [1, 100, 6000, 6001, 1000001, 0] (by simp) (by simp); have hc5 := pickC_le (B := B) (n := (([1, 100, 6000, 6001, 1000001, 0] : List Int).length : Int)) hc4; have pvc5 := amongV_mem hB (K := [1, 100, 6000, 6001, 1000001, 0]) (by simp) hc4.1; generalize amongV B [1, 100, 6000, 6001, 1000001, 0] c4 = vc5 at pc5 pvc5; generalize pickC B (([1, 100, 6000, 6001, 1000001, 0] : List Int).length : Int) c4 = c5 at pc5 hc5; (first | refine callS.lend [0, 3] false pc5 (by decide) ⟨leO, leO, trivial⟩ (lendCur2 rfl rfl) (growCur2 B _ _) (.inl rfl) ?_ | refine callS.lend [0, 4] false pc5 (by decide) ⟨leO, leO, trivial⟩ (lendCur2 rfl rfl) (growCur2 B _ _) (.inl rfl) ?_ | refine callS.lend [0, 5] false pc5 (by decide) ⟨leO, leO, trivial⟩ (lendCur2 rfl rfl) (growCur2 B _ _) (.inl rfl) ?_ | refine callS.lend [0, 6] false pc5 (by decide) ⟨leO, leO, trivial⟩ (lendCur2 rfl rfl) (growCur2 B _ _) (.inl rfl) ?_ | refine callS.lend [0, 7] false pc5 (by decide) ⟨leO, leO, trivial⟩ (lendCur2 rfl rfl) (growCur2 B _ _) (.inl rfl) ?_ | refine callS.lend [0, 8] false pc5 (by decide) ⟨leO, leO, trivial⟩ (lendCur2 rfl rfl) (growCur2 B _ _) (.inl rfl) ?_); (repeat ((repeat1' (first | simp -implicitDefEqProofs -dsimp only [go_sem, Cur.ren] | simp -dsimp (disch := omega) only [wrap_i64])); repeat (with_reducible refine sideA ?_)))) | (have pc5 := among_ok hB (hcb hc4 (by omega)) [-20, 12, 30, 49, 50, 95, 96] (by simp) (by simp); have hc5 := pickC_le (B := B) (n := (([-20, 12, 30, 49, 50, 95, 96] : List Int).length : Int)) hc4; have pvc5 := amongV_mem hB (K := [-20, 12, 30, 49, 50, 95, 96]) (by simp) hc4.1; generalize amongV B [-20, 12, 30, 49, 50, 95, 96] c4 = vc5 at pc5 pvc5; generalize pickC B (([-20, 12, 30, 49, 50, 95, 96] : List Int).length : Int) c4 = c5 at pc5 hc5; (first | refine callS.lend [0, 3] false pc5 (by decide) ⟨leO, leO, trivial⟩ (lendCur2 rfl rfl) (growCur2 B _ _) (.inl rfl) ?_ | refine callS.lend [0, 4] false pc5 (by decide) ⟨leO, leO, trivial⟩ (lendCur2 rfl rfl) (growCur2 B _ _) (.inl rfl) ?_ | refine callS.lend [0, 5] false pc5 (by decide) ⟨leO, leO, trivial⟩ (lendCur2 rfl rfl) (growCur2 B _ _) (.inl rfl) ?_ | refine callS.lend [0, 6] false pc5 (by decide) ⟨leO, leO, trivial⟩ (lendCur2 rfl rfl) (growCur2 B _ _) (.inl rfl) ?_ | refine callS.lend [0, 7] false pc5 (by decide) ⟨leO, leO, trivial⟩ (lendCur2 rfl rfl) (growCur2 B _ _) (.inl rfl) ?_ | refine callS.lend [0, 8] false pc5 (by decide) ⟨leO, leO, trivial⟩ (lendCur2 rfl rfl) (growCur2 B _ _) (.inl rfl) ?_); (repeat ((repeat1' (first | simp -implicitDefEqProofs -dsimp only [go_sem, Cur.ren] | simp -dsimp (disch := omega) only [wrap_i64])); repeat (with_reducible refine sideA ?_)))) | (have pc5 := among_ok hB (hcb hc4 (by omega)) [0, 1, -3, 10, -10, 11] (by simp) (by simp); have hc5 := pickC_le (B := B) (n := (([0, 1, -3, 10, -10, 11] : List Int).length : Int)) hc4; have pvc5 := amongV_mem hB (K := [0, 1, -3, 10, -10, 11]) (by simp) hc4.1; generalize amongV B [0, 1, -3, 10, -10, 11] c4 = vc5 at pc5 pvc5; generalize pickC B (([0, 1, -3, 10, -10, 11] : List Int).length : Int) c4 = c5 at pc5 hc5; (first | refine callS.lend [0, 3] false pc5 (by decide) ⟨leO, leO, trivial⟩ (lendCur2 rfl rfl) (growCur2 B _ _) (.inl rfl) ?_ | refine callS.lend [0, 4] false pc5 (by decide) ⟨leO, leO, trivial⟩ (lendCur2 rfl rfl) (growCur2 B _ _) (.inl rfl) ?_ | refine callS.lend [0, 5] false pc5 (by decide) ⟨leO, leO, trivial⟩ (lendCur2 rfl rfl) (growCur2 B _ _) (.inl rfl) ?_ | refine callS.lend [0, 6] false pc5 (by decide) ⟨leO, leO, trivial⟩ (lendCur2 rfl rfl) (growCur2 B _ _) (.inl rfl) ?_ | refine callS.lend [0, 7] false pc5 (by decide) ⟨leO, leO, trivial⟩ (lendCur2 rfl rfl) (growCur2 B _ _) (.inl rfl) ?_ | refine callS.lend [0, 8] false pc5 (by decide) ⟨leO, leO, trivial⟩ (lendCur2 rfl rfl) (growCur2 B _ _) (.inl rfl) ?_); (repeat ((repeat1' (first | simp -implicitDefEqProofs -dsimp only [go_sem, Cur.ren] | simp -dsimp (disch := omega) only [wrap_i64])); repeat (with_reducible refine sideA ?_)))))
       · skip
         have pc4 := one_ok hB (hcb hc3 (by omega)) 40 (by omega); have hc4 := pickC_le (B := B) (n := 40) hc3; generalize oneV B 40 c3 = vc4 at pc4; generalize pickC B 40 c3 = c4 at pc4 hc4; refine callS.lend [0] false pc4 (by decide) ⟨leO, leO, trivial⟩ (lendCur rfl) (growCur B _ _) (.inl rfl) ?_
         (repeat ((repeat1' (first | simp -implicitDefEqProofs -dsimp only [go_sem, Cur.ren] | simp -dsimp (disch := omega) only [wrap_i64])); repeat (with_reducible refine sideA ?_)))
         refine condT.split (fun h5 => ?_) (fun h5 => ?_)
         · (repeat ((repeat1' (first | simp -implicitDefEqProofs -dsimp only [go_sem, h5] | simp -dsimp (disch := omega) only [wrap_i64])); repeat (with_reducible refine sideA ?_)))
           have pc5 := among_ok hB (hcb hc4 (by omega)) [0, 9, 6] (by simp) (by simp); have hc5 := pickC_le (B := B) (n := (([0, 9, 6] : List Int).length : Int)) hc4; have pvc5 := amongV_mem hB (K := [0, 9, 6]) (by simp) hc4.1; generalize amongV B [0, 9, 6] c4 = vc5 at pc5 pvc5; generalize pickC B (([0, 9, 6] : List Int).length : Int) c4 = c5 at pc5 hc5; (first | refine callS.lend [0, 3] false pc5 (by decide) ⟨leO, leO, trivial⟩ (lendCur2 rfl rfl) (growCur2 B _ _) (.inl rfl) ?_ | refine callS.lend [0, 4] false pc5 (by decide) ⟨leO, leO, trivial⟩ (lendCur2 rfl rfl) (growCur2 B _ _) (.inl rfl) ?_ | refine callS.lend [0, 5] false pc5 (by decide) ⟨leO, leO, trivial⟩ (lendCur2 rfl rfl) (growCur2 B _ _) (.inl rfl) ?_ | refine callS.lend [0, 6] false pc5 (by decide) ⟨leO, leO, trivial⟩ (lendCur2 rfl rfl) (growCur2 B _ _) (.inl rfl) ?_ | refine callS.lend [0, 7] false pc5 (by decide) ⟨leO, leO, trivial⟩ (lendCur2 rfl rfl) (growCur2 B _ _) (.inl rfl) ?_ | refine callS.lend [0, 8] false pc5 (by decide) ⟨leO, leO, trivial⟩ (lendCur2 rfl rfl) (growCur2 B _ _) (.inl rfl) ?_)
           (repeat ((repeat1' (first | simp -implicitDefEqProofs -dsimp only [go_sem, Cur.ren] | simp -dsimp (disch := omega) only [wrap_i64])); repeat (with_reducible refine sideA ?_)))
           have pc6 := among_ok hB (hcb hc5 (by omega)) [0, nm, 999] (by simp) (by simp); have hc6 := pickC_le (B := B) (n := (([0, nm, 999] : List Int).length : Int)) hc5; have pvc6 := amongV_mem hB (K := [0, nm, 999]) (by simp) hc5.1; generalize amongV B [0, nm, 999] c5 = vc6 at pc6 pvc6; generalize pickC B (([0, nm, 999] : List Int).length : Int) c5 = c6 at pc6 hc6; (first | refine callS.lend [0, 3] false pc6 (by decide) ⟨leO, leO, trivial⟩ (lendCur2 rfl rfl) (growCur2 B _ _) (.inl rfl) ?_ | refine callS.lend [0, 4] false pc6 (by decide) ⟨leO, leO, trivial⟩ (lendCur2 rfl rfl) (growCur2 B _ _) (.inl rfl) ?_ | refine callS.lend [0, 5] false pc6 (by decide) ⟨leO, leO, trivial⟩ (lendCur2 rfl rfl) (growCur2 B _ _) (.inl rfl) ?_ | refine callS.lend [0, 6] false pc6 (by decide) ⟨leO, leO, trivial⟩ (lendCur2 rfl rfl) (growCur2 B _ _) (.inl rfl) ?_ | refine callS.lend [0, 7] false pc6 (by decide) ⟨leO, leO, trivial⟩ (lendCur2 rfl rfl) (growCur2 B _ _) (.inl rfl) ?_ | refine callS.lend [0, 8] false pc6 (by decide) ⟨leO, leO, trivial⟩ (lendCur2 rfl rfl) (growCur2 B _ _) (.inl rfl) ?_)
           (repeat ((repeat1' (first | simp -implicitDefEqProofs -dsimp only [go_sem, Cur.ren] | simp -dsimp (disch := omega) only [wrap_i64])); repeat (with_reducible refine sideA ?_)))
           have pc7 := among_ok hB (hcb hc6 (by omega)) [0, 1, -1] (by simp) (by simp); have hc7 := pickC_le (B := B) (n := (([0, 1, -1] : List Int).length : Int)) hc6; have pvc7 := amongV_mem hB (K := [0, 1, -1]) (by simp) hc6.1; generalize amongV B [0, 1, -1] c6 = vc7 at pc7 pvc7; generalize pickC B (([0, 1, -1] : List Int).length : Int) c6 = c7 at pc7 hc7; (first | refine callS.lend [0, 3] false pc7 (by decide) ⟨leO, leO, trivial⟩ (lendCur2 rfl rfl) (growCur2 B _ _) (.inl rfl) ?_ | refine callS.lend [0, 4] false pc7 (by decide) ⟨leO, leO, trivial⟩ (lendCur2 rfl rfl) (growCur2 B _ _) (.inl rfl) ?_ | refine callS.lend [0, 5] false pc7 (by decide) ⟨leO, leO, trivial⟩ (lendCur2 rfl rfl) (growCur2 B _ _) (.inl rfl) ?_ | refine callS.lend [0, 6] false pc7 (by decide) ⟨leO, leO, trivial⟩ (lendCur2 rfl rfl) (growCur2 B _ _) (.inl rfl) ?_ | refine callS.lend [0, 7] false pc7 (by decide) ⟨leO, leO, trivial⟩ (lendCur2 rfl rfl) (growCur2 B _ _) (.inl rfl) ?_ | refine callS.lend [0, 8] false pc7 (by decide) ⟨leO, leO, trivial⟩ (lendCur2 rfl rfl) (growCur2 B _ _) (.inl rfl) ?_)
           (repeat ((repeat1' (first | simp -implicitDefEqProofs -dsimp only [go_sem, Cur.ren] | simp -dsimp (disch := omega) only [wrap_i64])); repeat (with_reducible refine sideA ?_)))
           exact step_fin rfl (i64R_mem pvc5 (by simp [i64R])) (i64R_mem pvc6 (by intro x hx; simp at hx; rcases hx with rfl | rfl | rfl <;> first | assumption | simp [i64R])) (i64R_mem pvc7 (by simp [i64R])) (lmono hc7 (by simp only [List.length_cons, List.length_nil] at *; omega))
         · (repeat ((repeat1' (first | simp -implicitDefEqProofs -dsimp only [go_sem, h5] | simp -dsimp (disch := omega) only [wrap_i64])); repeat (with_reducible refine sideA ?_)))
           repeat' (first | (refine condT.split (fun h6 => ?_) (fun h6 => ?_) <;> (repeat ((repeat1' (first | simp -implicitDefEqProofs -dsimp only [go_sem, h6, Cur.ren] | simp -dsimp (disch := omega) only [wrap_i64])); repeat (with_reducible refine sideA ?_)))) | (exact step_fin rfl (by first | assumption | (simp [i64R]; done) | exact i64R_mem pvc5 (by simp [i64R])) (by first | assumption | (simp [i64R]; done) | exact i64R_mem pvc5 (by simp [i64R])) (by first | assumption | (simp [i64R]; done) | exact i64R_mem pvc5 (by simp [i64R])) (by first | exact lmono hc5 (by omega) | exact lmono hc4 (by omega))) | (have pc5 := among_ok hB (hcb hc4 (by omega)) [1, 100, 6000, 6001, 1000001, 0] (by simp) (by simp); have hc5 := pickC_le (B := B) (n := (([1, 100, 6000, 6001, 1000001, 0] : List Int).length : Int)) hc4; have pvc5 := amongV_mem hB (K := [1, 100, 6000, 6001, 1000001, 0]) (by simp) hc4.1; generalize amongV B [1, 100, 6000, 6001, 1000001, 0] c4 = vc5 at pc5 pvc5; generalize pickC B (([1, 100, 6000, 6001, 1000001, 0] : List Int).length : Int) c4 = c5 at pc5 hc5; (first | refine callS.lend [0, 3] false pc5 (by decide) ⟨leO, leO, trivial⟩ (lendCur2 rfl rfl) (growCur2 B _ _) (.inl rfl) ?_ | refine callS.lend [0, 4] false pc5 (by decide) ⟨leO, leO, trivial⟩ (lendCur2 rfl rfl) (growCur2 B _ _) (.inl rfl) ?_ | refine callS.lend [0, 5] false pc5 (by decide) ⟨leO, leO, trivial⟩ (lendCur2 rfl rfl) (growCur2 B _ _) (.inl rfl) ?_ | refine callS.lend [0, 6] false pc5 (by decide) ⟨leO, leO, trivial⟩ (lendCur2 rfl rfl) (growCur2 B _ _) (.inl rfl) ?_ | refine callS.lend [0, 7] false pc5 (by decide) ⟨leO, leO, trivial⟩ (lendCur2 rfl rfl) (growCur2 B _ _) (.inl rfl) ?_ | refine callS.lend [0, 8] false pc5 (by decide) ⟨leO, leO, trivial⟩ (lendCur2 rfl rfl) (growCur2 B _ _) (.inl rfl) ?_); (repeat ((repeat1' (first | simp -implicitDefEqProofs -dsimp only [go_sem, Cur.ren] | simp -dsimp (disch := omega) only [wrap_i64])); repeat (with_reducible refine sideA ?_)))) | (have pc5 := among_ok hB (hcb hc4 (by omega)) [-20, 12, 30, 49, 50, 95, 96] (by simp) (by simp); have hc5 := pickC_le (B := B) (n := (([-20, 12, 30, 49, 50, 95, 96] : List Int).length : Int)) hc4; have pvc5 := amongV_mem hB (K := [-20, 12, 30, 49, 50, 95, 96]) (by simp) hc4.1; generalize amongV B [-20, 12, 30, 49, 50, 95, 96] c4 = vc5 at pc5 pvc5; generalize pickC B (([-20, 12, 30, 49, 50, 95, 96] : List Int).length : Int) c4 = c5 at pc5 hc5; (first | refine callS.lend [0, 3] false pc5 (by decide) ⟨leO, leO, trivial⟩ (lendCur2 rfl rfl) (growCur2 B _ _) (.inl rfl) ?_ | refine callS.lend [0, 4] false pc5 (by decide) ⟨leO, leO, trivial⟩ (lendCur2 rfl rfl) (growCur2 B _ _) (.inl rfl) ?_ | refine callS.lend [0, 5] false pc5 (by decide) ⟨leO, leO, trivial⟩ (lendCur2 rfl rfl) (growCur2 B _ _) (.inl rfl) ?_ | refine callS.lend [0, 6] false pc5 (by decide) ⟨leO, leO, trivial⟩ (lendCur2 rfl rfl) (growCur2 B _ _) (.inl rfl) ?_ | refine callS.lend [0, 7] false pc5 (by decide) ⟨leO, leO, trivial⟩ (lendCur2 rfl rfl) (growCur2 B _ _) (.inl rfl) ?_ | refine callS.lend [0, 8] false pc5 (by decide) ⟨leO, leO, trivial⟩ (lendCur2 rfl rfl) (growCur2 B _ _) (.inl rfl) ?_); (repeat ((repeat1' (first | simp -implicitDefEqProofs -dsimp only [go_sem, Cur.ren] | simp -dsimp (disch := omega) only [wrap_i64])); repeat (with_reducible refine sideA ?_)))) | (have pc5 := among_ok hB (hcb hc4 (by omega)) [0, 1, -3, 10, -10, 11] (by simp) (by simp); have hc5 := pickC_le (B := B) (n := (([0, 1, -3, 10, -10, 11] : List Int).length : Int)) hc4; have pvc5 := amongV_mem hB (K := [0, 1, -3, 10, -10, 11]) (by simp) hc4.1; generalize amongV B [0, 1, -3, 10, -10, 11] c4 = vc5 at pc5 pvc5; generalize pickC B (([0, 1, -3, 10, -10, 11] : List Int).length : Int) c4 = c5 at pc5 hc5; (first | refine callS.lend [0, 3] false pc5 (by decide) ⟨leO, leO, trivial⟩ (lendCur2 rfl rfl) (growCur2 B _ _) (.inl rfl) ?_ | refine callS.lend [0, 4] false pc5 (by decide) ⟨leO, leO, trivial⟩ (lendCur2 rfl rfl) (growCur2 B _ _) (.inl rfl) ?_ | refine callS.lend [0, 5] false pc5 (by decide) ⟨leO, leO, trivial⟩ (lendCur2 rfl rfl) (growCur2 B _ _) (.inl rfl) ?_ | refine callS.lend [0, 6] false pc5 (by decide) ⟨leO, leO, trivial⟩ (lendCur2 rfl rfl) (growCur2 B _ _) (.inl rfl) ?_ | refine callS.lend [0, 7] false pc5 (by decide) ⟨leO, leO, trivial⟩ (lendCur2 rfl rfl) (growCur2 B _ _) (.inl rfl) ?_ | refine callS.lend [0, 8] false pc5 (by decide) ⟨leO, leO, trivial⟩ (lendCur2 rfl rfl) (growCur2 B _ _) (.inl rfl) ?_); (repeat ((repeat1' (first | simp -implicitDefEqProofs -dsimp only [go_sem, Cur.ren] | simp -dsimp (disch := omega) only [wrap_i64])); repeat (with_reducible refine sideA ?_)))))
     · have pk := pick_ok hB (hcb hc2 (by omega)) w.Shocks.length (by omega)
       have hq := pickC_le (B := B) (n := w.Shocks.length) hc2
       rw [hj] at pk
       generalize pickC B w.Shocks.length c2 = c3 at pk hq
       (repeat ((repeat1' (first | simp -implicitDefEqProofs -dsimp only [go_sem] | simp -dsimp (disch := omega) only [wrap_i64])); repeat (with_reducible refine sideA ?_)))
       repeat' (first | (refine callS.lend [0] false pk (by decide) ⟨leO, leO, trivial⟩ (lendCur rfl) (growCur B _ _) (.inl rfl) ?_; (repeat ((repeat1' (first | simp -implicitDefEqProofs -dsimp only [go_sem, hr0, Shock.cs, Cur.ren] | simp -dsimp (disch := omega) only [wrap_i64])); repeat (with_reducible refine sideA ?_)))) | (refine And.intro ?_ ?_) | exact trivial)
       all_goals
         refine ⟨_, ⟨c3, lmono hq (by omega), rfl⟩, ?_⟩
         first
         | (refine Weak.cut 4 (by simp) (by simp) ?_ ?_
            · (simp [LeC, LeV, ren, cutF, hst1]; done)
            · (simp [cutH, cutB, Cur.ren, ren, Watch.cs, map_ren_rows, Shock.cs]; done))
         | (refine Weak.pick [0, 1, 2, 4] (by decide) (fun j hj => by cases j <;> simp_all) ?_ ?_
            · (simp [LeG, LeC, LeV, ren, pickF, posOf, hst1]; done)
            · (simp [pickH, pickB, Cur.ren, ren, Watch.cs, map_ren_rows, Shock.cs]; done))
   · (repeat ((repeat1' (first | simp -implicitDefEqProofs -dsimp only [go_sem, h2] | simp -dsimp (disch := omega) only [wrap_i64])); repeat (with_reducible refine sideA ?_)))
     obtain ⟨c3, ec3⟩ : ∃ x, x = c2 := ⟨_, rfl⟩
     have hc3 : c3.le (k + 6) := by rw [ec3]; exact lmono hc2 (by omega)
     rw [← ec3]
     have pc4 := one_ok hB (hcb hc3 (by omega)) 40 (by omega); have hc4 := pickC_le (B := B) (n := 40) hc3; generalize oneV B 40 c3 = vc4 at pc4; generalize pickC B 40 c3 = c4 at pc4 hc4; refine callS.lend [0] false pc4 (by decide) ⟨leO, leO, trivial⟩ (lendCur rfl) (growCur B _ _) (.inl rfl) ?_
     (repeat ((repeat1' (first | simp -implicitDefEqProofs -dsimp only [go_sem, Cur.ren] | simp -dsimp (disch := omega) only [wrap_i64])); repeat (with_reducible refine sideA ?_)))
     refine condT.split (fun h5 => ?_) (fun h5 => ?_)
     · (repeat ((repeat1' (first | simp -implicitDefEqProofs -dsimp only [go_sem, h5] | simp -dsimp (disch := omega) only [wrap_i64])); repeat (with_reducible refine sideA ?_)))
       have pc5 := among_ok hB (hcb hc4 (by omega)) [0, 9, 6] (by simp) (by simp); have hc5 := pickC_le (B := B) (n := (([0, 9, 6] : List Int).length : Int)) hc4; have pvc5 := amongV_mem hB (K := [0, 9, 6]) (by simp) hc4.1; generalize amongV B [0, 9, 6] c4 = vc5 at pc5 pvc5; generalize pickC B (([0, 9, 6] : List Int).length : Int) c4 = c5 at pc5 hc5; (first | refine callS.lend [0, 3] false pc5 (by decide) ⟨leO, leO, trivial⟩ (lendCur2 rfl rfl) (growCur2 B _ _) (.inl rfl) ?_ | refine callS.lend [0, 4] false pc5 (by decide) ⟨leO, leO, trivial⟩ (lendCur2 rfl rfl) (growCur2 B _ _) (.inl rfl) ?_ | refine callS.lend [0, 5] false pc5 (by decide) ⟨leO, leO, trivial⟩ (lendCur2 rfl rfl) (growCur2 B _ _) (.inl rfl) ?_ | refine callS.lend [0, 6] false pc5 (by decide) ⟨leO, leO, trivial⟩ (lendCur2 rfl rfl) (growCur2 B _ _) (.inl rfl) ?_ | refine callS.lend [0, 7] false pc5 (by decide) ⟨leO, leO, trivial⟩ (lendCur2 rfl rfl) (growCur2 B _ _) (.inl rfl) ?_ | refine callS.lend [0, 8] false pc5 (by decide) ⟨leO, leO, trivial⟩ (lendCur2 rfl rfl) (growCur2 B _ _) (.inl rfl) ?_)
       (repeat ((repeat1' (first | simp -implicitDefEqProofs -dsimp only [go_sem, Cur.ren] | simp -dsimp (disch := omega) only [wrap_i64])); repeat (with_reducible refine sideA ?_)))
       have pc6 := among_ok hB (hcb hc5 (by omega)) [0, 1, 999] (by simp) (by simp); have hc6 := pickC_le (B := B) (n := (([0, 1, 999] : List Int).length : Int)) hc5; have pvc6 := amongV_mem hB (K := [0, 1, 999]) (by simp) hc5.1; generalize amongV B [0, 1, 999] c5 = vc6 at pc6 pvc6; generalize pickC B (([0, 1, 999] : List Int).length : Int) c5 = c6 at pc6 hc6; (first | refine callS.lend [0, 3] false pc6 (by decide) ⟨leO, leO, trivial⟩ (lendCur2 rfl rfl) (growCur2 B _ _) (.inl rfl) ?_ | refine callS.lend [0, 4] false pc6 (by decide) ⟨leO, leO, trivial⟩ (lendCur2 rfl rfl) (growCur2 B _ _) (.inl rfl) ?_ | refine callS.lend [0, 5] false pc6 (by decide) ⟨leO, leO, trivial⟩ (lendCur2 rfl rfl) (growCur2 B _ _) (.inl rfl) ?_ | refine callS.lend [0, 6] false pc6 (by decide) ⟨leO, leO, trivial⟩ (lendCur2 rfl rfl) (growCur2 B _ _) (.inl rfl) ?_ | refine callS.lend [0, 7] false pc6 (by decide) ⟨leO, leO, trivial⟩ (lendCur2 rfl rfl) (growCur2 B _ _) (.inl rfl) ?_ | refine callS.lend [0, 8] false pc6 (by decide) ⟨leO, leO, trivial⟩ (lendCur2 rfl rfl) (growCur2 B _ _) (.inl rfl) ?_)
       (repeat ((repeat1' (first | simp -implicitDefEqProofs -dsimp only [go_sem, Cur.ren] | simp -dsimp (disch := omega) only [wrap_i64])); repeat (with_reducible refine sideA ?_)))
       have pc7 := among_ok hB (hcb hc6 (by omega)) [0, 1, -1] (by simp) (by simp); have hc7 := pickC_le (B := B) (n := (([0, 1, -1] : List Int).length : Int)) hc6; have pvc7 := amongV_mem hB (K := [0, 1, -1]) (by simp) hc6.1; generalize amongV B [0, 1, -1] c6 = vc7 at pc7 pvc7; generalize pickC B (([0, 1, -1] : List Int).length : Int) c6 = c7 at pc7 hc7; (first | refine callS.lend [0, 3] false pc7 (by decide) ⟨leO, leO, trivial⟩ (lendCur2 rfl rfl) (growCur2 B _ _) (.inl rfl) ?_ | refine callS.lend [0, 4] false pc7 (by decide) ⟨leO, leO, trivial⟩ (lendCur2 rfl rfl) (growCur2 B _ _) (.inl rfl) ?_ | refine callS.lend [0, 5] false pc7 (by decide) ⟨leO, leO, trivial⟩ (lendCur2 rfl rfl) (growCur2 B _ _) (.inl rfl) ?_ | refine callS.lend [0, 6] false pc7 (by decide) ⟨leO, leO, trivial⟩ (lendCur2 rfl rfl) (growCur2 B _ _) (.inl rfl) ?_ | refine callS.lend [0, 7] false pc7 (by decide) ⟨leO, leO, trivial⟩ (lendCur2 rfl rfl) (growCur2 B _ _) (.inl rfl) ?_ | refine callS.lend [0, 8] false pc7 (by decide) ⟨leO, leO, trivial⟩ (lendCur2 rfl rfl) (growCur2 B _ _) (.inl rfl) ?_)
       (repeat ((repeat1' (first | simp -implicitDefEqProofs -dsimp only [go_sem, Cur.ren] | simp -dsimp (disch := omega) only [wrap_i64])); repeat (with_reducible refine sideA ?_)))
       exact step_fin rfl (i64R_mem pvc5 (by simp [i64R])) (i64R_mem pvc6 (by intro x hx; simp at hx; rcases hx with rfl | rfl | rfl <;> first | assumption | simp [i64R])) (i64R_mem pvc7 (by simp [i64R])) (lmono hc7 (by simp only [List.length_cons, List.length_nil] at *; omega))
     · (repeat ((repeat1' (first | simp -implicitDefEqProofs -dsimp only [go_sem, h5] | simp -dsimp (disch := omega) only [wrap_i64])); repeat (with_reducible refine sideA ?_)))
       repeat' (first | (refine condT.split (fun h6 => ?_) (fun h6 => ?_) <;> (repeat ((repeat1' (first | simp -implicitDefEqProofs -dsimp only [go_sem, h6, Cur.ren] | simp -dsimp (disch := omega) only [wrap_i64])); repeat (with_reducible refine sideA ?_)))) | (exact step_fin rfl (by first | assumption | (simp [i64R]; done) | exact i64R_mem pvc5 (by simp [i64R])) (by first | assumption | (simp [i64R]; done) | exact i64R_mem pvc5 (by simp [i64R])) (by first | assumption | (simp [i64R]; done) | exact i64R_mem pvc5 (by simp [i64R])) (by first | exact lmono hc5 (by omega) | exact lmono hc4 (by omega))) | (have pc5 := among_ok hB (hcb hc4 (by omega)) [1, 100, 6000, 6001, 1000001, 0] (by simp) (by simp); have hc5 := pickC_le (B := B) (n := (([1, 100, 6000, 6001, 1000001, 0] : List Int).length : Int)) hc4; have pvc5 := amongV_mem hB (K := [1, 100, 6000, 6001, 1000001, 0]) (by simp) hc4.1; generalize amongV B [1, 100, 6000, 6001, 1000001, 0] c4 = vc5 at pc5 pvc5; generalize pickC B (([1, 100, 6000, 6001, 1000001, 0] : List Int).length : Int) c4 = c5 at pc5 hc5; (first | refine callS.lend [0, 3] false pc5 (by decide) ⟨leO, leO, trivial⟩ (lendCur2 rfl rfl) (growCur2 B _ _) (.inl rfl) ?_ | refine callS.lend [0, 4] false pc5 (by decide) ⟨leO, leO, trivial⟩ (lendCur2 rfl rfl) (growCur2 B _ _) (.inl rfl) ?_ | refine callS.lend [0, 5] false pc5 (by decide) ⟨leO, leO, trivial⟩ (lendCur2 rfl rfl) (growCur2 B _ _) (.inl rfl) ?_ | refine callS.lend [0, 6] false pc5 (by decide) ⟨leO, leO, trivial⟩ (lendCur2 rfl rfl) (growCur2 B _ _) (.inl rfl) ?_ | refine callS.lend [0, 7] false pc5 (by decide) ⟨leO, leO, trivial⟩ (lendCur2 rfl rfl) (growCur2 B _ _) (.inl rfl) ?_ | refine callS.lend [0, 8] false pc5 (by decide) ⟨leO, leO, trivial⟩ (lendCur2 rfl rfl) (growCur2 B _ _) (.inl rfl) ?_); (repeat ((repeat1' (first | simp -implicitDefEqProofs -dsimp only [go_sem, Cur.ren] | simp -dsimp (disch := omega) only [wrap_i64])); repeat (with_reducible refine sideA ?_)))) | (have pc5 := among_ok hB (hcb hc4 (by omega)) [-20, 12, 30, 49, 50, 95, 96] (by simp) (by simp); have hc5 := pickC_le (B := B) (n := (([-20, 12, 30, 49, 50, 95, 96] : List Int).length : Int)) hc4; have pvc5 := amongV_mem hB (K := [-20, 12, 30, 49, 50, 95, 96]) (by simp) hc4.1; generalize amongV B [-20, 12, 30, 49, 50, 95, 96] c4 = vc5 at pc5 pvc5; generalize pickC B (([-20, 12, 30, 49, 50, 95, 96] : List Int).length : Int) c4 = c5 at pc5 hc5; (first | refine callS.lend [0, 3] false pc5 (by decide) ⟨leO, leO, trivial⟩ (lendCur2 rfl rfl) (growCur2 B _ _) (.inl rfl) ?_ | refine callS.lend [0, 4] false pc5 (by decide) ⟨leO, leO, trivial⟩ (lendCur2 rfl rfl) (growCur2 B _ _) (.inl rfl) ?_ | refine callS.lend [0, 5] false pc5 (by decide) ⟨leO, leO, trivial⟩ (lendCur2 rfl rfl) (growCur2 B _ _) (.inl rfl) ?_ | refine callS.lend [0, 6] false pc5 (by decide) ⟨leO, leO, trivial⟩ (lendCur2 rfl rfl) (growCur2 B _ _) (.inl rfl) ?_ | refine callS.lend [0, 7] false pc5 (by decide) ⟨leO, leO, trivial⟩ (lendCur2 rfl rfl) (growCur2 B _ _) (.inl rfl) ?_ | refine callS.lend [0, 8] false pc5 (by decide) ⟨leO, leO, trivial⟩ (lendCur2 rfl rfl) (growCur2 B _ _) (.inl rfl) ?_); (repeat ((repeat1' (first | simp -implicitDefEqProofs -dsimp only [go_sem, Cur.ren] | simp -dsimp (disch := omega) only [wrap_i64])); repeat (with_reducible refine sideA ?_)))) | (have pc5 := among_ok hB (hcb hc4 (by omega)) [0, 1, -3, 10, -10, 11] (by simp) (by simp); have hc5 := pickC_le (B := B) (n := (([0, 1, -3, 10, -10, 11] : List Int).length : Int)) hc4; have pvc5 := amongV_mem hB (K := [0, 1, -3, 10, -10, 11]) (by simp) hc4.1; generalize amongV B [0, 1, -3, 10, -10, 11] c4 = vc5 at pc5 pvc5; generalize pickC B (([0, 1, -3, 10, -10, 11] : List Int).length : Int) c4 = c5 at pc5 hc5; (first | refine callS.lend [0, 3] false pc5 (by decide) ⟨leO, leO, trivial⟩ (lendCur2 rfl rfl) (growCur2 B _ _) (.inl rfl) ?_ | refine callS.lend [0, 4] false pc5 (by decide) ⟨leO, leO, trivial⟩ (lendCur2 rfl rfl) (growCur2 B _ _) (.inl rfl) ?_ | refine callS.lend [0, 5] false pc5 (by decide) ⟨leO, leO, trivial⟩ (lendCur2 rfl rfl) (growCur2 B _ _) (.inl rfl) ?_ | refine callS.lend [0, 6] false pc5 (by decide) ⟨leO, leO, trivial⟩ (lendCur2 rfl rfl) (growCur2 B _ _) (.inl rfl) ?_ | refine callS.lend [0, 7] false pc5 (by decide) ⟨leO, leO, trivial⟩ (lendCur2 rfl rfl) (growCur2 B _ _) (.inl rfl) ?_ | refine callS.lend [0, 8] false pc5 (by decide) ⟨leO, leO, trivial⟩ (lendCur2 rfl rfl) (growCur2 B _ _) (.inl rfl) ?_); (repeat ((repeat1' (first | simp -implicitDefEqProofs -dsimp only [go_sem, Cur.ren] | simp -dsimp (disch := omega) only [wrap_i64])); repeat (with_reducible refine sideA ?_)))))
end Go.Proofs
end
