/-
  A part of the proof: texts put together by a program of the prover. Conditions: none.
-/
import Derived.Test.YtgnnoacaghelhaaDoorZShocksLaw5
import Derived.Shelf.RegionOpenPlain
import Derived.WalkKit
import Derived.Deep.LoopGhost
import Derived.Deep.RegionLaw
import Derived.Lib.Walk
import Derived.Sort.WalkB12
import Derived.Lib.SliceRun
import Derived.Deep.Upon
import Derived.Deep.MidRow
import Derived.Laws.IdiomCopy
import Derived.Lib.Hide
import Derived.Lib.ItoaNum
import Derived.Lib.ItoaLen
set_option linter.unusedSimpArgs false
set_option linter.unusedVariables false
section
set_option maxRecDepth 100000
set_option maxHeartbeats 4000000
namespace Go.Proofs
open Go.Lv
open Go.Shelf Go.RowKit Go.Lib Go.Sort
def putV (C : Array Value) : Nat → List Value → Array Value
 | _, [] => C
 | o, v :: r => putV (C.setIfInBounds o v) (o + 1) r
theorem putV_size : ∀ (vs : List Value) (C : Array Value) (o : Nat), (putV C o vs).size = C.size
 | [], _, _ => rfl
 | v :: r, C, o => by rw [putV, putV_size r]; simp
theorem putV_out : ∀ (vs : List Value) (C : Array Value) (o k : Nat), (k < o ∨ o + vs.length ≤ k) → (putV C o vs).getD k Go.undef = C.getD k Go.undef
 | [], _, _, _, _ => rfl
 | v :: r, C, o, k, hk => by
   simp only [List.length_cons] at hk
   rw [putV, putV_out r _ _ _ (by omega), Array.getD_eq_getD_getElem?, Array.getD_eq_getD_getElem?, Array.getElem?_setIfInBounds_ne (by omega)]
theorem putV_in : ∀ (vs : List Value) (C : Array Value) (o j : Nat) (hj : j < vs.length), o + vs.length ≤ C.size → (putV C o vs).getD (o + j) Go.undef = vs[j]
 | v :: r, C, o, 0, _, h => by
   simp only [List.length_cons] at h
   rw [putV, putV_out r _ _ _ (by omega), Array.getD_eq_getD_getElem?, Nat.add_zero, Array.getElem?_setIfInBounds_self_of_lt (by omega)]
   rfl
 | v :: r, C, o, j + 1, hj, h => by
   simp only [List.length_cons] at h
   have := putV_in r (C.setIfInBounds o v) (o + 1) j (by simpa using hj) (by simp; omega)
   rw [putV, show o + (j + 1) = o + 1 + j by omega, this]
   rfl
theorem setCells_row (b : Nat) : ∀ (vs : List Value) (o : Nat) (w : World) (C : Array Value) (T : TypeId) (fr : Nat × Nat), w.heap[b]? = some (.cells C T fr) → w.setCells b o vs = w.setRow b (putV C o vs)
 | [], _, w, C, T, fr, hb => (setRow_self w b C T fr hb).symm
 | v :: r, o, w, C, T, fr, hb => by
   rw [World.setCells, setCell_eq_setRow w b o C T fr v hb, setCells_row b r (o + 1) _ _ T fr (setRow_heap w b C _ T fr hb), setRow_setRow]
   rfl
theorem run_clear_one {P : Program} (w : World) (t e ty : TypeId) (z : Value) (ht : P.underlying t = some (.slice e)) (hv : ∀ w, (zeroValue e).run P w = .ok z w) (h1 : ∀ u ∈ z.cells.toList, u.oneCell' = true) (b o c : Nat)
   (hc : ∀ j, j < z.cells.size → (w.cell? ⟨b, o + j, none⟩).isSome = true) (hf : ∀ j, j < z.cells.size → w.frozen? ⟨b, o + j, none⟩ = false) :
   (Builtin.clear_ #[t] ty #[.slice (some ⟨b, o, none⟩) 1 c]).run P w = .ok (.tuple #[]) (w.setCells b o z.cells.toList) := by
 have hzc : (Builtin.zeroCells z.cells 1).toList = z.cells.toList := by
   simp [Builtin.zeroCells]
   apply List.ext_getElem
   · simp
   · intro i h1 h2
     simp at h1
     simp [Nat.mod_eq_of_lt h1, h1]
 have hst := run_storeCells_cells (P := P) b o z.cells.toList 0 w (by simpa using hc) (by simpa using hf) (by intro v hv'; exact h1 v hv')
 simp only [Nat.add_zero] at hst
 simp [Builtin.clear_, run_underlying ht, hv, hzc, hst]
def zeroShock : Value := .agg #[.int .i64 0, .int .i64 0, .int .i64 0, .int .i64 0, .int .i64 0]
theorem delShock_any (b n cap i : Nat) (C : Array Value) (T : TypeId) (w : World) {fr : Nat × Nat} (hb : w.heap[b]? = some (.cells C T fr)) (hfr : FrOk fr C.size) (hC : cap * 5 ≤ C.size) (hn : n ≤ cap) (hi : i < n) (news : List Value) (hnl : news.length = (n - (i + 1)) * 5)
   (hng : ∀ t, t < (n - (i + 1)) * 5 → news[t]? = some (C.getD ((i + 1) * 5 + t) Go.undef)) (h1 : ∀ u ∈ news, u.oneCell' = true) :
   Calls Tryd.prog 187 #[.slice (some ⟨b, 0, none⟩) n cap, .int .i64 i, .int .i64 ((i : Int) + 1)] w fun e w' =>
     e = .returned (.slice (some ⟨b, 0, none⟩) (n - 1) cap) ∧ w' = ((w.drew).setCells b (i * 5) news).setCells b ((n - 1) * 5) zeroShock.cells.toList := by
 have he : elOf Tryd.prog 44 = some (101, 5, 40) := by kernel_rfl
 obtain ⟨i0, t81, hi0, hz5, _⟩ := elOf_some he
 have hzv : ∀ w, (zeroValue 101).run Tryd.prog w = .ok zeroShock w := by
   have hz : (Tryd.prog.info? 101).bind (·.zero) = some zeroShock := by kernel_rfl
   intro w
   rw [hi0] at hz
   simp only [Option.bind_some] at hz
   simp [zeroValue, typeInfo, hi0, hz]
 have hcell : ∀ k, k < C.size → w.cell? ⟨b, k, none⟩ = some (C.getD k Go.undef) := fun k hk => by simp [World.cell?, hb, Array.getD, hk]
 have hfrz : ∀ (k : Nat), k < C.size → w.frozen? ⟨b, k, none⟩ = false := fun k hk => hfr.not hb hk
 obtain ⟨A, hA, hsrc⟩ : ∃ A : Addr, (if cap = i + 1 then some (⟨b, 0, none⟩ : Addr) else some ⟨b, (i + 1) * 5, none⟩) = some A ∧ Hid (∀ t u, news[t]? = some u → w.drew.cell? (A.add t) = some u) := by
   by_cases h : cap = i + 1
   · refine ⟨⟨b, 0, none⟩, by simp [h], fun t u hu => ?_⟩
     have h0 : news.length = 0 := by rw [hnl]; omega
     rw [List.length_eq_zero_iff.1 h0] at hu
     simp at hu
   · refine ⟨⟨b, (i + 1) * 5, none⟩, by simp [h], fun t u hu => ?_⟩
     have ht : t < (n - (i + 1)) * 5 := by
       have := (List.getElem?_eq_some_iff.1 hu).1
       rwa [hnl] at this
     rw [hng t ht] at hu
     rw [Addr.add_lit]
     exact (hcell ((i + 1) * 5 + t) (by omega)).trans hu
 have s1 : Hid (news.length = (n - (i + 1)) * 5) := hnl
 have s2 : Hid (∀ u ∈ news, u.oneCell' = true) := h1
 have s3 : Hid (∀ t, t < news.length → (w.drew.cell? ⟨b, 0 + i * 5 + t, none⟩).isSome = true ∧ w.drew.frozen? ⟨b, 0 + i * 5 + t, none⟩ = false) := by
   intro t ht
   rw [hnl] at ht
   exact ⟨by show (w.cell? _).isSome = true; rw [hcell _ (by omega)]; rfl, hfrz _ (by omega)⟩
 obtain ⟨W1, hW1⟩ : ∃ W1, W1 = w.drew.setCells b (i * 5) news := ⟨_, rfl⟩
 have hsome : ∀ k, k < C.size → (W1.cell? ⟨b, k, none⟩).isSome = true := fun k hk => by
   rw [hW1]
   exact World.isSome_setCells b news _ w.drew _ (by show (w.cell? _).isSome = true; rw [hcell k hk]; rfl)
 have hcl : ∀ ty, (Builtin.clear_ #[44] ty #[.slice (some ⟨b, (i + (n - (i + 1))) * 5, none⟩) (n - (i + (n - (i + 1)))) (cap - (i + (n - (i + 1))))]).run Tryd.prog W1 = .ok (.tuple #[]) (W1.setCells b ((i + (n - (i + 1))) * 5) zeroShock.cells.toList) := by
   intro ty
   have e1 : n - (i + (n - (i + 1))) = 1 := by omega
   rw [e1]
   refine run_clear_one W1 _ _ ty zeroShock t81 hzv (by decide) b _ _ (fun j hj => hsome _ ?_) (fun j hj => ?_)
   · have : j < 5 := hj
     omega
   · rw [hW1, World.frozen?_setCells]
     have : j < 5 := hj
     exact hfrz _ (by omega)
 obtain ⟨zc, hzc⟩ : ∃ zc, zc = zeroShock.cells.toList := ⟨_, rfl⟩
 rw [← hzc] at hcl
 have Z : Aside (zc = zeroShock.cells.toList) := hzc
 have X : Aside (W1 = w.drew.setCells b (i * 5) news) := hW1
 have hW : Hid (W1 = w.drew.setCells b (0 + i * 5) news) := by rw [Nat.zero_add]; exact hW1
 have hic : i ≤ cap := by omega
 have hjc : i + 1 ≤ cap := by omega
 have hz5' : Hid (i0.size = 5) := hz5
 have mixed := Tryd.mixed
 have hb1 : (0 : Int) ≤ (i : Int) + 1 ∧ (i : Int) + 1 ≤ (n : Int) := by omega
 have hb2 : (0 : Int) ≤ (i : Int) + 1 := by omega
 have hb3 : (i : Int) + 1 ≤ (n : Int) := by omega
 clear hzc hzv hW1 hnl hng h1 hcell hfrz hfr hb hsome
 go_enter Tryd.func187, Tryd.ntmps187
 go_wp2_with fail
 go_region_law_o (refine step_append_room rfl (.tmp 22) (.tmp 25) 44 rfl 101 i0 5 t81 hi0 hz5'.out b 0 i cap (by simp [Act.eval, Act.put]) A (n - (i + 1)) (cap - (i + 1)) news (by simp [Act.eval, Act.put]) s1.out hsrc.out s2.out (by omega) s3.out ?_; rw [← hW.out])
 go_wp2
 go_ret
 have e1 : i + (n - (i + 1)) = n - 1 := by omega
 refine ⟨?_, ?_⟩
 · rw [e1]
   rfl
 · rw [e1, X.out, Z.out]
theorem delShock_ok (L : List Shock) (i : Nat) (hi : i < L.length) : Ctr Tryd.prog 187 [.osl 0 0 L.length 5, .int .i64 i, .int .i64 ((i : Int) + 1)] [some (rows Shock.cs L)] (.osl 0 0 (L.length - 1) 5)
   [some (rows Shock.cs (L.take i ++ L.drop (i + 1)) ++ [.int .i64 0, .int .i64 0, .int .i64 0, .int .i64 0, .int .i64 0])] := by
 refine Ctr.raw (by kernel_rfl) (fun w vs m av I hs => ?_)
 obtain ⟨n, hn⟩ : ∃ n, n = L.length := ⟨_, rfl⟩
 have hlen : (rows Shock.cs L).length = n * 5 := by rw [rows_len5, hn]
 have h0 := I.slots 0 (by simp)
 have h1 := I.slots 1 (by simp)
 have h2 := I.slots 2 (by simp)
 dsimp only [List.getElem_cons_zero, List.getElem_cons_succ] at h0 h1 h2
 have e1 := rv_int h1
 have e2 := rv_int h2
 obtain ⟨v0, hv0⟩ : ∃ v0, v0 = vs.getD 0 Go.undef := ⟨_, rfl⟩
 rw [← hv0] at h0
 have hvs : vs = #[v0, .int .i64 i, .int .i64 ((i : Int) + 1)] := by
   have hsz : vs.size = 3 := hs
   apply Array.ext
   · simpa using hsz
   · intro k hk hk'
     have hk3 : k < 3 := by omega
     have hg : vs[k] = vs.getD k Go.undef := by simp [Array.getD, hk]
     rw [hg]
     rcases (show k = 0 ∨ k = 1 ∨ k = 2 by omega) with rfl | rfl | rfl
     · exact hv0.symm
     · exact e1
     · exact e2
 cases h0 with
 | osl _ _ _ cap _ cs hid hl hc hsz =>
   have hcs : cs = rows Shock.cs L := by
     have := hid.1
     simpa using this.symm
   subst hcs
   rcases I.rh.blk 0 _ hid.1 with ⟨C, T, fr, hb, hfr, hle, hr⟩ | ⟨E, c, es, hb, hmb, _⟩
   rotate_left
   · have := hid.2
     rw [hmb] at this
     cases this
   have hrow : rowSize w (m 0) = C.size := by simp [rowSize, hb]
   rw [hrow] at hsz
   rw [← hn] at hc hi ⊢
   obtain ⟨news, hnews⟩ : ∃ news : List Value, news = (List.range ((n - (i + 1)) * 5)).map fun t => C.getD ((i + 1) * 5 + t) Go.undef := ⟨_, rfl⟩
   have hnl : news.length = (n - (i + 1)) * 5 := by rw [hnews]; simp
   have hng : ∀ t, t < (n - (i + 1)) * 5 → news[t]? = some (C.getD ((i + 1) * 5 + t) Go.undef) := fun t ht => by rw [hnews]; simp [ht]
   have hcellAll := rows_cell (cs := Shock.cs) L
   have h1c : ∀ u ∈ news, u.oneCell' = true := by
     intro u hu
     rw [hnews] at hu
     obtain ⟨t, ht, rfl⟩ := List.mem_map.1 hu
     have ht' := List.mem_range.1 ht
     have hk : (i + 1) * 5 + t < (rows Shock.cs L).length := by rw [hlen]; omega
     exact (one_of (hr _ hk) (List.all_eq_true.1 hcellAll _ (List.getElem_mem hk))).1
   rw [hvs, ← hn]
   refine (delShock_any (m 0) n cap i C T w hb hfr (by omega) hc hi news hnl hng h1c).mono ?_
   rintro e w' ⟨rfl, rfl⟩
   have hbd : w.drew.heap[m 0]? = some (.cells C T fr) := hb
   have hw : ((w.drew).setCells (m 0) (i * 5) news).setCells (m 0) ((n - 1) * 5) zeroShock.cells.toList = w.drew.setRow (m 0) (putV (putV C (i * 5) news) ((n - 1) * 5) zeroShock.cells.toList) := by
     rw [setCells_row (m 0) news _ w.drew C T _ hbd, setCells_row (m 0) _ _ _ _ T _ (setRow_heap w.drew (m 0) C _ T _ hbd), setRow_setRow]
   rw [hw]
   have I1 := I.world (Ext.drew _ w)
   have hz5 : zeroShock.cells.toList.length = 5 := rfl
   have hcut : rows Shock.cs (L.take i ++ L.drop (i + 1)) = (rows Shock.cs L).take (i * 5) ++ (rows Shock.cs L).drop ((i + 1) * 5) := by rw [rowsOf_append, rows_take Shock.csl, rows_drop Shock.csl]
   have hl1 : ((rows Shock.cs L).take (i * 5)).length = i * 5 := by rw [List.length_take, hlen]; omega
   have hl2 : ((rows Shock.cs L).drop ((i + 1) * 5)).length = (n - (i + 1)) * 5 := by rw [List.length_drop, hlen]; omega
   rw [hcut]
   obtain ⟨J, hstep⟩ := I1.setRow (id := 0) (cs := rows Shock.cs L) (cs' := (rows Shock.cs L).take (i * 5) ++ (rows Shock.cs L).drop ((i + 1) * 5) ++ [.int .i64 0, .int .i64 0, .int .i64 0, .int .i64 0, .int .i64 0])
     (C := C) (C' := putV (putV C (i * 5) news) ((n - 1) * 5) zeroShock.cells.toList) (T := T) hid hbd hfr (by rw [putV_size, putV_size]) (by simp only [List.length_append, hl1, hl2, hlen, List.length_cons, List.length_nil]; omega) (by simp only [List.length_append, hl1, hl2, putV_size, List.length_cons, List.length_nil]; omega) (fun k hk => by
       simp only [List.length_append, hl1, hl2, List.length_cons, List.length_nil] at hk
       have hrd : ∀ j (hj : j < (rows Shock.cs L).length), RV w.drew m [some (rows Shock.cs L)] (avm av m [some (rows Shock.cs L)]) true (C.getD j Go.undef) (rows Shock.cs L)[j] := by
         rcases I1.rh.blk 0 _ hid.1 with ⟨C2, T2, fr2, hb2, _, _, hr2⟩ | ⟨E, c, es, hb2, hmb, _⟩
         · rw [hbd] at hb2
           simp only [Option.some.injEq, Obj.cells.injEq] at hb2
           obtain ⟨rfl, _⟩ := hb2
           exact hr2
         · rw [hbd] at hb2; cases hb2
       rcases Nat.lt_or_ge k (i * 5) with h | h
       · rw [putV_out _ _ _ _ (by omega), putV_out _ _ _ _ (by omega)]
         have := hrd k (by omega)
         simpa [List.getElem_append, hl1, hl2, h, show k < i * 5 + (n - (i + 1)) * 5 by omega] using this
       · rcases Nat.lt_or_ge k ((n - 1) * 5) with h' | h'
         · rw [putV_out _ _ _ _ (by omega)]
           have hj : k - i * 5 < news.length := by omega
           have := putV_in news C (i * 5) (k - i * 5) hj (by omega)
           rw [show i * 5 + (k - i * 5) = k by omega] at this
           rw [this]
           have h3 := hng (k - i * 5) (by omega)
           rw [List.getElem?_eq_getElem hj] at h3
           simp only [Option.some.injEq] at h3
           rw [h3]
           have h4 := hrd ((i + 1) * 5 + (k - i * 5)) (by omega)
           have hlt : ¬ k < i * 5 := by omega
           simpa [List.getElem_append, hl1, hl2, hlt, show k < i * 5 + (n - (i + 1)) * 5 by omega, show k - i * 5 < (n - (i + 1)) * 5 by omega] using h4
         · have hj : k - (n - 1) * 5 < zeroShock.cells.toList.length := by rw [hz5]; omega
           have := putV_in zeroShock.cells.toList (putV C (i * 5) news) ((n - 1) * 5) (k - (n - 1) * 5) hj (by rw [putV_size]; omega)
           rw [show (n - 1) * 5 + (k - (n - 1) * 5) = k by omega] at this
           rw [this]
           have hge : ¬ k < i * 5 + (n - (i + 1)) * 5 := by omega
           have e5 : ∀ q, (hq : q < 5) → ([V.int .i64 0, .int .i64 0, .int .i64 0, .int .i64 0, .int .i64 0] : List V)[q]'(by simpa using hq) = .int .i64 0 := fun q hq => by
             rcases (show q = 0 ∨ q = 1 ∨ q = 2 ∨ q = 3 ∨ q = 4 by omega) with rfl | rfl | rfl | rfl | rfl <;> rfl
           have e6 : ∀ q, (hq : q < 5) → zeroShock.cells.toList[q]'(by rw [hz5]; exact hq) = .int .i64 0 := fun q hq => by
             rcases (show q = 0 ∨ q = 1 ∨ q = 2 ∨ q = 3 ∨ q = 4 by omega) with rfl | rfl | rfl | rfl | rfl <;> rfl
           rw [e6 _ (by omega), List.getElem_append_right (by rw [List.length_append, hl1, hl2]; omega), e5 _ (by rw [List.length_append, hl1, hl2]; omega)]
           exact .int _ _)
   refine ⟨_, m, _, _, rfl, ?_, J, ?_⟩
   · rfl
   · have := RV.osl (w := w.drew.setRow (m 0) (putV (putV C (i * 5) news) ((n - 1) * 5) zeroShock.cells.toList)) (m := m) (h := [some ((rows Shock.cs L).take (i * 5) ++ (rows Shock.cs L).drop ((i + 1) * 5) ++ [.int .i64 0, .int .i64 0, .int .i64 0, .int .i64 0, .int .i64 0])]) (av := avm av m [some ((rows Shock.cs L).take (i * 5) ++ (rows Shock.cs L).drop ((i + 1) * 5) ++ [.int .i64 0, .int .i64 0, .int .i64 0, .int .i64 0, .int .i64 0])]) 0 0 (n - 1) cap 5 _ ⟨rfl, ?_⟩ ?_ (by omega) ?_
     · exact this
     · have hlen2 : 5 ≤ ((rows Shock.cs L).take (i * 5) ++ (rows Shock.cs L).drop ((i + 1) * 5) ++ [V.int .i64 0,   .int .i64 0, .int .i64 0, .int .i64 0, .int .i64 0]).length := by simp only [List.length_append, List.length_cons, List.length_nil]; omega
       match h : ((rows Shock.cs L).take (i * 5) ++ (rows Shock.cs L).drop ((i + 1) * 5) ++ [V.int .i64 0, .int .i64 0, .int .i64 0, .int .i64 0, .int .i64 0]), hlen2 with
       | [], h2 => rfl
       | [x], h2 => simp at h2
       | _ :: _ :: _, _ => rfl
     · simp only [List.length_append, hl1, hl2, List.length_cons, List.length_nil]; omega
     · have : rowSize (w.drew.setRow (m 0) (putV (putV C (i * 5) news) ((n - 1) * 5) zeroShock.cells.toList)) (m 0) = C.size := by
         simp only [rowSize, setRow_heap w.drew (m 0) C _ T _ hbd, putV_size]
       rw [this]; omega
end Go.Proofs
end
section
set_option maxRecDepth 100000
set_option maxHeartbeats 1000000
namespace Go.Proofs
open Go.Lv
def z5 : List V := [.int .i64 0, .int .i64 0, .int .i64 0, .int .i64 0, .int .i64 0]
theorem treat8_ok (w : Watch) (i : Nat) (n v : Int) (hw : wB w = true) (hi : i < w.Shocks.length) : Ctr Tryd.prog 140 [.ptr 0 0, .int .i64 i, .agg [.int .i64 8, .int .i64 n, .int .i64 v]] [some (w.oc 1 2), some (rows Post.cs w.Posts), some (rows Shock.cs w.Shocks)] (.bool (archB w w.Shocks[i]))
   [some ((archW w i).oc 1 2), some (rows Post.cs w.Posts), some (rows Shock.cs (w.Shocks.take i ++ w.Shocks.drop (i + 1)) ++ z5)] := by
 have W := wB_ok hw
 have hx := W.shocks _ (List.getElem_mem hi)
 have hb := shockB_iff.1 hx
 have hr := rows_at Shock.csl hi
 have sl := W.slen
 have hwi : IntKind.i64.wrap ((i : Int) + 1) = (i : Int) + 1 := wrap_i64 (by omega) (by omega)
 have hwa : IntKind.i64.wrap (w.Archived + 1) = w.Archived + 1 := by have := W.arch; exact wrap_i64 (by omega) (by omega)
 have hwn : IntKind.i64.wrap (w.Now - w.Shocks[i].Tick) = w.Now - w.Shocks[i].Tick := by have := W.now; exact wrap_i64 (by omega) (by omega)
 have e : (w.Shocks.take i ++ w.Shocks.drop (i + 1)).length = w.Shocks.length - 1 := by simp; omega
 have hall : (rows Shock.cs (w.Shocks.take i ++ w.Shocks.drop (i + 1)) ++ z5).all isCell = true := by
   rw [List.all_append, rows_cell]; rfl
 have hg : grown [some (rows Shock.cs w.Shocks)] [some (rows Shock.cs (w.Shocks.take i ++ w.Shocks.drop (i + 1)) ++ z5)] := by
   refine ⟨⟨?_, by rw [isMb_cells hall, isMb_rows]⟩, trivial⟩
   rw [List.length_append, rows_len5, rows_len5, e]
   show _ = (w.Shocks.length - 1) * 5 + 5
   omega
 refine Ctr.intro Tryd.mixed Tryd.func140 rfl Tryd.okF140 ?_
 simp -implicitDefEqProofs -dsimp only [go_sem, Tryd.ntmps140, Tryd.results140]
 (repeat ((repeat1' (first | simp -implicitDefEqProofs -dsimp only [go_sem, Watch.oc, hr, Shock.cs, hwi] | simp -dsimp (disch := omega) only [wrap_i64])); repeat (with_reducible refine sideA ?_)))
 refine callS.lend [2] false ( delShock_ok w.Shocks i hi) (by decide) ⟨leO, leO, leO, trivial⟩ lendA ( hg) (.inl rfl) ?_
 (repeat ((repeat1' (first | simp -implicitDefEqProofs -dsimp only [go_sem, Watch.oc, hwa] | simp -dsimp (disch := omega) only [wrap_i64])); repeat (with_reducible refine sideA ?_)))
 clear hall hg
 repeat' (first | (refine guardT.splitT (fun _ => ?_) (fun _ => ?_) <;> (repeat ((repeat1' (first | simp -implicitDefEqProofs -dsimp only [go_sem, *] | simp -dsimp (disch := omega) only [wrap_i64])); repeat (with_reducible refine sideA ?_)))) | (refine guardT.splitF (fun _ => ?_) (fun _ => ?_) <;> (repeat ((repeat1' (first | simp -implicitDefEqProofs -dsimp only [go_sem, *] | simp -dsimp (disch := omega) only [wrap_i64])); repeat (with_reducible refine sideA ?_)))))
 all_goals
   refine WeakR.pick [0, 1, 2] (by decide) (fun j hj => by have hj' : j = 0 ∨ j = 1 ∨ j = 2 := (by omega); rcases hj' with rfl | rfl | rfl <;> rfl) (.inl (by first | rfl | (simp [ren, archB, *]; done))) ?_
   simp [pickH, pickB, ren, pickF, posOf, map_ren_rows, Watch.oc, archW, z5, *]
   try omega
theorem Watch.leT {h : Hp} {w : Watch} {i0 i1 n : Nat} {z : List V} (hn : n = w.Shocks.length) (h0 : h[i0]? = some (some (rows Post.cs w.Posts))) (h1 : h[i1]? = some (some (rows Shock.cs w.Shocks ++ z))) : LeV (ren (snapR h 3) 3 (.agg [.int .i64 w.Now, .osl i0 0 w.Posts.length 3, .osl i1 0 n 5, .int .i64 w.Next, .int .i64 w.Archived])) w.v := by
 subst hn
 refine .inl ?_
 have e : ∀ y : List V, (rows Shock.cs w.Shocks ++ y).take (w.Shocks.length * 5) = rows Shock.cs w.Shocks := fun y => List.take_left' (rows_len5 _)
 simp only [Watch.v, ren, List.map_cons, List.map_nil, snapR, h0, h1, map_ren_rows, List.drop_zero, take_rows, List.map_append, e]
def makeI (w : Watch) (k n v : Int) : Watch := if k = 1 then ⟨w.Now + (if 1000000 < v then 1000000 else v), w.Posts, w.Shocks, w.Next, w.Archived⟩ else makeW w k n v
theorem wstep1_ok (w : Watch) (n v : Int) (hw : wB w = true) (hv : 1 ≤ v) : Ctr Tryd.prog 88 [w.v, .agg [.int .i64 1, .int .i64 n, .int .i64 v]] [] (.tup [(makeI w 1 n v).o 0 1, .bool (doneW w 1 n v)]) [some (rows Post.cs w.Posts), some (rows Shock.cs w.Shocks)] := by
 have W := wB_ok hw
 have pl := W.plen
 have sl := W.slen
 have wn := W.now
 have hw1 : IntKind.i64.wrap (1000000 - w.Now) = 1000000 - w.Now := wrap_i64 (by omega) (by omega)
 have hw2 : IntKind.i64.wrap (w.Now + (if 1000000 < v then 1000000 else v)) = w.Now + (if 1000000 < v then 1000000 else v) := by split <;> exact wrap_i64 (by omega) (by omega)
 have hgood := iIsWatch_ok (makeI w 1 n v) (by simp [makeI]; omega) (by simp [makeI]; omega)
 have e2 : doneW w 1 n v = (decide (v ≤ 1000000 - w.Now) && wB (makeI w 1 n v)) := by
   by_cases h : v ≤ 1000000 - w.Now
   · have h2 : ¬ 1000000 < v := by omega
     simp [doneW, makeB, makeW, makeI, h, h2]
   · simp [doneW, makeB, h]
 have e1 : makeI w 1 n v = ⟨w.Now + (if 1000000 < v then 1000000 else v), w.Posts, w.Shocks, w.Next, w.Archived⟩ := by simp [makeI]
 rw [e2]
 rw [e1] at hgood ⊢
 simp only [Watch.v] at hgood
 refine Ctr.intro Tryd.mixed Tryd.func88 rfl Tryd.okF88 ?_
 simp -implicitDefEqProofs -dsimp only [go_sem, Tryd.ntmps88, Tryd.results88]
 simp -implicitDefEqProofs -dsimp only [go_sem, Watch.v]
 (first | refine callT.at (copiedWatch_ok w (by omega) (by omega)) ⟨(by first | exact leA | exact Watch.le rfl rfl | exact Watch.leT rfl rfl rfl), trivial⟩ ?_ | refine callS.at (copiedWatch_ok w (by omega) (by omega)) ⟨(by first | exact leA | exact Watch.le rfl rfl | exact Watch.leT rfl rfl rfl), trivial⟩ ?_)
 (repeat ((repeat1' (first | simp -implicitDefEqProofs -dsimp only [go_sem, Watch.o, hw1, hw2] | simp -dsimp (disch := omega) only [wrap_i64])); repeat (with_reducible refine sideA ?_)))
 refine guardT.splitT (fun g => ?_) (fun g => ?_) <;> (repeat ((repeat1' (first | simp -implicitDefEqProofs -dsimp only [go_sem, g] | simp -dsimp (disch := omega) only [wrap_i64])); repeat (with_reducible refine sideA ?_)))
 · skip
   (first | refine callT.at (hgood) ⟨(by first | exact leA | exact Watch.le rfl rfl | exact Watch.leT rfl rfl rfl), trivial⟩ ?_ | refine callS.at (hgood) ⟨(by first | exact leA | exact Watch.le rfl rfl | exact Watch.leT rfl rfl rfl), trivial⟩ ?_)
   (repeat ((repeat1' (first | simp -implicitDefEqProofs -dsimp only [go_sem, g] | simp -dsimp (disch := omega) only [wrap_i64])); repeat (with_reducible refine sideA ?_)))
   refine WeakR.pick [3, 4] (by decide) (fun j hj => by omega) (.inl ?_) ?_
   · first | rfl | (simp [ren, pickF, posOf, Watch.o, g]; done)
   · simp only [pickH, List.map_cons, List.map_nil, pickB, List.getElem?_cons_zero, List.getElem?_cons_succ, map_ren_rows]
 · skip
   refine WeakR.pick [3, 4] (by decide) (fun j hj => by omega) (.inl ?_) ?_
   · first | rfl | (simp [ren, pickF, posOf, Watch.o, g]; done)
   · simp only [pickH, List.map_cons, List.map_nil, pickB, List.getElem?_cons_zero, List.getElem?_cons_succ, map_ren_rows]
theorem wstep2_ok (w : Watch) (k n v : Int) (hk : k = 2 ∨ k = 3) (hw : wB w = true) (hs : stepWB w k n v = true) : Ctr Tryd.prog 88 [w.v, .agg [.int .i64 k, .int .i64 n, .int .i64 v]] [] (.tup [(makeI w k n v).o 0 1, .bool (doneW w k n v)]) [some (rows Post.cs (makeI w k n v).Posts), some (rows Shock.cs w.Shocks)] := by
 have W := wB_ok hw
 have pl := W.plen
 have sl := W.slen
 obtain ⟨i, hi, hix, hin⟩ : ∃ i, ∃ h : i < w.Posts.length, idxI (postIs n) w.Posts = (i : Int) ∧ postIs n w.Posts[i] = true := by
   have : decide (0 ≤ idxI (postIs n) w.Posts) = true := by
     rcases hk with rfl | rfl <;> simp [stepWB] at hs <;> simp [hs.1]
   exact idxI_get this
 have hst : w.Posts[i].Station = n := by simpa [postIs] using hin
 have hp : pAt w n = i := by simp [pAt, hix]
 have e1 : makeI w k n v = ⟨w.Now, w.Posts.set i ⟨n, decide (k = 3), w.Now⟩, w.Shocks, w.Next, w.Archived⟩ := by
   rcases hk with rfl | rfl <;> simp [makeI, makeW, hp]
 have e2 : doneW w k n v = (w.Posts[i].Up != decide (k = 3) && wB ⟨w.Now, w.Posts.set i ⟨n, decide (k = 3), w.Now⟩, w.Shocks, w.Next, w.Archived⟩) := by
   rcases hk with rfl | rfl <;> simp [doneW, makeB, makeW, hp, poAt_get hi]
 have hr := rows_at Post.csl hi
 have hlen : ∀ p, (w.Posts.set i p).length = w.Posts.length := fun p => by simp
 have s1 : ∀ b, splice (rows Post.cs w.Posts) (i * 3 + 1) [.bool b] = rows Post.cs (w.Posts.set i ⟨n, b, w.Posts[i].Since⟩) := fun b => splice_cell (cs := Post.cs) Post.csl hi (by omega) (by rw [Post.cs, hst.symm]; rfl)
 have s2 : ∀ b, splice (rows Post.cs (w.Posts.set i ⟨n, b, w.Posts[i].Since⟩)) (i * 3 + 2) [.int .i64 w.Now] = rows Post.cs (w.Posts.set i ⟨n, b, w.Now⟩) := fun b => by
   have h := splice_cell (cs := Post.cs) Post.csl (L := w.Posts.set i ⟨n, b, w.Posts[i].Since⟩) (j := i) (f := 2) (v := .int .i64 w.Now) (x := ⟨n, b, w.Now⟩) (by simpa using hi) (by omega) (by simp; rfl)
   rwa [List.set_set] at h
 have hrl : ∀ L : List Post, (rows Post.cs L).length = L.length * 3 := fun L => rows_len Post.csl L
 have hgood := iIsWatch_ok ⟨w.Now, w.Posts.set i ⟨n, decide (k = 3), w.Now⟩, w.Shocks, w.Next, w.Archived⟩ (by simp; omega) (by simp; omega)
 have hroom : i * 3 + 3 ≤ w.Posts.length * 3 := by omega
 rw [e1, e2]
 simp only [Watch.v, hlen] at hgood
 simp only [Watch.o, hlen]
 rcases hk with rfl | rfl
 · have hd : decide ((2 : Int) = 3) = false := rfl
   rw [hd] at hgood ⊢
   refine Ctr.intro Tryd.mixed Tryd.func88 rfl Tryd.okF88 ?_
   simp -implicitDefEqProofs -dsimp only [go_sem, Tryd.ntmps88, Tryd.results88]
   simp -implicitDefEqProofs -dsimp only [go_sem, Watch.v]
   (first | refine callT.at (copiedWatch_ok w (by omega) (by omega)) ⟨(by first | exact leA | exact Watch.le rfl rfl | exact Watch.leT rfl rfl rfl), trivial⟩ ?_ | refine callS.at (copiedWatch_ok w (by omega) (by omega)) ⟨(by first | exact leA | exact Watch.le rfl rfl | exact Watch.leT rfl rfl rfl), trivial⟩ ?_)
   (repeat ((repeat1' (first | simp -implicitDefEqProofs -dsimp only [go_sem, Watch.o] | simp -dsimp (disch := omega) only [wrap_i64])); repeat (with_reducible refine sideA ?_)))
   (first | refine callT.at (postAt_ok w n (by omega)) ⟨(by first | exact leA | exact Watch.le rfl rfl | exact Watch.leT rfl rfl rfl), (by first | exact leA | exact Watch.le rfl rfl | exact Watch.leT rfl rfl rfl), trivial⟩ ?_ | refine callS.at (postAt_ok w n (by omega)) ⟨(by first | exact leA | exact Watch.le rfl rfl | exact Watch.leT rfl rfl rfl), (by first | exact leA | exact Watch.le rfl rfl | exact Watch.leT rfl rfl rfl), trivial⟩ ?_)
   rw [hix]
   (repeat ((repeat1' (first | simp -implicitDefEqProofs -dsimp only [go_sem, hr, Post.cs] | simp -dsimp (disch := omega) only [wrap_i64])); repeat (with_reducible refine sideA ?_)))
   refine lateT.path [true, true, true, true, true, true, true, true, true, true, true, true, true, false, false, false, false] [false, false, false, false, false, true, false, false, false, true, true, false, false, false, false, false, false] 1 [3] (by kernel_rfl) ?_
   (repeat ((repeat1' (first | simp -implicitDefEqProofs -dsimp only [go_sem, hr, Post.cs, s1, s2, hrl, hlen, Int.toNat_natCast] | simp -dsimp (disch := omega) only [wrap_i64])); repeat (with_reducible refine sideA ?_)))
   refine guardT.splitT (fun g => ?_) (fun g => ?_) <;> (repeat ((repeat1' (first | simp -implicitDefEqProofs -dsimp only [go_sem, g, s1, s2] | simp -dsimp (disch := omega) only [wrap_i64])); repeat (with_reducible refine sideA ?_)))
   · skip
     (first | refine callT.at (hgood) ⟨(by first | exact leA | exact Watch.le rfl rfl | exact Watch.leT rfl rfl rfl), trivial⟩ ?_ | refine callS.at (hgood) ⟨(by first | exact leA | exact Watch.le rfl rfl | exact Watch.leT rfl rfl rfl), trivial⟩ ?_)
     (repeat ((repeat1' (first | simp -implicitDefEqProofs -dsimp only [go_sem, g] | simp -dsimp (disch := omega) only [wrap_i64])); repeat (with_reducible refine sideA ?_)))
     simp at g
     refine WeakR.pick [3, 4] (by decide) (fun j hj => by omega) (.inl ?_) ?_
     · first | rfl | (simp [ren, pickF, posOf, Watch.o, g]; done)
     · simp only [pickH, List.map_cons, List.map_nil, pickB, List.getElem?_cons_zero, List.getElem?_cons_succ, map_ren_rows]
   · skip
     simp at g
     refine WeakR.pick [3, 4] (by decide) (fun j hj => by omega) (.inl ?_) ?_
     · first | rfl | (simp [ren, pickF, posOf, Watch.o, g]; done)
     · simp only [pickH, List.map_cons, List.map_nil, pickB, List.getElem?_cons_zero, List.getElem?_cons_succ, map_ren_rows]
 · have hd : decide ((3 : Int) = 3) = true := rfl
   rw [hd] at hgood ⊢
   refine Ctr.intro Tryd.mixed Tryd.func88 rfl Tryd.okF88 ?_
   simp -implicitDefEqProofs -dsimp only [go_sem, Tryd.ntmps88, Tryd.results88]
   simp -implicitDefEqProofs -dsimp only [go_sem, Watch.v]
   (first | refine callT.at (copiedWatch_ok w (by omega) (by omega)) ⟨(by first | exact leA | exact Watch.le rfl rfl | exact Watch.leT rfl rfl rfl), trivial⟩ ?_ | refine callS.at (copiedWatch_ok w (by omega) (by omega)) ⟨(by first | exact leA | exact Watch.le rfl rfl | exact Watch.leT rfl rfl rfl), trivial⟩ ?_)
   (repeat ((repeat1' (first | simp -implicitDefEqProofs -dsimp only [go_sem, Watch.o] | simp -dsimp (disch := omega) only [wrap_i64])); repeat (with_reducible refine sideA ?_)))
   (first | refine callT.at (postAt_ok w n (by omega)) ⟨(by first | exact leA | exact Watch.le rfl rfl | exact Watch.leT rfl rfl rfl), (by first | exact leA | exact Watch.le rfl rfl | exact Watch.leT rfl rfl rfl), trivial⟩ ?_ | refine callS.at (postAt_ok w n (by omega)) ⟨(by first | exact leA | exact Watch.le rfl rfl | exact Watch.leT rfl rfl rfl), (by first | exact leA | exact Watch.le rfl rfl | exact Watch.leT rfl rfl rfl), trivial⟩ ?_)
   rw [hix]
   (repeat ((repeat1' (first | simp -implicitDefEqProofs -dsimp only [go_sem, hr, Post.cs] | simp -dsimp (disch := omega) only [wrap_i64])); repeat (with_reducible refine sideA ?_)))
   refine lateT.path [true, true, true, true, true, true, true, true, true, true, true, true, true, false, false, false, false] [false, false, false, false, false, true, false, false, false, true, true, false, false, false, false, false, false] 1 [3] (by kernel_rfl) ?_
   (repeat ((repeat1' (first | simp -implicitDefEqProofs -dsimp only [go_sem, hr, Post.cs, s1, s2, hrl, hlen, Int.toNat_natCast] | simp -dsimp (disch := omega) only [wrap_i64])); repeat (with_reducible refine sideA ?_)))
   refine guardT.splitT (fun g => ?_) (fun g => ?_) <;> (repeat ((repeat1' (first | simp -implicitDefEqProofs -dsimp only [go_sem, g, s1, s2] | simp -dsimp (disch := omega) only [wrap_i64])); repeat (with_reducible refine sideA ?_)))
   · skip
     (first | refine callT.at (hgood) ⟨(by first | exact leA | exact Watch.le rfl rfl | exact Watch.leT rfl rfl rfl), trivial⟩ ?_ | refine callS.at (hgood) ⟨(by first | exact leA | exact Watch.le rfl rfl | exact Watch.leT rfl rfl rfl), trivial⟩ ?_)
     (repeat ((repeat1' (first | simp -implicitDefEqProofs -dsimp only [go_sem, g] | simp -dsimp (disch := omega) only [wrap_i64])); repeat (with_reducible refine sideA ?_)))
     simp at g
     refine WeakR.pick [3, 4] (by decide) (fun j hj => by omega) (.inl ?_) ?_
     · first | rfl | (simp [ren, pickF, posOf, Watch.o, g]; done)
     · simp only [pickH, List.map_cons, List.map_nil, pickB, List.getElem?_cons_zero, List.getElem?_cons_succ, map_ren_rows]
   · skip
     simp at g
     refine WeakR.pick [3, 4] (by decide) (fun j hj => by omega) (.inl ?_) ?_
     · first | rfl | (simp [ren, pickF, posOf, Watch.o, g]; done)
     · simp only [pickH, List.map_cons, List.map_nil, pickB, List.getElem?_cons_zero, List.getElem?_cons_succ, map_ren_rows]
theorem upTo_upN (w : Watch) : (upTo w.Posts w.Posts.length).length = upN w w.Posts.length := by simp [upTo, upN]
theorem wstep4_ok (w : Watch) (n v : Int) (hw : wB w = true) : Ctr Tryd.prog 88 [w.v, .agg [.int .i64 4, .int .i64 n, .int .i64 v]] [] (.tup [(makeI w 4 n v).o 0 1, .bool (doneW w 4 n v)]) [some (rows Post.cs w.Posts), some (rows Shock.cs (makeI w 4 n v).Shocks)] := by
 have W := wB_ok hw
 have pl := W.plen
 have sl := W.slen
 have wn := W.next
 have hwn : IntKind.i64.wrap (w.Next + 1) = w.Next + 1 := wrap_i64 (by omega) (by omega)
 obtain ⟨x, hx⟩ : ∃ x : Shock, x = ⟨w.Next, 0, (upN w w.Posts.length : Int), 0, w.Now⟩ := ⟨_, rfl⟩
 have e1 : makeI w 4 n v = ⟨w.Now, w.Posts, w.Shocks ++ [x], w.Next + 1, w.Archived⟩ := by simp [makeI, makeW, hx]
 have e2 : doneW w 4 n v = wB ⟨w.Now, w.Posts, w.Shocks ++ [x], w.Next + 1, w.Archived⟩ := by simp [doneW, makeB, makeW, hx]
 have hsn : rows Shock.cs w.Shocks ++ [.int .i64 w.Next, .int .i64 0, .int .i64 (upN w w.Posts.length : Int), .int .i64 0, .int .i64 w.Now] = rows Shock.cs (w.Shocks ++ [x]) := by
   rw [hx]
   exact rows_snoc (cs := Shock.cs) w.Shocks ⟨w.Next, 0, (upN w w.Posts.length : Int), 0, w.Now⟩
 have hln : w.Shocks.length + 1 = (w.Shocks ++ [x]).length := by simp
 have hup := watchUp_ok w (by omega)
 rw [upTo_upN] at hup
 have hgood := iIsWatch_ok ⟨w.Now, w.Posts, w.Shocks ++ [x], w.Next + 1, w.Archived⟩ (by simp; omega) (by simp; omega)
 rw [e1, e2]
 refine Ctr.intro Tryd.mixed Tryd.func88 rfl Tryd.okF88 ?_
 simp -implicitDefEqProofs -dsimp only [go_sem, Tryd.ntmps88, Tryd.results88]
 simp -implicitDefEqProofs -dsimp only [go_sem, Watch.v]
 (first | refine callT.at (copiedWatch_ok w (by omega) (by omega)) ⟨(by first | exact leA | exact Watch.le rfl rfl | exact Watch.leT rfl rfl rfl), trivial⟩ ?_ | refine callS.at (copiedWatch_ok w (by omega) (by omega)) ⟨(by first | exact leA | exact Watch.le rfl rfl | exact Watch.leT rfl rfl rfl), trivial⟩ ?_)
 (repeat ((repeat1' (first | simp -implicitDefEqProofs -dsimp only [go_sem, Watch.o] | simp -dsimp (disch := omega) only [wrap_i64])); repeat (with_reducible refine sideA ?_)))
 (first | refine callT.at (hup) ⟨(by first | exact leA | exact Watch.le rfl rfl | exact Watch.leT rfl rfl rfl), trivial⟩ ?_ | refine callS.at (hup) ⟨(by first | exact leA | exact Watch.le rfl rfl | exact Watch.leT rfl rfl rfl), trivial⟩ ?_)
 (repeat ((repeat1' (first | simp -implicitDefEqProofs -dsimp only [go_sem, hwn, hsn, hln] | simp -dsimp (disch := omega) only [wrap_i64])); repeat (with_reducible refine sideA ?_)))
 (first | refine callT.at (hgood) ⟨(by first | exact leA | exact Watch.le rfl rfl | exact Watch.leT rfl rfl rfl), trivial⟩ ?_ | refine callS.at (hgood) ⟨(by first | exact leA | exact Watch.le rfl rfl | exact Watch.leT rfl rfl rfl), trivial⟩ ?_)
 (repeat ((repeat1' (first | simp -implicitDefEqProofs -dsimp only [go_sem, hsn] | simp -dsimp (disch := omega) only [wrap_i64])); repeat (with_reducible refine sideA ?_)))
 refine WeakR.pick [3, 4] (by decide) (fun j hj => by omega) (.inl ?_) ?_
 · first | rfl | (simp [ren, pickF, posOf, Watch.o]; done)
 · simp only [pickH, List.map_cons, List.map_nil, pickB, List.getElem?_cons_zero, List.getElem?_cons_succ, map_ren_rows]
theorem wstep5_ok (w : Watch) (k n v : Int) (hk : k = 5 ∨ k = 6 ∨ k = 7) (hw : wB w = true) (hs : stepWB w k n v = true) (hv : -100 ≤ v ∧ v ≤ 100) : Ctr Tryd.prog 88 [w.v, .agg [.int .i64 k, .int .i64 n, .int .i64 v]] [] (.tup [(makeI w k n v).o 0 1, .bool (doneW w k n v)]) [some (rows Post.cs w.Posts), some (rows Shock.cs (makeI w k n v).Shocks)] := by
 have W := wB_ok hw
 have pl := W.plen
 have sl := W.slen
 obtain ⟨i, hi, hix, hin⟩ : ∃ i, ∃ h : i < w.Shocks.length, idxI (shockIs n) w.Shocks = (i : Int) ∧ shockIs n w.Shocks[i] = true := by
   have : decide (0 ≤ idxI (shockIs n) w.Shocks) = true := by
     rcases hk with rfl | rfl | rfl <;> simp [stepWB] at hs <;> simp [hs]
   exact idxI_get this
 have hp : sAt w n = i := by simp [sAt, hix]
 have hsh := shAt_get hi
 have e1 : makeI w k n v = ⟨w.Now, w.Posts, w.Shocks.set i (chgX w.Shocks[i] k v), w.Next, w.Archived⟩ := by
   rcases hk with rfl | rfl | rfl <;> simp [makeI, makeW, hp, hsh]
 have e2 : doneW w k n v = (chgB w.Shocks[i] k && wB ⟨w.Now, w.Posts, w.Shocks.set i (chgX w.Shocks[i] k v), w.Next, w.Archived⟩) := by
   rcases hk with rfl | rfl | rfl <;> simp [doneW, makeB, makeW, hp, hsh]
 have htr := treat5_ok w i k n v hk hw hi hv
 have hlen : ∀ p, (w.Shocks.set i p).length = w.Shocks.length := fun p => by simp
 have hgood := iIsWatch_ok ⟨w.Now, w.Posts, w.Shocks.set i (chgX w.Shocks[i] k v), w.Next, w.Archived⟩ (by simp; omega) (by simp; omega)
 generalize chgX w.Shocks[i] k v = y at e1 e2 htr hgood
 have hg : grown [some (w.oc 1 2), some (rows Post.cs w.Posts), some (rows Shock.cs w.Shocks)] [some (w.oc 1 2), some (rows Post.cs w.Posts), some (rows Shock.cs (w.Shocks.set i y))] := by
   refine ⟨⟨rfl, rfl⟩, ⟨rfl, rfl⟩, ⟨by rw [rows_len5, rows_len5, hlen], by rw [isMb_rows, isMb_rows]⟩, trivial⟩
 rw [e1, e2]
 clear e1 e2
 simp only [Watch.v, hlen] at hgood
 simp only [Watch.o, hlen]
 generalize chgB w.Shocks[i] k = b at *
 rcases hk with rfl | rfl | rfl
 · skip
   refine Ctr.intro Tryd.mixed Tryd.func88 rfl Tryd.okF88 ?_
   simp -implicitDefEqProofs -dsimp only [go_sem, Tryd.ntmps88, Tryd.results88]
   simp -implicitDefEqProofs -dsimp only [go_sem, Watch.v]
   (first | refine callT.at (copiedWatch_ok w (by omega) (by omega)) ⟨(by first | exact leA | exact Watch.le rfl rfl | exact Watch.leT rfl rfl rfl), trivial⟩ ?_ | refine callS.at (copiedWatch_ok w (by omega) (by omega)) ⟨(by first | exact leA | exact Watch.le rfl rfl | exact Watch.leT rfl rfl rfl), trivial⟩ ?_)
   (repeat ((repeat1' (first | simp -implicitDefEqProofs -dsimp only [go_sem, Watch.o] | simp -dsimp (disch := omega) only [wrap_i64])); repeat (with_reducible refine sideA ?_)))
   (first | refine callT.at (shockAt_ok w n (by omega)) ⟨(by first | exact leA | exact Watch.le rfl rfl | exact Watch.leT rfl rfl rfl), (by first | exact leA | exact Watch.le rfl rfl | exact Watch.leT rfl rfl rfl), trivial⟩ ?_ | refine callS.at (shockAt_ok w n (by omega)) ⟨(by first | exact leA | exact Watch.le rfl rfl | exact Watch.leT rfl rfl rfl), (by first | exact leA | exact Watch.le rfl rfl | exact Watch.leT rfl rfl rfl), trivial⟩ ?_)
   rw [hix]
   (repeat ((repeat1' (first | simp -implicitDefEqProofs -dsimp only [go_sem] | simp -dsimp (disch := omega) only [wrap_i64])); repeat (with_reducible refine sideA ?_)))
   refine callS.lend [5, 3, 4] false htr (by decide) ⟨.inl rfl, .inl rfl, .inl rfl, trivial⟩ (by simp [pickH, pickB, ren, pickF, posOf, map_ren_rows, Watch.oc]) hg (.inl rfl) ?_
   (repeat ((repeat1' (first | simp -implicitDefEqProofs -dsimp only [go_sem, Watch.oc] | simp -dsimp (disch := omega) only [wrap_i64])); repeat (with_reducible refine sideA ?_)))
   refine guardT.splitT (fun g => ?_) (fun g => ?_) <;> (repeat ((repeat1' (first | simp -implicitDefEqProofs -dsimp only [go_sem, g] | simp -dsimp (disch := omega) only [wrap_i64])); repeat (with_reducible refine sideA ?_)))
   · skip
     (first | refine callT.at (hgood) ⟨(by first | exact leA | exact Watch.le rfl rfl | exact Watch.leT rfl rfl rfl), trivial⟩ ?_ | refine callS.at (hgood) ⟨(by first | exact leA | exact Watch.le rfl rfl | exact Watch.leT rfl rfl rfl), trivial⟩ ?_)
     (repeat ((repeat1' (first | simp -implicitDefEqProofs -dsimp only [go_sem, g] | simp -dsimp (disch := omega) only [wrap_i64])); repeat (with_reducible refine sideA ?_)))
     refine WeakR.pick [3, 4] (by decide) (fun j hj => by omega) (.inl ?_) ?_
     · first | rfl | (simp [ren, pickF, posOf, Watch.o, g]; done)
     · simp only [pickH, List.map_cons, List.map_nil, pickB, List.getElem?_cons_zero, List.getElem?_cons_succ, map_ren_rows]
   · skip
     refine WeakR.pick [3, 4] (by decide) (fun j hj => by omega) (.inl ?_) ?_
     · first | rfl | (simp [ren, pickF, posOf, Watch.o, g]; done)
     · simp only [pickH, List.map_cons, List.map_nil, pickB, List.getElem?_cons_zero, List.getElem?_cons_succ, map_ren_rows]
 · skip
   refine Ctr.intro Tryd.mixed Tryd.func88 rfl Tryd.okF88 ?_
   simp -implicitDefEqProofs -dsimp only [go_sem, Tryd.ntmps88, Tryd.results88]
   simp -implicitDefEqProofs -dsimp only [go_sem, Watch.v]
   (first | refine callT.at (copiedWatch_ok w (by omega) (by omega)) ⟨(by first | exact leA | exact Watch.le rfl rfl | exact Watch.leT rfl rfl rfl), trivial⟩ ?_ | refine callS.at (copiedWatch_ok w (by omega) (by omega)) ⟨(by first | exact leA | exact Watch.le rfl rfl | exact Watch.leT rfl rfl rfl), trivial⟩ ?_)
   (repeat ((repeat1' (first | simp -implicitDefEqProofs -dsimp only [go_sem, Watch.o] | simp -dsimp (disch := omega) only [wrap_i64])); repeat (with_reducible refine sideA ?_)))
   (first | refine callT.at (shockAt_ok w n (by omega)) ⟨(by first | exact leA | exact Watch.le rfl rfl | exact Watch.leT rfl rfl rfl), (by first | exact leA | exact Watch.le rfl rfl | exact Watch.leT rfl rfl rfl), trivial⟩ ?_ | refine callS.at (shockAt_ok w n (by omega)) ⟨(by first | exact leA | exact Watch.le rfl rfl | exact Watch.leT rfl rfl rfl), (by first | exact leA | exact Watch.le rfl rfl | exact Watch.leT rfl rfl rfl), trivial⟩ ?_)
   rw [hix]
   (repeat ((repeat1' (first | simp -implicitDefEqProofs -dsimp only [go_sem] | simp -dsimp (disch := omega) only [wrap_i64])); repeat (with_reducible refine sideA ?_)))
   refine callS.lend [5, 3, 4] false htr (by decide) ⟨.inl rfl, .inl rfl, .inl rfl, trivial⟩ (by simp [pickH, pickB, ren, pickF, posOf, map_ren_rows, Watch.oc]) hg (.inl rfl) ?_
   (repeat ((repeat1' (first | simp -implicitDefEqProofs -dsimp only [go_sem, Watch.oc] | simp -dsimp (disch := omega) only [wrap_i64])); repeat (with_reducible refine sideA ?_)))
   refine guardT.splitT (fun g => ?_) (fun g => ?_) <;> (repeat ((repeat1' (first | simp -implicitDefEqProofs -dsimp only [go_sem, g] | simp -dsimp (disch := omega) only [wrap_i64])); repeat (with_reducible refine sideA ?_)))
   · skip
     (first | refine callT.at (hgood) ⟨(by first | exact leA | exact Watch.le rfl rfl | exact Watch.leT rfl rfl rfl), trivial⟩ ?_ | refine callS.at (hgood) ⟨(by first | exact leA | exact Watch.le rfl rfl | exact Watch.leT rfl rfl rfl), trivial⟩ ?_)
     (repeat ((repeat1' (first | simp -implicitDefEqProofs -dsimp only [go_sem, g] | simp -dsimp (disch := omega) only [wrap_i64])); repeat (with_reducible refine sideA ?_)))
     refine WeakR.pick [3, 4] (by decide) (fun j hj => by omega) (.inl ?_) ?_
     · first | rfl | (simp [ren, pickF, posOf, Watch.o, g]; done)
     · simp only [pickH, List.map_cons, List.map_nil, pickB, List.getElem?_cons_zero, List.getElem?_cons_succ, map_ren_rows]
   · skip
     refine WeakR.pick [3, 4] (by decide) (fun j hj => by omega) (.inl ?_) ?_
     · first | rfl | (simp [ren, pickF, posOf, Watch.o, g]; done)
     · simp only [pickH, List.map_cons, List.map_nil, pickB, List.getElem?_cons_zero, List.getElem?_cons_succ, map_ren_rows]
 · skip
   refine Ctr.intro Tryd.mixed Tryd.func88 rfl Tryd.okF88 ?_
   simp -implicitDefEqProofs -dsimp only [go_sem, Tryd.ntmps88, Tryd.results88]
   simp -implicitDefEqProofs -dsimp only [go_sem, Watch.v]
   (first | refine callT.at (copiedWatch_ok w (by omega) (by omega)) ⟨(by first | exact leA | exact Watch.le rfl rfl | exact Watch.leT rfl rfl rfl), trivial⟩ ?_ | refine callS.at (copiedWatch_ok w (by omega) (by omega)) ⟨(by first | exact leA | exact Watch.le rfl rfl | exact Watch.leT rfl rfl rfl), trivial⟩ ?_)
   (repeat ((repeat1' (first | simp -implicitDefEqProofs -dsimp only [go_sem, Watch.o] | simp -dsimp (disch := omega) only [wrap_i64])); repeat (with_reducible refine sideA ?_)))
   (first | refine callT.at (shockAt_ok w n (by omega)) ⟨(by first | exact leA | exact Watch.le rfl rfl | exact Watch.leT rfl rfl rfl), (by first | exact leA | exact Watch.le rfl rfl | exact Watch.leT rfl rfl rfl), trivial⟩ ?_ | refine callS.at (shockAt_ok w n (by omega)) ⟨(by first | exact leA | exact Watch.le rfl rfl | exact Watch.leT rfl rfl rfl), (by first | exact leA | exact Watch.le rfl rfl | exact Watch.leT rfl rfl rfl), trivial⟩ ?_)
   rw [hix]
   (repeat ((repeat1' (first | simp -implicitDefEqProofs -dsimp only [go_sem] | simp -dsimp (disch := omega) only [wrap_i64])); repeat (with_reducible refine sideA ?_)))
   refine callS.lend [5, 3, 4] false htr (by decide) ⟨.inl rfl, .inl rfl, .inl rfl, trivial⟩ (by simp [pickH, pickB, ren, pickF, posOf, map_ren_rows, Watch.oc]) hg (.inl rfl) ?_
   (repeat ((repeat1' (first | simp -implicitDefEqProofs -dsimp only [go_sem, Watch.oc] | simp -dsimp (disch := omega) only [wrap_i64])); repeat (with_reducible refine sideA ?_)))
   refine guardT.splitT (fun g => ?_) (fun g => ?_) <;> (repeat ((repeat1' (first | simp -implicitDefEqProofs -dsimp only [go_sem, g] | simp -dsimp (disch := omega) only [wrap_i64])); repeat (with_reducible refine sideA ?_)))
   · skip
     (first | refine callT.at (hgood) ⟨(by first | exact leA | exact Watch.le rfl rfl | exact Watch.leT rfl rfl rfl), trivial⟩ ?_ | refine callS.at (hgood) ⟨(by first | exact leA | exact Watch.le rfl rfl | exact Watch.leT rfl rfl rfl), trivial⟩ ?_)
     (repeat ((repeat1' (first | simp -implicitDefEqProofs -dsimp only [go_sem, g] | simp -dsimp (disch := omega) only [wrap_i64])); repeat (with_reducible refine sideA ?_)))
     refine WeakR.pick [3, 4] (by decide) (fun j hj => by omega) (.inl ?_) ?_
     · first | rfl | (simp [ren, pickF, posOf, Watch.o, g]; done)
     · simp only [pickH, List.map_cons, List.map_nil, pickB, List.getElem?_cons_zero, List.getElem?_cons_succ, map_ren_rows]
   · skip
     refine WeakR.pick [3, 4] (by decide) (fun j hj => by omega) (.inl ?_) ?_
     · first | rfl | (simp [ren, pickF, posOf, Watch.o, g]; done)
     · simp only [pickH, List.map_cons, List.map_nil, pickB, List.getElem?_cons_zero, List.getElem?_cons_succ, map_ren_rows]
theorem wstep8_ok (w : Watch) (n v : Int) (hw : wB w = true) (hs : stepWB w 8 n v = true) : Ctr Tryd.prog 88 [w.v, .agg [.int .i64 8, .int .i64 n, .int .i64 v]] [] (.tup [(makeI w 8 n v).o 0 1, .bool (doneW w 8 n v)]) [some (rows Post.cs w.Posts), some (rows Shock.cs (makeI w 8 n v).Shocks)] := by
 have W := wB_ok hw
 have pl := W.plen
 have sl := W.slen
 obtain ⟨i, hi, hix, hin⟩ : ∃ i, ∃ h : i < w.Shocks.length, idxI (shockIs n) w.Shocks = (i : Int) ∧ shockIs n w.Shocks[i] = true := by
   have : decide (0 ≤ idxI (shockIs n) w.Shocks) = true := by
     simp [stepWB] at hs
     simp [hs.1]
   exact idxI_get this
 have hp : sAt w n = i := by simp [sAt, hix]
 have hsh := shAt_get hi
 have e1 : makeI w 8 n v = archW w i := by simp [makeI, makeW, archW, hp]
 have e2 : doneW w 8 n v = (archB w w.Shocks[i] && wB (archW w i)) := by simp [doneW, makeB, makeW, archW, hp, hsh]
 have hgood := iIsWatch_ok (archW w i) (by simp [archW]; omega) (by simp [archW]; omega)
 have htr := treat8_ok w i n v hw hi
 have e3 : (archW w i).Shocks = w.Shocks.take i ++ w.Shocks.drop (i + 1) := rfl
 have hall : (rows Shock.cs (w.Shocks.take i ++ w.Shocks.drop (i + 1)) ++ z5).all isCell = true := by
   rw [List.all_append, rows_cell]; rfl
 have e : (w.Shocks.take i ++ w.Shocks.drop (i + 1)).length = w.Shocks.length - 1 := by simp; omega
 have hg : grown [some (w.oc 1 2), some (rows Post.cs w.Posts), some (rows Shock.cs w.Shocks)] [some ((archW w i).oc 1 2), some (rows Post.cs w.Posts), some (rows Shock.cs (w.Shocks.take i ++ w.Shocks.drop (i + 1)) ++ z5)] := by
   refine ⟨⟨rfl, rfl⟩, ⟨rfl, rfl⟩, ⟨?_, by rw [isMb_cells hall, isMb_rows]⟩, trivial⟩
   rw [List.length_append, rows_len5, rows_len5, e]
   show _ = (w.Shocks.length - 1) * 5 + 5
   omega
 rw [e1, e2, e3]
 refine Ctr.intro Tryd.mixed Tryd.func88 rfl Tryd.okF88 ?_
 simp -implicitDefEqProofs -dsimp only [go_sem, Tryd.ntmps88, Tryd.results88]
 simp -implicitDefEqProofs -dsimp only [go_sem, Watch.v]
 (first | refine callT.at (copiedWatch_ok w (by omega) (by omega)) ⟨(by first | exact leA | exact Watch.le rfl rfl | exact Watch.leT rfl rfl rfl), trivial⟩ ?_ | refine callS.at (copiedWatch_ok w (by omega) (by omega)) ⟨(by first | exact leA | exact Watch.le rfl rfl | exact Watch.leT rfl rfl rfl), trivial⟩ ?_)
 (repeat ((repeat1' (first | simp -implicitDefEqProofs -dsimp only [go_sem, Watch.o] | simp -dsimp (disch := omega) only [wrap_i64])); repeat (with_reducible refine sideA ?_)))
 (first | refine callT.at (shockAt_ok w n (by omega)) ⟨(by first | exact leA | exact Watch.le rfl rfl | exact Watch.leT rfl rfl rfl), (by first | exact leA | exact Watch.le rfl rfl | exact Watch.leT rfl rfl rfl), trivial⟩ ?_ | refine callS.at (shockAt_ok w n (by omega)) ⟨(by first | exact leA | exact Watch.le rfl rfl | exact Watch.leT rfl rfl rfl), (by first | exact leA | exact Watch.le rfl rfl | exact Watch.leT rfl rfl rfl), trivial⟩ ?_)
 rw [hix]
 (repeat ((repeat1' (first | simp -implicitDefEqProofs -dsimp only [go_sem] | simp -dsimp (disch := omega) only [wrap_i64])); repeat (with_reducible refine sideA ?_)))
 refine callS.lend [5, 3, 4] false htr (by decide) ⟨.inl rfl, .inl rfl, .inl rfl, trivial⟩ (by simp [pickH, pickB, ren, pickF, posOf, map_ren_rows, Watch.oc]) hg (.inl rfl) ?_
 (repeat ((repeat1' (first | simp -implicitDefEqProofs -dsimp only [go_sem, Watch.oc, z5] | simp -dsimp (disch := omega) only [wrap_i64])); repeat (with_reducible refine sideA ?_)))
 clear hall hg
 have htk : ∀ y : List V, (rows Shock.cs (w.Shocks.take i ++ w.Shocks.drop (i + 1)) ++ y).take ((archW w i).Shocks.length * 5) = rows Shock.cs (w.Shocks.take i ++ w.Shocks.drop (i + 1)) := fun y => List.take_left' (by rw [rows_len5]; rfl)
 refine guardT.splitT (fun g => ?_) (fun g => ?_) <;> (repeat ((repeat1' (first | simp -implicitDefEqProofs -dsimp only [go_sem, g] | simp -dsimp (disch := omega) only [wrap_i64])); repeat (with_reducible refine sideA ?_)))
 · skip
   (first | refine callT.at (hgood) ⟨(by first | exact leA | exact Watch.le rfl rfl | exact Watch.leT rfl rfl rfl), trivial⟩ ?_ | refine callS.at (hgood) ⟨(by first | exact leA | exact Watch.le rfl rfl | exact Watch.leT rfl rfl rfl), trivial⟩ ?_)
   (repeat ((repeat1' (first | simp -implicitDefEqProofs -dsimp only [go_sem, g] | simp -dsimp (disch := omega) only [wrap_i64])); repeat (with_reducible refine sideA ?_)))
   refine WeakR.trim 4 ((archW w i).Shocks.length * 5) rfl (by omega) (by simp only [List.length_append, rows_len5, e3, List.length_cons, List.length_nil]; omega) (isMb_cells (by simp [rows_cell, isCell])) (by rw [htk]; exact isMb_rows _) ?_ ?_ ?_
   · simp [fits]
   · simp [fits, rows_fits, List.all_append]
   · skip
     simp only [htk, List.set_cons_zero, List.set_cons_succ]
     refine WeakR.pick [3, 4] (by decide) (fun j hj => by omega) (.inl ?_) ?_
     · first | rfl | (simp [ren, pickF, posOf, Watch.o, g]; done)
     · simp only [pickH, List.map_cons, List.map_nil, pickB, List.getElem?_cons_zero, List.getElem?_cons_succ, map_ren_rows]
 · skip
   refine WeakR.trim 4 ((archW w i).Shocks.length * 5) rfl (by omega) (by simp only [List.length_append, rows_len5, e3, List.length_cons, List.length_nil]; omega) (isMb_cells (by simp [rows_cell, isCell])) (by rw [htk]; exact isMb_rows _) ?_ ?_ ?_
   · simp [fits]
   · simp [fits, rows_fits, List.all_append]
   · skip
     simp only [htk, List.set_cons_zero, List.set_cons_succ]
     refine WeakR.pick [3, 4] (by decide) (fun j hj => by omega) (.inl ?_) ?_
     · first | rfl | (simp [ren, pickF, posOf, Watch.o, g]; done)
     · simp only [pickH, List.map_cons, List.map_nil, pickB, List.getElem?_cons_zero, List.getElem?_cons_succ, map_ren_rows]
theorem wstep_ok (w : Watch) (k n v : Int) (hw : wB w = true) (hs : stepWB w k n v = true) : Ctr Tryd.prog 88 [w.v, .agg [.int .i64 k, .int .i64 n, .int .i64 v]] [] (.tup [(makeI w k n v).o 0 1, .bool (doneW w k n v)]) [some (rows Post.cs (makeI w k n v).Posts), some (rows Shock.cs (makeI w k n v).Shocks)] := by
 rcases stepWB_cases hs with ⟨rfl, h1⟩ | hk | rfl | rfl | ⟨hk, h1⟩
 · have e : (makeI w 1 n v).Posts = w.Posts ∧ (makeI w 1 n v).Shocks = w.Shocks := by simp [makeI]
   rw [e.1, e.2]
   exact wstep1_ok w n v hw h1
 · have e : (makeI w k n v).Shocks = w.Shocks := by rcases hk with rfl | rfl <;> simp [makeI, makeW]
   rw [e]
   exact wstep2_ok w k n v hk hw hs
 · have e : (makeI w 4 n v).Posts = w.Posts := by simp [makeI, makeW]
   rw [e]
   exact wstep4_ok w n v hw
 · have e : (makeI w 8 n v).Posts = w.Posts := by simp [makeI, makeW]
   rw [e]
   exact wstep8_ok w n v hw hs
 · have e : (makeI w k n v).Posts = w.Posts := by rcases hk with rfl | rfl | rfl <;> simp [makeI, makeW]
   rw [e]
   exact wstep5_ok w k n v hk hw hs h1
theorem makeI_done {w : Watch} {k n v : Int} (hw : wB w = true) (h : doneW w k n v = true) : makeI w k n v = makeW w k n v := by
 unfold makeI
 split
 · rename_i h1
   subst h1
   have := (wB_ok hw).now
   have h2 : v ≤ 1000000 - w.Now := by
     simp only [doneW, makeB, if_true, Bool.and_eq_true, decide_eq_true_eq] at h
     exact h.1
   have h3 : ¬ 1000000 < v := by omega
   simp [makeW, h3]
 · rfl
theorem iStepWatch_ok (w : Watch) (k n v : Int) (hp : w.Posts.length ≤ 16777216) (hs : w.Shocks.length ≤ 16777216) : Ctr Tryd.prog 31 [w.v, .agg [.int .i64 k, .int .i64 n, .int .i64 v]] [] (stwR (stepW w k n v)) (stwH (stepW w k n v)) := by
 refine Ctr.intro Tryd.mixed Tryd.func31 rfl Tryd.okF31 ?_
 simp -implicitDefEqProofs -dsimp only [go_sem, Tryd.ntmps31, Tryd.results31]
 simp -implicitDefEqProofs -dsimp only [go_sem, Watch.v]
 (first | refine callT.at (iIsWatch_ok w (by omega) (by omega)) ⟨(by first | exact leA | exact Watch.le rfl rfl | exact Watch.leT rfl rfl rfl), trivial⟩ ?_ | refine callS.at (iIsWatch_ok w (by omega) (by omega)) ⟨(by first | exact leA | exact Watch.le rfl rfl | exact Watch.leT rfl rfl rfl), trivial⟩ ?_)
 have no : stepW w k n v = none → ∀ h : Hp, WeakR 0 (.tup [.agg [.int .i64 0, .nilsl, .nilsl, .int .i64 0, .int .i64 0], .bool false]) h (stwR (stepW w k n v)) (stwH (stepW w k n v)) := by
   intro e h
   rw [e]
   exact WeakR.drop' rfl (by rfl)
 cases hw : wB w with
 | false =>
   (repeat ((repeat1' (first | simp -implicitDefEqProofs -dsimp only [go_sem] | simp -dsimp (disch := omega) only [wrap_i64])); repeat (with_reducible refine sideA ?_)))
   exact no (by simp [stepW, hw]) _
 | true =>
   (repeat ((repeat1' (first | simp -implicitDefEqProofs -dsimp only [go_sem] | simp -dsimp (disch := omega) only [wrap_i64])); repeat (with_reducible refine sideA ?_)))
   (first | refine callT.at (isStep_ok w k n v hp hs) ⟨(by first | exact leA | exact Watch.le rfl rfl | exact Watch.leT rfl rfl rfl), (by first | exact leA | exact Watch.le rfl rfl | exact Watch.leT rfl rfl rfl), trivial⟩ ?_ | refine callS.at (isStep_ok w k n v hp hs) ⟨(by first | exact leA | exact Watch.le rfl rfl | exact Watch.leT rfl rfl rfl), (by first | exact leA | exact Watch.le rfl rfl | exact Watch.leT rfl rfl rfl), trivial⟩ ?_)
   cases hst : stepWB w k n v with
   | false =>
     (repeat ((repeat1' (first | simp -implicitDefEqProofs -dsimp only [go_sem] | simp -dsimp (disch := omega) only [wrap_i64])); repeat (with_reducible refine sideA ?_)))
     exact no (by simp [stepW, hst]) _
   | true =>
     (repeat ((repeat1' (first | simp -implicitDefEqProofs -dsimp only [go_sem] | simp -dsimp (disch := omega) only [wrap_i64])); repeat (with_reducible refine sideA ?_)))
     have hm := wstep_ok w k n v hw hst
     cases hd : doneW w k n v with
     | false =>
       rw [hd] at hm
       (first | refine callT.at (hm) ⟨(by first | exact leA | exact Watch.le rfl rfl | exact Watch.leT rfl rfl rfl), (by first | exact leA | exact Watch.le rfl rfl | exact Watch.leT rfl rfl rfl), trivial⟩ ?_ | refine callS.at (hm) ⟨(by first | exact leA | exact Watch.le rfl rfl | exact Watch.leT rfl rfl rfl), (by first | exact leA | exact Watch.le rfl rfl | exact Watch.leT rfl rfl rfl), trivial⟩ ?_)
       (repeat ((repeat1' (first | simp -implicitDefEqProofs -dsimp only [go_sem, Watch.o] | simp -dsimp (disch := omega) only [wrap_i64])); repeat (with_reducible refine sideA ?_)))
       exact no (by simp [stepW, hd]) _
     | true =>
       rw [hd] at hm
       (first | refine callT.at (hm) ⟨(by first | exact leA | exact Watch.le rfl rfl | exact Watch.leT rfl rfl rfl), (by first | exact leA | exact Watch.le rfl rfl | exact Watch.leT rfl rfl rfl), trivial⟩ ?_ | refine callS.at (hm) ⟨(by first | exact leA | exact Watch.le rfl rfl | exact Watch.leT rfl rfl rfl), (by first | exact leA | exact Watch.le rfl rfl | exact Watch.leT rfl rfl rfl), trivial⟩ ?_)
       (repeat ((repeat1' (first | simp -implicitDefEqProofs -dsimp only [go_sem, Watch.o] | simp -dsimp (disch := omega) only [wrap_i64])); repeat (with_reducible refine sideA ?_)))
       have e : stepW w k n v = some (makeW w k n v) := by simp [stepW, hw, hst, hd]
       have e2 := makeI_done hw hd
       rw [e, ← e2, stwR, stwH]
       refine WeakR.pick [3, 4] (by decide) (fun j hj => by omega) (.inl ?_) ?_
       · first | rfl | (simp [ren, pickF, posOf, Watch.o]; done)
       · simp only [pickH, List.map_cons, List.map_nil, pickB, List.getElem?_cons_zero, List.getElem?_cons_succ, map_ren_rows]
end Go.Proofs
end
section
set_option maxRecDepth 100000
set_option maxHeartbeats 1000000
namespace Go.Proofs
open Go.Lv
def newPosts (K : List Int) : List Post := K.map fun n => ⟨n, true, 0⟩
def newW (K : List Int) : Watch := ⟨0, newPosts K, [], 1, 0⟩
theorem newPosts_succ {K : List Int} {i : Nat} (hi : i < K.length) : newPosts (K.take (i + 1)) = newPosts (K.take i) ++ [⟨K[i], true, 0⟩] := by
 rw [newPosts, List.take_succ_eq_append_getElem hi, List.map_append]; rfl
theorem newPosts_len {K : List Int} {i : Nat} (hi : i ≤ K.length) : (newPosts (K.take i)).length = i := by simp [newPosts]; omega
def watchN : V := .tup [.agg [.int .i64 0, .nilsl, .nilsl, .int .i64 0, .int .i64 0], .bool false]
theorem sNewWatch_pre (K : List Int) (hk : K.length ≤ 16777216) (r : V) (hout : Hp)
   (fin : wB (newW K) = true → WeakR 0 (.tup [.agg [.int .i64 0, .osl 1 0 K.length 3, .osl 2 0 0 5, .int .i64 1, .int .i64 0], .bool true]) [some [.int .i64 0, .osl 1 0 K.length 3, .osl 2 0 0 5, .int .i64 1, .int .i64 0], some (rows Post.cs (newPosts K)), some [], some [.int .i64 0, .osl 1 0 K.length 3, .osl 2 0 0 5, .int .i64 1, .int .i64 0]] r hout)
   (no : wB (newW K) = false → r = watchN ∧ hout = []) : Ctr Tryd.prog 141 [IntS.sl K] [] r hout := by
 refine Ctr.intro Tryd.mixed Tryd.func141 rfl Tryd.okF141 ?_
 simp -implicitDefEqProofs -dsimp only [go_sem, Tryd.ntmps141, Tryd.results141]
 refine LoopT.intro (fun i : Nat => i ≤ K.length) (fun i => ⟨[IntS.sl K, .undef, .ptr 0 0, .undef, .ptr 3 0, .int .i64 i, .undef, .undef, .undef, .undef, .undef, .undef, .undef, .undef, .undef, .undef, .undef, .undef, .undef, .undef, .undef, .undef, .undef, .undef, .undef, .undef, .undef, .undef, .undef, .undef], [some [.int .i64 0, .nilsl, .nilsl, .int .i64 0, .int .i64 0], some (rows Post.cs (newPosts (K.take i))), some [], some [.int .i64 0, .osl 1 0 i 3, .osl 2 0 0 5, .int .i64 1, .int .i64 0]], 0⟩) (fun i => K.length - i) 0 (Nat.zero_le _) ?_ (fun i hi => ?_)
 · refine Weak.cut (4) (by simp) (by simp) ?_ ?_
   · simp [LeC, LeV, ren, cutF]
   · simp [cutH, cutB, ren, cutF, newPosts, rows]
 simp -implicitDefEqProofs -dsimp only [go_sem]
 refine condT.split (fun h1 => ?_) (fun h1 => ?_)
 · simp -implicitDefEqProofs -dsimp only [go_sem, h1]
   have hi' : i < K.length := by simpa using h1
   have hr := rows_at IntS.csl hi'
   have hn := newPosts_len hi
   (repeat ((repeat1' (first | simp -implicitDefEqProofs -dsimp only [go_sem, hr, IntS.cs, rows_length, hn, rows_cell] | simp -dsimp (disch := omega) only [wrap_i64])); repeat (with_reducible refine sideA ?_)))
   refine ⟨i + 1, hi', ?_, by omega⟩
   refine Weak.cut (4) (by simp) (by simp) ?_ ?_
   · simp [LeC, LeV, ren, cutF]
   · rw [newPosts_succ hi', ← rows_snoc]
     simp [cutH, cutB, ren, cutF, map_ren_rows, killC, Post.cs]
 · simp -implicitDefEqProofs -dsimp only [go_sem, h1]
   have hi' : i = K.length := by simp at h1; omega
   subst hi'
   rw [List.take_length]
   (first | refine callT.at (l25Good_ok (newW K) (by simp [newW, newPosts]; omega) (by simp [newW])) ⟨(by first | exact leA | exact LeV.aggR ⟨.inl rfl, leE_snap rfl (by simp [newPosts, newW]) (by simp [newW]), leE_snap rfl rfl rfl, .inl rfl, .inl rfl, trivial⟩ | exact LeV.aggR ⟨.inl rfl, leE_snap rfl (by simp [newPosts, newW]) (by simp [newW]), LeE.nil, .inl rfl, .inl rfl, trivial⟩), trivial⟩ ?_ | refine callS.at (l25Good_ok (newW K) (by simp [newW, newPosts]; omega) (by simp [newW])) ⟨(by first | exact leA | exact LeV.aggR ⟨.inl rfl, leE_snap rfl (by simp [newPosts, newW]) (by simp [newW]), leE_snap rfl rfl rfl, .inl rfl, .inl rfl, trivial⟩ | exact LeV.aggR ⟨.inl rfl, leE_snap rfl (by simp [newPosts, newW]) (by simp [newW]), LeE.nil, .inl rfl, .inl rfl, trivial⟩), trivial⟩ ?_)
   cases h : wB (newW K) with
   | false =>
     simp -implicitDefEqProofs -dsimp only [go_sem, h]
     obtain ⟨rfl, rfl⟩ := no h
     exact WeakR.drop' rfl (by rfl)
   | true =>
     simp -implicitDefEqProofs -dsimp only [go_sem, h]
     exact fin h
theorem sNewWatch_no (K : List Int) (hk : K.length ≤ 16777216) (h : wB (newW K) = false) : Ctr Tryd.prog 141 [IntS.sl K] [] watchN [] :=
 sNewWatch_pre K hk _ _ (fun h' => by rw [h] at h'; cases h') (fun _ => ⟨rfl, rfl⟩)
theorem sNewWatch_ok (K : List Int) (hk : K.length ≤ 16777216) (h : wB (newW K) = true) : Ctr Tryd.prog 141 [IntS.sl K] [] (.tup [.agg [.int .i64 0, .osl 0 0 K.length 3, .osl 1 0 0 5, .int .i64 1, .int .i64 0], .bool true]) [some (rows Post.cs (newPosts K)), some []] := by
 refine sNewWatch_pre K hk _ _ (fun _ => ?_) (fun h' => by rw [h] at h'; cases h')
 refine WeakR.pick [1, 2] (by decide) (fun j hj => by omega) (.inl ?_) ?_
 · first | rfl | (simp [ren, pickF, posOf]; done)
 · simp only [pickH, List.map_cons, List.map_nil, pickB, List.getElem?_cons_zero, List.getElem?_cons_succ, map_ren_rows]
end Go.Proofs
end
section
namespace Go.Lv
theorem Ctr.weak {P : Program} {f : FuncId} {args : List V} {r r' : V} {hout hout' : Hp} (h : Ctr P f args [] r hout) (hw : WeakR 0 r hout r' hout') : Ctr P f args [] r' hout' :=
 ⟨h.1, fun w vs m av h1 h2 h3 h4 h5 => (h.2 w vs m av h1 h2 h3 h4 h5).mono fun e w' ⟨v, m', g1, g2, g3, g4, g5⟩ => by
   obtain ⟨m2, k1, k2, k3⟩ := hw w m [] av w' m' v rfl (Nat.zero_le _) h2 g2.size g3 g4 g5
   exact ⟨v, m2, g1, g2, k1, k2, k3⟩⟩
section
variable {α : Type} {cs : α → List V} {w : Nat} [FlatP cs w]
def frzV (cs : α → List V) (w : Nat) (R : Option (List α)) : V := .tup [.sl (R.getD []).length w (rows cs (R.getD [])), .bool R.isSome]
theorem frzN (R : Option (List α)) : WeakR 0 (optN w R) (optNh cs R) (frzV cs w R) [] := by
 cases R with
 | none =>
   intro w0 m0 h0 av0 W m val e1 e2 hlt hle H hx hi
   refine ⟨m, H, ?_, hi⟩
   change RV W m [] _ true val (.tup [.nilsl, .bool false]) at hx
   cases hx with
   | tup a vs ha hra =>
     refine .tup _ _ ha (fun i hi => ?_)
     match i, hi with
     | 0, _ => exact (hra 0 (by simp)).leE LeE.nil
     | 1, _ => exact hra 1 (by simp)
 | some L =>
   refine WeakR.pick [] (by decide) (fun j hj => by omega) (.inl ?_) rfl
   simp [frzV, optN, optNh, ren, pickF, posOf, frzR, take_rows, map_ren_rows]
theorem frzO (R : Option (List α)) : WeakR 0 (optO w R) (optOh cs R) (frzV cs w R) [] := by
 cases R with
 | none =>
   refine WeakR.pick [] (by decide) (fun j hj => by omega) (.inl ?_) rfl
   simp [frzV, optO, optOh, ren, pickF, posOf, frzR, rows]
 | some L =>
   refine WeakR.pick [] (by decide) (fun j hj => by omega) (.inl ?_) rfl
   simp [frzV, optO, optOh, ren, pickF, posOf, frzR, take_rows, map_ren_rows]
end
end Go.Lv
end
section
set_option maxRecDepth 100000
set_option maxHeartbeats 1000000
namespace Go.Proofs
open Go.Lv
def zW : Watch := ⟨0, [], [], 0, 0⟩
theorem frzT {a a' : V} {l : List V} (h : LeV a a') : WeakR 0 (.tup (a :: l)) [] (.tup (a' :: l)) [] := by
 intro w0 m0 h0 av0 W m val e1 e2 hlt hle H hx hi
 refine ⟨m, H, ?_, hi⟩
 change RV W m [] _ true val (.tup (a :: l)) at hx
 cases hx with
 | tup a vs ha hra =>
   refine .tup _ _ ha (fun i hi => ?_)
   match i, hi with
   | 0, hi => exact (hra 0 (by simp)).le h
   | i + 1, hi => exact hra (i + 1) (by simpa using hi)
theorem zeroLe : LeV zeroW zW.v := LeV.agg ⟨.inl rfl, LeE.nil, LeE.nil, .inl rfl, .inl rfl, trivial⟩
def stV (R : Option Watch) : V := .tup [(R.getD zW).v, .bool R.isSome]
theorem frzW (R : Option Watch) : WeakR 0 (stwR R) (stwH R) (stV R) [] := by
 cases R with
 | none => exact frzT zeroLe
 | some b =>
   refine WeakR.pick [] (by decide) (fun j hj => by omega) (.inl ?_) rfl
   simp [stV, stwR, stwH, Watch.o, Watch.v, ren, pickF, posOf, frzR, take_rows, map_ren_rows]
theorem sasc_eq {w : Watch} (W : WatchOk w) {i j : Nat} (hi : i < w.Shocks.length) (hj : j < w.Shocks.length) (h : w.Shocks[i].Number = w.Shocks[j].Number) : i = j := by
 have P := W.sasc
 rw [List.pairwise_iff_getElem] at P
 rcases Nat.lt_trichotomy i j with c | c | c
 · have := P i j (by simpa using hi) (by simpa using hj) c
   simp only [List.getElem_map] at this
   omega
 · exact c
 · have := P j i (by simpa using hj) (by simpa using hi) c
   simp only [List.getElem_map] at this
   omega
end Go.Proofs
end
section
namespace Go.Lv
variable {α : Type}
def posK (lt : α → α → Bool) (S : List α) (x : α) : Nat → Nat
 | 0 => 0
 | k + 1 => match S[k]? with
   | some y => if lt x y then posK lt S x k else k + 1
   | none => k + 1
theorem posK_down {lt : α → α → Bool} {S : List α} {x : α} {k : Nat} (hk : k < S.length) (h : lt x S[k] = true) : posK lt S x (k + 1) = posK lt S x k := by
 simp [posK, hk, h]
theorem posK_stay {lt : α → α → Bool} {S : List α} {x : α} {k : Nat} (hk : k < S.length) (h : lt x S[k] = false) : posK lt S x (k + 1) = k + 1 := by
 simp [posK, hk, h]
def putAt (S : List α) (x : α) (j : Nat) : List α := S.take j ++ x :: S.drop j
theorem putAt_len (S : List α) (x : α) (j : Nat) : (putAt S x j).length = S.length + 1 := by
 simp [putAt]; omega
theorem putAt_end (S : List α) (x : α) : putAt S x S.length = S ++ [x] := by simp [putAt]
def ins (lt : α → α → Bool) (S : List α) (x : α) : List α := putAt S x (posK lt S x S.length)
def insSort (lt : α → α → Bool) (L : List α) : List α := L.foldl (ins lt) []
theorem ins_len (lt : α → α → Bool) (S : List α) (x : α) : (ins lt S x).length = S.length + 1 := putAt_len _ _ _
theorem insSort_snoc (lt : α → α → Bool) (L : List α) (x : α) : insSort lt (L ++ [x]) = ins lt (insSort lt L) x := by simp [insSort]
theorem insSort_take {lt : α → α → Bool} {L : List α} {i : Nat} (hi : i < L.length) : insSort lt (L.take (i + 1)) = ins lt (insSort lt (L.take i)) L[i] := by
 rw [List.take_succ_eq_append_getElem hi, insSort_snoc]
theorem insSort_len (lt : α → α → Bool) (L : List α) : (insSort lt L).length = L.length := by
 have key : ∀ (L S : List α), (L.foldl (ins lt) S).length = S.length + L.length := by
   intro L
   induction L with
   | nil => intro S; simp
   | cons a L ih => intro S; rw [List.foldl_cons, ih, ins_len]; simp; omega
 have := key L []
 simpa [insSort] using this
theorem insSort_one (lt : α → α → Bool) (L : List α) (h : L.length ≤ 1) : insSort lt L = L := by
 match L, h with
 | [], _ => rfl
 | [a], _ => rfl
def midS (S R : List α) (x : α) (j : Nat) : List α := putAt S x j ++ R
theorem midS_len (S R : List α) (x : α) (j : Nat) : (midS S R x j).length = S.length + 1 + R.length := by simp [midS, putAt_len]
theorem midS_get {S R : List α} {x : α} {j : Nat} (hj : j ≤ S.length) (h : j < (midS S R x j).length) : (midS S R x j)[j] = x := by
 have : (midS S R x j)[j]? = some x := by
   rw [midS, putAt, List.append_assoc, List.getElem?_append_right (by simp; omega)]
   simp [Nat.min_eq_left hj]
 rw [List.getElem?_eq_getElem h] at this
 exact Option.some.inj this
theorem midS_get_below {S R : List α} {x : α} {j : Nat} (hj : j < S.length) (h : j < (midS S R x (j + 1)).length) : (midS S R x (j + 1))[j] = S[j] := by
 have : (midS S R x (j + 1))[j]? = some S[j] := by
   rw [midS, putAt, List.append_assoc, List.getElem?_append_left (by simp; omega), List.getElem?_take_of_lt (by omega), List.getElem?_eq_getElem hj]
 rw [List.getElem?_eq_getElem h] at this
 exact Option.some.inj this
theorem midS_swap {S R : List α} {x : α} {j : Nat} (hj : j < S.length) : ((midS S R x (j + 1)).set (j + 1) S[j]).set j x = midS S R x j := by
 have hd : S.drop j = S[j] :: S.drop (j + 1) := List.drop_eq_getElem_cons hj
 have ht : S.take (j + 1) = S.take j ++ [S[j]] := List.take_succ_eq_append_getElem hj
 have hl : (S.take j).length = j := by simp; omega
 simp only [midS, putAt, ht, hd, List.append_assoc, List.cons_append, List.nil_append, List.singleton_append]
 rw [List.set_append_right _ _ (by omega), hl, List.set_append_right _ _ (by omega), hl]
 simp
def srtS (lt : α → α → Bool) (L : List α) (i : Nat) : List α := insSort lt (L.take i) ++ L.drop i
theorem srtS_one (lt : α → α → Bool) (L : List α) : srtS lt L 1 = L := by
 rw [srtS, insSort_one lt _ (by simp; omega), List.take_append_drop]
theorem srtS_end (lt : α → α → Bool) (L : List α) {i : Nat} (h : L.length ≤ i) : srtS lt L i = insSort lt L := by
 simp [srtS, List.take_of_length_le h, List.drop_eq_nil_of_le h]
theorem srtS_mid {lt : α → α → Bool} {L : List α} {i : Nat} (hi : i < L.length) : srtS lt L i = midS (insSort lt (L.take i)) (L.drop (i + 1)) L[i] i := by
 have hl : (insSort lt (L.take i)).length = i := by rw [insSort_len]; simp; omega
 rw [srtS, List.drop_eq_getElem_cons hi, midS]
 have := putAt_end (insSort lt (L.take i)) L[i]
 rw [hl] at this
 rw [this]; simp
theorem srtS_next {lt : α → α → Bool} {L : List α} {i j : Nat} (hi : i < L.length) (h : posK lt (insSort lt (L.take i)) L[i] i = j) : midS (insSort lt (L.take i)) (L.drop (i + 1)) L[i] j = srtS lt L (i + 1) := by
 have hl : (insSort lt (L.take i)).length = i := by rw [insSort_len]; simp; omega
 rw [srtS, insSort_take hi, ins, hl, h, midS]
end Go.Lv
end
section
set_option maxRecDepth 100000
set_option maxHeartbeats 1000000
namespace Go.Proofs
open Go.Lv
theorem insertionShock_ok (L : List Shock) (c : Shock → Shock → Int) (fc : Nat) (hv : ∀ x y, Ctr Tryd.prog fc [Shock.v x, Shock.v y] [] (.int .i64 (c x y)) []) (hl : L.length ≤ 19) :
   Ctr Tryd.prog 181 [.osl 0 0 L.length 5, .int .i64 0, .int .i64 L.length, .fn (.func fc) [] []] [some (rows Shock.cs L)] (.tup []) [some (rows Shock.cs (insSort (fun x y => decide (c x y < 0)) L))] := by
 generalize hlt : (fun x y => decide (c x y < 0)) = lt
 have ltv : ∀ x y, lt x y = decide (c x y < 0) := fun x y => by rw [← hlt]
 refine Ctr.intro Tryd.mixed Tryd.func181 rfl Tryd.okF181 ?_
 simp -implicitDefEqProofs -dsimp only [go_sem, Tryd.ntmps181, Tryd.results181]
 refine LoopT.intro (fun i : Nat => 1 ≤ i ∧ (i ≤ 1 ∨ i ≤ L.length)) (fun i => ⟨[.osl 0 0 L.length 5, .int .i64 0, .int .i64 L.length, .fn (.func fc) [] [], .undef, .undef, .undef, .undef, .int .i64 i, .undef, .undef, .undef, .undef, .undef, .undef, .undef, .undef, .undef, .undef, .undef, .undef, .undef, .undef, .undef, .undef, .undef, .undef, .undef, .undef, .undef, .undef, .undef, .undef, .undef, .undef, .undef, .undef, .undef, .undef, .undef, .undef, .undef, .undef, .undef, .undef, .undef, .undef, .undef, .undef, .undef, .undef, .undef, .undef], [some (rows Shock.cs (srtS lt L i))], 1⟩) (fun i => L.length - i) 1 ⟨Nat.le_refl _, .inl (Nat.le_refl _)⟩ ?_ (fun i hi => ?_)
 · refine Weak.cut (1) (by simp) (by simp) ?_ ?_
   · (simp [LeC, LeV, ren, cutF]; rfl)
   · rw [srtS_one]; simp [cutH, cutB, map_ren_rows]
 simp -implicitDefEqProofs -dsimp only [go_sem]
 refine condT.split (fun h1 => ?_) (fun h1 => ?_)
 · simp -implicitDefEqProofs -dsimp only [go_sem, h1]
   have hi' : i < L.length := by simpa using h1
   have hS : (insSort lt (L.take i)).length = i := by rw [insSort_len]; simp; omega
   rw [srtS_mid hi']
   refine LoopT.intro (fun j : Nat => j ≤ i ∧ posK lt (insSort lt (L.take i)) L[i] i = posK lt (insSort lt (L.take i)) L[i] j) (fun j => ⟨[.osl 0 0 L.length 5, .int .i64 0, .int .i64 L.length, .fn (.func fc) [] [], .undef, .undef, .undef, .undef, .int .i64 i, .int .i64 j, .undef, .undef, .undef, .undef, .undef, .undef, .undef, .undef, .undef, .undef, .undef, .undef, .undef, .undef, .undef, .undef, .undef, .undef, .undef, .undef, .undef, .undef, .undef, .undef, .undef, .undef, .undef, .undef, .undef, .undef, .undef, .undef, .undef, .undef, .undef, .undef, .undef, .undef, .undef, .undef, .undef, .undef, .undef], [some (rows Shock.cs (midS (insSort lt (L.take i)) (L.drop (i + 1)) L[i] j))], 1⟩) (fun j => j) i ⟨Nat.le_refl _, rfl⟩ ?_ (fun j hj => ?_)
   · refine Weak.cut (1) (by simp) (by simp) ?_ ?_
     · simp [LeC, LeV, ren, cutF]
     · simp [cutH, cutB, map_ren_rows]
   have hml : ∀ j, (midS (insSort lt (L.take i)) (L.drop (i + 1)) L[i] j).length = L.length := fun j => by rw [midS_len, hS, List.length_drop]; omega
   simp -implicitDefEqProofs -dsimp only [go_sem]
   refine ⟨by kernel_rfl, ?_⟩
   cases j with
   | zero =>
     have hz : ((0 : Nat) : Int) = 0 := rfl
     (repeat ((repeat1' (first | simp -implicitDefEqProofs -dsimp only [go_sem, hz] | simp -dsimp (disch := omega) only [wrap_i64])); repeat (with_reducible refine sideA ?_)))
     refine ⟨i + 1, ⟨by omega, .inr hi'⟩, ?_, by omega⟩
     refine Weak.cut (1) (by simp) (by simp) ?_ ?_
     · simp [LeC, LeV, ren, cutF]
     · rw [srtS_next (j := 0) hi' hj.2]
       simp [cutH, cutB, map_ren_rows]
   | succ j =>
     have hjS : j < (insSort lt (L.take i)).length := by rw [hS]; omega
     have hg : decide ((0 : Int) < ((j + 1 : Nat) : Int)) = true := decide_eq_true (by omega)
     have hw1 : IntKind.i64.wrap (((j + 1 : Nat) : Int) - 1) = (j : Int) := by rw [wrap_i64 (by omega) (by omega)]; omega
     have hk1 : j + 1 < (midS (insSort lt (L.take i)) (L.drop (i + 1)) L[i] (j + 1)).length := by rw [hml]; omega
     have hk0 : j < (midS (insSort lt (L.take i)) (L.drop (i + 1)) L[i] (j + 1)).length := by rw [hml]; omega
     have g1 := midS_get (S := insSort lt (L.take i)) (R := L.drop (i + 1)) (x := L[i]) (j := j + 1) (by omega) hk1
     have g0 := midS_get_below (R := L.drop (i + 1)) (x := L[i]) hjS hk0
     have hr1 := rows_at Shock.csl hk1
     have hr0 := rows_at Shock.csl hk0
     have hlr := rows_len (w := 5) Shock.csl (midS (insSort lt (L.take i)) (L.drop (i + 1)) L[i] (j + 1))
     rw [g1] at hr1
     rw [g0] at hr0
     rw [hml] at hlr
     (repeat ((repeat1' (first | simp -implicitDefEqProofs -dsimp only [go_sem, hg, hw1, hr1, hr0, hlr, Shock.cs] | simp -dsimp (disch := omega) only [wrap_i64])); repeat (with_reducible refine sideA ?_)))
     (first | refine callT.at (hv L[i] (insSort lt (L.take i))[j]) ⟨leA, leA, trivial⟩ ?_ | refine callS.at (hv L[i] (insSort lt (L.take i))[j]) ⟨leA, leA, trivial⟩ ?_)
     simp -implicitDefEqProofs -dsimp only [go_sem]
     have hlx := ltv L[i] (insSort lt (L.take i))[j]
     rw [← hlx]
     refine condT.split (fun h2 => ?_) (fun h2 => ?_)
     · have s1 := splice_row Shock.csl hk1 (insSort lt (L.take i))[j]
       have s2 := splice_row (L := (midS (insSort lt (L.take i)) (L.drop (i + 1)) L[i] (j + 1)).set (j + 1) (insSort lt (L.take i))[j]) Shock.csl (by rw [List.length_set]; exact hk0) L[i]
       rw [midS_swap hjS] at s2
       simp only [Shock.cs] at s1 s2
       (repeat ((repeat1' (first | simp -implicitDefEqProofs -dsimp only [go_sem, h2, hw1, hr1, hr0, hlr, Shock.cs] | simp -dsimp (disch := omega) only [wrap_i64])); repeat (with_reducible refine sideA ?_)))
       have hl2 : (rows Shock.cs ((midS (insSort lt (L.take i)) (L.drop (i + 1)) L[i] (j + 1)).set (j + 1) (insSort lt (L.take i))[j])).length = L.length * 5 := by rw [rows_len (w := 5) Shock.csl, List.length_set, hml]
       rw [s1, s2]
       refine ⟨by rw [hl2]; omega, j, ⟨by omega, hj.2.trans (posK_down hjS h2)⟩, ?_, by omega⟩
       refine Weak.cut (1) (by simp) (by simp) ?_ ?_
       · simp [LeC, LeV, ren, cutF]
       · simp [cutH, cutB, map_ren_rows]
     · simp -implicitDefEqProofs -dsimp only [go_sem, h2]
       have hp := posK_stay hjS h2
       refine ⟨i + 1, ⟨by omega, .inr hi'⟩, ?_, by omega⟩
       refine Weak.cut (1) (by simp) (by simp) ?_ ?_
       · rw [wrap_i64 (by omega) (by omega)]; simp [LeC, LeV, ren, cutF]
       · rw [srtS_next hi' (hj.2.trans hp)]
         simp [cutH, cutB, map_ren_rows]
 · simp -implicitDefEqProofs -dsimp only [go_sem, h1]
   have h1' : L.length ≤ i := by simp at h1; omega
   rw [srtS_end lt L h1']
   exact WeakR.refl _ _ _
theorem stableShock_ok (L : List Shock) (c : Shock → Shock → Int) (fc : Nat) (hv : ∀ x y, Ctr Tryd.prog fc [Shock.v x, Shock.v y] [] (.int .i64 (c x y)) []) (hl : L.length ≤ 19) :
   Ctr Tryd.prog 135 [.osl 0 0 L.length 5, .int .i64 L.length, .fn (.func fc) [] []] [some (rows Shock.cs L)] (.tup []) [some (rows Shock.cs (insSort (fun x y => decide (c x y < 0)) L))] := by
 refine Ctr.intro Tryd.mixed Tryd.func135 rfl Tryd.okF135 ?_
 simp -implicitDefEqProofs -dsimp only [go_sem, Tryd.ntmps135, Tryd.results135]
 have c0 : decide ((20 : Int) ≤ L.length) = false := decide_eq_false (by omega)
 have c1 : decide ((20 : Int) < L.length) = false := decide_eq_false (by omega)
 refine LoopT.intro (fun _ : Unit => True) (fun _ => ⟨[.osl 0 0 L.length 5, .int .i64 L.length, .fn (.func fc) [] [], .undef, .undef, .undef, .int .i64 20, .int .i64 0, .int .i64 20, .undef, .undef, .undef, .undef, .undef, .undef, .undef, .undef, .undef, .undef, .undef, .undef, .undef, .undef, .undef, .undef, .undef, .undef, .undef, .undef, .undef, .undef, .undef, .undef, .undef, .undef, .undef, .undef, .undef, .undef, .undef, .undef, .undef, .undef, .undef, .undef, .undef, .undef, .undef, .undef, .undef, .undef, .undef, .undef, .undef, .undef, .undef, .undef, .undef, .undef, .undef, .undef, .undef, .undef], [some (rows Shock.cs L)], 1⟩) (fun _ => 0) () trivial ?_ (fun _ _ => ?_)
 · refine Weak.cut (1) (by simp) (by simp) ?_ ?_
   · simp [LeC, LeV, ren, cutF]
   · simp [cutH, cutB, map_ren_rows]
 simp -implicitDefEqProofs -dsimp only [go_sem, c0]
 refine callS.lend [0] false ( insertionShock_ok L c fc hv hl) (by decide) ⟨leO, leO, leO, leO, trivial⟩ lendA ( grown_one (by simp [rows_length, insSort_len])) (.inl rfl) ?_
 simp -implicitDefEqProofs -dsimp only [go_sem]
 refine LoopT.intro (fun _ : Unit => True) (fun _ => ⟨[.osl 0 0 L.length 5, .int .i64 L.length, .fn (.func fc) [] [], .undef, .undef, .undef, .int .i64 20, .undef, .undef, .undef, .undef, .undef, .undef, .undef, .undef, .undef, .undef, .undef, .undef, .undef, .undef, .undef, .undef, .undef, .undef, .undef, .undef, .undef, .undef, .undef, .undef, .undef, .undef, .undef, .undef, .undef, .undef, .undef, .undef, .undef, .undef, .undef, .undef, .undef, .undef, .undef, .undef, .undef, .undef, .undef, .undef, .undef, .undef, .undef, .undef, .undef, .undef, .undef, .undef, .undef, .undef, .undef, .undef], [some (rows Shock.cs (insSort (fun x y => decide (c x y < 0)) L))], 1⟩) (fun _ => 0) () trivial ?_ (fun _ _ => ?_)
 · refine Weak.cut (1) (by simp) (by simp) ?_ ?_
   · simp [LeC, LeV, ren, cutF]
   · simp [cutH, cutB, map_ren_rows]
 simp -implicitDefEqProofs -dsimp only [go_sem, c1]
 exact WeakR.refl _ _ _
theorem sortStableShock_ok (L : List Shock) (c : Shock → Shock → Int) (fc : Nat) (hv : ∀ x y, Ctr Tryd.prog fc [Shock.v x, Shock.v y] [] (.int .i64 (c x y)) []) (hl : L.length ≤ 19) :
   Ctr Tryd.prog 84 [.osl 0 0 L.length 5, .fn (.func fc) [] []] [some (rows Shock.cs L)] (.tup []) [some (rows Shock.cs (insSort (fun x y => decide (c x y < 0)) L))] := by
 refine Ctr.intro Tryd.mixed Tryd.func84 rfl Tryd.okF84 ?_
 simp -implicitDefEqProofs -dsimp only [go_sem, Tryd.ntmps84, Tryd.results84]
 refine callS.lend [0] false ( stableShock_ok L c fc hv hl) (by decide) ⟨leO, leO, leO, trivial⟩ lendA ( grown_one (by simp [rows_length, insSort_len])) (.inl rfl) ?_
 simp -implicitDefEqProofs -dsimp only [go_sem]
 exact WeakR.refl _ _ _
end Go.Proofs
end
section
namespace Go.Lv
variable {α : Type}
theorem posK_split {lt : α → α → Bool} {A B : List α} {x : α} (hB : ∀ b ∈ B, lt x b = true) (hA : ∀ a ∈ A, lt x a = false) : ∀ k, k ≤ B.length → posK lt (A ++ B) x (A.length + k) = A.length
 | 0, _ => by
   cases h : A.length with
   | zero => rfl
   | succ m =>
     have hm : m < (A ++ B).length := by rw [List.length_append]; omega
     have e : (A ++ B)[m] = A[m]'(by omega) := List.getElem_append_left (by omega)
     exact posK_stay hm (by rw [e]; exact hA _ (List.getElem_mem _))
 | k + 1, hk => by
   have hm : A.length + k < (A ++ B).length := by rw [List.length_append]; omega
   have e : (A ++ B)[A.length + k] = B[k]'(by omega) := by
     rw [List.getElem_append_right (by omega)]
     congr 1; omega
   rw [← Nat.add_assoc, posK_down hm (by rw [e]; exact hB _ (List.getElem_mem _))]
   exact posK_split hB hA k (by omega)
theorem ins_split {lt : α → α → Bool} {A B : List α} {x : α} (hB : ∀ b ∈ B, lt x b = true) (hA : ∀ a ∈ A, lt x a = false) : ins lt (A ++ B) x = A ++ x :: B := by
 rw [ins, List.length_append, posK_split hB hA _ (Nat.le_refl _), putAt]
 simp
def byKey (f : α → Int) (c : Int) (L : List α) (J : List Nat) : List α := J.flatMap fun (j : Nat) => L.filter fun x => f x == c - (j : Int)
theorem byKey_app (f : α → Int) (c : Int) (L : List α) (J K : List Nat) : byKey f c L (J ++ K) = byKey f c L J ++ byKey f c L K := by simp [byKey]
theorem byKey_mem {f : α → Int} {c : Int} {L : List α} {J : List Nat} {x : α} (h : x ∈ byKey f c L J) : ∃ j ∈ J, f x = c - (j : Int) := by
 simp only [byKey, List.mem_flatMap, List.mem_filter, beq_iff_eq] at h
 obtain ⟨j, hj, _, e⟩ := h
 exact ⟨j, hj, e⟩
theorem byKey_skip {f : α → Int} {c : Int} {L : List α} {J : List Nat} {x : α} (h : ∀ j ∈ J, f x ≠ c - (j : Int)) : byKey f c (L ++ [x]) J = byKey f c L J := by
 induction J with
 | nil => rfl
 | cons j J ih =>
   have h1 : f x ≠ c - (j : Int) := h j (by simp)
   have h2 := ih (fun k hk => h k (by simp [hk]))
   simp only [byKey, List.flatMap_cons] at h2 ⊢
   rw [h2, List.filter_append]
   simp [h1]
theorem insSort_byKey {f : α → Int} {c : Int} {n : Nat} : ∀ {L : List α}, (∀ x ∈ L, c - n < f x ∧ f x ≤ c) → insSort (fun x y => decide (f y < f x)) L = byKey f c L (List.range n) := by
 intro L hL
 have key : ∀ i, i ≤ L.length → insSort (fun x y => decide (f y < f x)) (L.take i) = byKey f c (L.take i) (List.range n) := by
   intro i
   induction i with
   | zero => intro _; simp [insSort, byKey]
   | succ i ih =>
     intro hi
     have hi' : i < L.length := hi
     have hx := hL L[i] (List.getElem_mem hi')
     rw [insSort_take hi', ih (by omega), List.take_succ_eq_append_getElem hi']
     obtain ⟨j, m, e1, e2⟩ : ∃ j m : Nat, f L[i] = c - (j : Int) ∧ n = j + (m + 1) := ⟨(c - f L[i]).toNat, n - 1 - (c - f L[i]).toNat, by omega, by omega⟩
     have hr : List.range n = List.range j ++ ([j] ++ (List.range m).map (fun k => j + (k + 1))) := by
       rw [e2, List.range_add, List.range_succ_eq_map]
       simp
     rw [hr, byKey_app, byKey_app, byKey_app, byKey_app]
     rw [byKey_skip (J := List.range j) (by intro k hk; have := List.mem_range.1 hk; omega)]
     rw [byKey_skip (J := (List.range m).map (fun k => j + (k + 1))) (by
       intro k hk
       obtain ⟨k, _, rfl⟩ := List.mem_map.1 hk
       omega)]
     have hone : byKey f c (L.take i ++ [L[i]]) [j] = byKey f c (L.take i) [j] ++ [L[i]] := by
       simp only [byKey, List.flatMap_cons, List.flatMap_nil, List.append_nil, List.filter_append]
       simp [e1]
     rw [hone, ← List.append_assoc]
     rw [ins_split (A := byKey f c (L.take i) (List.range j) ++ byKey f c (L.take i) [j]) (B := byKey f c (L.take i) ((List.range m).map (fun k => j + (k + 1))))]
     · simp
     · intro b hb
       obtain ⟨k, hk, e⟩ := byKey_mem hb
       obtain ⟨k, _, rfl⟩ := List.mem_map.1 hk
       simp; omega
     · intro a ha
       rcases List.mem_append.1 ha with h | h
       · obtain ⟨k, hk, e⟩ := byKey_mem h
         have := List.mem_range.1 hk
         simp; omega
       · obtain ⟨k, hk, e⟩ := byKey_mem h
         simp at hk; subst hk
         simp; omega
 have := key L.length (Nat.le_refl _)
 simpa using this
end Go.Lv
end
section
set_option maxRecDepth 100000
set_option maxHeartbeats 1000000
namespace Go.Proofs
open Go.Lv
def cmpI (a b : Int) : Int := if a < b then -1 else if b < a then 1 else 0
theorem cmpI_neg (a b : Int) : decide (cmpI a b < 0) = decide (a < b) := by
 unfold cmpI
 split
 · rename_i h; simp [h]
 · rename_i h; split <;> simp [h]
theorem isNaNInt_ok (a : Int) : Ctr Tryd.prog 126 [.int .i64 a] [] (.bool false) [] := by
 refine Ctr.intro Tryd.mixed Tryd.func126 rfl Tryd.okF126 ?_
 simp -implicitDefEqProofs -dsimp only [go_sem, Tryd.ntmps126, Tryd.results126]
 exact WeakR.drop' (by simp) (by rfl)
theorem compareInt_ok (a b : Int) : Ctr Tryd.prog 76 [.int .i64 a, .int .i64 b] [] (.int .i64 (cmpI a b)) [] := by
 refine Ctr.intro Tryd.mixed Tryd.func76 rfl Tryd.okF76 ?_
 simp -implicitDefEqProofs -dsimp only [go_sem, Tryd.ntmps76, Tryd.results76]
 (first | refine callT.at (isNaNInt_ok a) ⟨leA, trivial⟩ ?_ | refine callS.at (isNaNInt_ok a) ⟨leA, trivial⟩ ?_)
 simp -implicitDefEqProofs -dsimp only [go_sem]
 (first | refine callT.at (isNaNInt_ok b) ⟨leA, trivial⟩ ?_ | refine callS.at (isNaNInt_ok b) ⟨leA, trivial⟩ ?_)
 simp -implicitDefEqProofs -dsimp only [go_sem]
 refine condT.split (fun h1 => ?_) (fun h1 => ?_) <;> simp -implicitDefEqProofs -dsimp only [go_sem, h1]
 · exact WeakR.drop' (by rw [cmpI, if_pos (of_decide_eq_true h1)]) (by rfl)
 · refine condT.split (fun h2 => ?_) (fun h2 => ?_) <;> simp -implicitDefEqProofs -dsimp only [go_sem, h2]
   · exact WeakR.drop' (by rw [cmpI, if_neg (of_decide_eq_false h1), if_pos (of_decide_eq_true h2)]) (by rfl)
   · exact WeakR.drop' (by rw [cmpI, if_neg (of_decide_eq_false h1), if_neg (of_decide_eq_false h2)]) (by rfl)
def locP (x : Shock) : Bool := x.State == 1
def sizeC (x y : Shock) : Int := cmpI y.Size x.Size
def revL (w : Watch) : List Shock := insSort (fun x y => decide (sizeC x y < 0)) (w.Shocks.filter locP)
theorem revL_byKey {w : Watch} (hw : wB w = true) : revL w = byKey Shock.Size 95 (w.Shocks.filter locP) (List.range 116) := by
 have h : (fun x y : Shock => decide (sizeC x y < 0)) = fun x y => decide (y.Size < x.Size) := by
   funext x y
   exact cmpI_neg _ _
 rw [revL, h]
 refine insSort_byKey (fun x hx => ?_)
 have := shockB_iff.1 ((wB_ok hw).shocks x (List.mem_filter.1 hx).1)
 omega
theorem revL_steps {w : Watch} (hw : wB w = true) : ∃ G : Nat → List Shock, G 0 = [] ∧ (∀ j : Nat, G (j + 1) = G j ++ (w.Shocks.filter fun x => locP x && x.Size == 95 - (j : Int))) ∧ (∀ j, (G j).length ≤ 6 * j) ∧ revL w = G 116 := by
 have hlen := (wB_ok hw).slen
 have GS : ∀ j : Nat, byKey Shock.Size 95 (w.Shocks.filter locP) (List.range (j + 1)) = byKey Shock.Size 95 (w.Shocks.filter locP) (List.range j) ++ (w.Shocks.filter fun x => locP x && x.Size == 95 - (j : Int)) := by
   intro j
   rw [List.range_succ, byKey_app]
   congr 1
   simp only [byKey, List.flatMap_cons, List.flatMap_nil, List.append_nil, List.filter_filter]
   congr 1
   funext x
   exact Bool.and_comm _ _
 refine ⟨fun j => byKey Shock.Size 95 (w.Shocks.filter locP) (List.range j), rfl, GS, fun j => ?_, revL_byKey hw⟩
 induction j with
 | zero => simp [byKey]
 | succ j ih =>
   show (byKey Shock.Size 95 (w.Shocks.filter locP) (List.range (j + 1))).length ≤ _
   rw [GS, List.length_append]
   have := List.length_filter_le (fun x => locP x && x.Size == 95 - (j : Int)) w.Shocks
   have ih' : (byKey Shock.Size 95 (w.Shocks.filter locP) (List.range j)).length ≤ 6 * j := ih
   omega
def reviewR (w : Watch) : Option (List Int) := if wB w = true then some ((revL w).map Shock.Number) else none
theorem locOf_ok (x : Shock) : Ctr Tryd.prog 83 [x.v] [] (.bool (locP x)) [] := by
 refine Ctr.intro Tryd.mixed Tryd.func83 rfl Tryd.okF83 ?_
 simp -implicitDefEqProofs -dsimp only [go_sem, Tryd.ntmps83, Tryd.results83]
 simp -implicitDefEqProofs -dsimp only [go_sem, Shock.v]
 exact WeakR.drop' rfl (by rfl)
theorem sizeOf_ok (x y : Shock) : Ctr Tryd.prog 85 [x.v, y.v] [] (.int .i64 (sizeC x y)) [] := by
 refine Ctr.intro Tryd.mixed Tryd.func85 rfl Tryd.okF85 ?_
 simp -implicitDefEqProofs -dsimp only [go_sem, Tryd.ntmps85, Tryd.results85]
 simp -implicitDefEqProofs -dsimp only [go_sem, Shock.v]
 (first | refine callT.at (compareInt_ok y.Size x.Size) ⟨leA, leA, trivial⟩ ?_ | refine callS.at (compareInt_ok y.Size x.Size) ⟨leA, leA, trivial⟩ ?_)
 simp -implicitDefEqProofs -dsimp only [go_sem]
 exact WeakR.drop' rfl (by rfl)
theorem iToReview_ok (w : Watch) (hp : w.Posts.length ≤ 16777216) (hs : w.Shocks.length ≤ 16777216) : Ctr Tryd.prog 25 [w.v] [] (optN 1 (reviewR w)) (optNh IntS.cs (reviewR w)) := by
 refine Ctr.intro Tryd.mixed Tryd.func25 rfl Tryd.okF25 ?_
 simp -implicitDefEqProofs -dsimp only [go_sem, Tryd.ntmps25, Tryd.results25]
 simp -implicitDefEqProofs -dsimp only [go_sem, Watch.v]
 (first | refine callT.at (iIsWatch_ok w (by omega) (by omega)) ⟨leA, trivial⟩ ?_ | refine callS.at (iIsWatch_ok w (by omega) (by omega)) ⟨leA, trivial⟩ ?_)
 cases h : wB w with
 | false =>
   simp -implicitDefEqProofs -dsimp only [go_sem]
   have e : reviewR w = none := by simp [reviewR, h]
   rw [e]
   exact WeakR.drop' rfl (by rfl)
 | true =>
   have e : reviewR w = some ((revL w).map Shock.Number) := by simp [reviewR, h]
   rw [e]
   have hw := wB_ok h
   have hlen := hw.slen
   have hfl : (w.Shocks.filter locP).length ≤ 6 := Nat.le_trans (List.length_filter_le _ _) hlen
   have hrl : (revL w).length = (w.Shocks.filter locP).length := insSort_len _ _
   simp -implicitDefEqProofs -dsimp only [go_sem]
   (first | refine callT.at (filterShock_ok w.Shocks locP _ [] (fun _ => rfl) locOf_ok hs) ⟨leA, leA, trivial⟩ ?_ | refine callS.at (filterShock_ok w.Shocks locP _ [] (fun _ => rfl) locOf_ok hs) ⟨leA, leA, trivial⟩ ?_)
   simp -implicitDefEqProofs -dsimp only [go_sem]
   refine callS.lend [1] false ( sortStableShock_ok (w.Shocks.filter locP) sizeC _ sizeOf_ok (by omega)) (by decide) ⟨leO, leO, trivial⟩ lendA ( grown_one (by simp [rows_length, insSort_len])) (.inl rfl) ?_
   have hr0 : insSort (fun x y => decide (sizeC x y < 0)) (w.Shocks.filter locP) = revL w := rfl
   rw [hr0]
   simp -implicitDefEqProofs -dsimp only [go_sem]
   rw [← hrl]
   refine LoopT.intro (fun i : Nat => i ≤ (revL w).length) (fun i => ⟨[.undef, .undef, .undef, .undef, .undef, .osl 2 0 i 1, .undef, .undef, .undef, .undef, .undef, .undef, .undef, .undef, .undef, .undef, .undef, .osl 1 0 (revL w).length 5, .int .i64 (revL w).length, .int .i64 i, .undef, .undef, .undef, .undef, .undef, .undef, .undef, .undef, .undef, .undef], [some w.cs, some (rows Shock.cs (revL w)), some (rows IntS.cs (((revL w).take i).map Shock.Number))], 0⟩) (fun i => (revL w).length - i) 0 (Nat.zero_le _) ?_ (fun i hi => ?_)
   · refine Weak.cut (3) (by simp) (by simp) ?_ ?_
     · simp [LeC, LeV, ren, cutF]
     · (simp [cutH, cutB, ren, map_ren_rows, Watch.cs]; try rfl)
   simp -implicitDefEqProofs -dsimp only [go_sem]
   refine condT.split (fun h1 => ?_) (fun h1 => ?_)
   · simp -implicitDefEqProofs -dsimp only [go_sem, h1]
     have hi' : i < (revL w).length := by simpa using h1
     have h5 := Shock.csl (revL w)[i]
     have hr := rows_at Shock.csl hi'
     (repeat ((repeat1' (first | simp -implicitDefEqProofs -dsimp only [go_sem, hr, Shock.cs, rows_length, rows_cell, Nat.mul_one, List.length_map, List.length_take] | simp -dsimp (disch := omega) only [wrap_i64])); repeat (with_reducible refine sideA ?_)))
     refine ⟨i + 1, hi', ?_, by omega⟩
     refine Weak.cut (3) (by simp) (by simp) ?_ ?_
     · simp [LeC, LeV, ren, cutF]
     · rw [List.take_succ_eq_append_getElem hi', List.map_append, List.map_singleton, ← rows_snoc]
       simp [cutH, cutB, ren, cutF, map_ren_rows, killC, killF, Watch.cs, IntS.cs]
   · simp -implicitDefEqProofs -dsimp only [go_sem, h1]
     have hi' : i = (revL w).length := by simp at h1; omega
     subst hi'
     rw [List.take_length]
     have hml : ((revL w).map Shock.Number).length = (revL w).length := List.length_map _
     simp only [optN, optNh, hml]
     refine WeakR.pick [2] (by decide) (fun j hj => by omega) (.inl ?_) ?_
     · first | rfl | (simp [ren, pickF, posOf]; done)
     · simp only [pickH, List.map_cons, List.map_nil, pickB, List.getElem?_cons_zero, List.getElem?_cons_succ, map_ren_rows]
theorem sToReview_ok (w : Watch) (hp : w.Posts.length ≤ 16777216) (hs : w.Shocks.length ≤ 16777216) : Ctr Tryd.prog 26 [w.v] [] (optO 1 (reviewR w)) (optOh IntS.cs (reviewR w)) := by
 refine Ctr.intro Tryd.mixed Tryd.func26 rfl Tryd.okF26 ?_
 simp -implicitDefEqProofs -dsimp only [go_sem, Tryd.ntmps26, Tryd.results26]
 simp -implicitDefEqProofs -dsimp only [go_sem, Watch.v]
 (first | refine callT.at (l25Good_ok w (by omega) (by omega)) ⟨leA, trivial⟩ ?_ | refine callS.at (l25Good_ok w (by omega) (by omega)) ⟨leA, trivial⟩ ?_)
 cases h : wB w with
 | false =>
   simp -implicitDefEqProofs -dsimp only [go_sem]
   have e : reviewR w = none := by simp [reviewR, h]
   rw [e]
   simp only [optO, optOh]
   refine WeakR.pick [1] (by decide) (fun j hj => by omega) (.inl ?_) ?_
   · first | rfl | (simp [ren, pickF, posOf]; done)
   · simp only [pickH, List.map_cons, List.map_nil, pickB, List.getElem?_cons_zero, List.getElem?_cons_succ, map_ren_rows]
 | true =>
   have e : reviewR w = some ((revL w).map Shock.Number) := by simp [reviewR, h]
   obtain ⟨G, G0, GS, GL, hend⟩ := revL_steps h
   rw [e, hend]
   clear e hend
   have hw := wB_ok h
   have hlen := hw.slen
   have hfl : (w.Shocks.filter locP).length ≤ 6 := Nat.le_trans (List.length_filter_le _ _) hlen
   simp -implicitDefEqProofs -dsimp only [go_sem]
   refine LoopT.intro (fun j : Nat => j ≤ 116) (fun j => ⟨[.undef, .ptr 0 0, .undef, .undef, .osl 1 0 (G j).length 1, .int .i64 (95 - (j : Int)), .undef, .undef, .undef, .undef, .undef, .undef, .undef, .undef, .undef, .undef, .undef, .undef, .undef, .undef, .undef, .undef, .undef, .undef, .undef, .undef, .undef, .undef, .undef, .undef, .undef, .undef, .undef, .undef, .undef, .undef, .undef, .undef, .undef, .undef, .undef, .undef, .undef, .undef], [some w.cs, some (rows IntS.cs ((G j).map Shock.Number))], 0⟩) (fun j => 116 - j) 0 (Nat.zero_le _) ?_ (fun j hj => ?_)
   · refine Weak.cut (2) (by simp) (by simp) ?_ ?_
     · simp [LeC, LeV, ren, cutF, G0]
     · (simp [cutH, cutB, ren, map_ren_rows, Watch.cs, G0]; try rfl)
   simp -implicitDefEqProofs -dsimp only [go_sem]
   refine condT.split (fun h1 => ?_) (fun h1 => ?_)
   · simp -implicitDefEqProofs -dsimp only [go_sem, h1]
     have hj' : j < 116 := by simp at h1; omega
     have hstep : ∀ {i : Nat} (hi : i < w.Shocks.length), (w.Shocks.take (i + 1)).filter (fun x => locP x && x.Size == 95 - (j : Int)) = (w.Shocks.take i).filter (fun x => locP x && x.Size == 95 - (j : Int)) ++ if (locP w.Shocks[i] && w.Shocks[i].Size == 95 - (j : Int)) = true then [w.Shocks[i]] else [] := fun {i} hi => by
       rw [List.take_succ_eq_append_getElem hi, List.filter_append]
       congr 1
       cases h : (locP w.Shocks[i] && w.Shocks[i].Size == 95 - (j : Int)) <;> simp [h]
     generalize hF : (fun i : Nat => G j ++ (w.Shocks.take i).filter (fun x => locP x && x.Size == 95 - (j : Int))) = F
     have F0 : F 0 = G j := by rw [← hF]; simp
     have FS1 : ∀ {i : Nat} (hi : i < w.Shocks.length), (locP w.Shocks[i] && w.Shocks[i].Size == 95 - (j : Int)) = true → F (i + 1) = F i ++ [w.Shocks[i]] := by
       intro i hi hc
       rw [← hF]
       simp only [hstep hi, hc, if_true, List.append_assoc]
     have FS0 : ∀ {i : Nat} (hi : i < w.Shocks.length), (locP w.Shocks[i] && w.Shocks[i].Size == 95 - (j : Int)) = false → F (i + 1) = F i := by
       intro i hi hc
       rw [← hF]
       simp only [hstep hi, hc, if_false, List.append_nil, Bool.false_eq_true]
     have FE : F w.Shocks.length = G (j + 1) := by rw [← hF, GS]; simp
     have FL : ∀ i, (F i).length ≤ 6 * j + 6 := by
       intro i
       rw [← hF]
       simp only [List.length_append]
       have h2 := List.length_filter_le (fun x => locP x && x.Size == 95 - (j : Int)) (w.Shocks.take i)
       have h3 := GL j
       rw [List.length_take] at h2
       omega
     clear hF hstep
     refine LoopT.intro (fun i : Nat => i ≤ w.Shocks.length) (fun i => ⟨[.undef, .ptr 0 0, .undef, .undef, .osl 1 0 (F i).length 1, .int .i64 (95 - (j : Int)), .int .i64 i, .undef, .undef, .undef, .undef, .undef, .undef, .undef, .undef, .undef, .undef, .undef, .undef, .undef, .undef, .undef, .undef, .undef, .undef, .undef, .undef, .undef, .undef, .undef, .undef, .undef, .undef, .undef, .undef, .undef, .undef, .undef, .undef, .undef, .undef, .undef, .undef, .undef], [some w.cs, some (rows IntS.cs ((F i).map Shock.Number))], 0⟩) (fun i => w.Shocks.length - i) 0 (Nat.zero_le _) ?_ (fun i hi => ?_)
     · refine Weak.cut (2) (by simp) (by simp) ?_ ?_
       · simp [LeC, LeV, ren, cutF, F0]
       · simp [cutH, cutB, ren, map_ren_rows, Watch.cs, F0]
     simp -implicitDefEqProofs -dsimp only [go_sem, Watch.cs]
     refine condT.split (fun h2 => ?_) (fun h2 => ?_)
     · simp -implicitDefEqProofs -dsimp only [go_sem, h2]
       have hi' : i < w.Shocks.length := by simpa using h2
       have h5 := Shock.csl w.Shocks[i]
       have hr := rows_at Shock.csl hi'
       have hFl := FL i
       (repeat ((repeat1' (first | simp -implicitDefEqProofs -dsimp only [go_sem, hr, Shock.cs, Watch.cs] | simp -dsimp (disch := omega) only [wrap_i64])); repeat (with_reducible refine sideA ?_)))
       refine guardT.splitT (fun h3 => ?_) (fun h3 => ?_) <;> simp -implicitDefEqProofs -dsimp only [go_sem, h3]
       · refine condT.split (fun h4 => ?_) (fun h4 => ?_) <;> simp -implicitDefEqProofs -dsimp only [go_sem, h4]
         · (repeat ((repeat1' (first | simp -implicitDefEqProofs -dsimp only [go_sem, hr, Shock.cs, Watch.cs, rows_length, rows_cell, Nat.mul_one, List.length_map] | simp -dsimp (disch := omega) only [wrap_i64])); repeat (with_reducible refine sideA ?_)))
           have hc : (locP w.Shocks[i] && w.Shocks[i].Size == 95 - (j : Int)) = true := by rw [locP, h3, h4]; rfl
           refine ⟨i + 1, hi', ?_, by omega⟩
           refine Weak.cut (2) (by simp) (by simp) ?_ ?_
           · rw [FS1 hi' hc]; simp [LeC, LeV, ren, cutF]
           · rw [FS1 hi' hc, List.map_append, List.map_singleton, ← rows_snoc]
             simp [cutH, cutB, ren, cutF, map_ren_rows, killC, killF, Watch.cs, IntS.cs]
         · try (repeat1' (first | simp -implicitDefEqProofs -dsimp only [go_sem] | simp -dsimp (disch := omega) only [wrap_i64]))
           have hc : (locP w.Shocks[i] && w.Shocks[i].Size == 95 - (j : Int)) = false := by rw [locP, h3, h4]; rfl
           refine ⟨i + 1, hi', ?_, by omega⟩
           refine Weak.cut (2) (by simp) (by simp) ?_ ?_
           · rw [FS0 hi' hc]; simp [LeC, LeV, ren, cutF]
           · rw [FS0 hi' hc]; simp [cutH, cutB, ren, map_ren_rows, Watch.cs]
       · try (repeat1' (first | simp -implicitDefEqProofs -dsimp only [go_sem] | simp -dsimp (disch := omega) only [wrap_i64]))
         have hc : (locP w.Shocks[i] && w.Shocks[i].Size == 95 - (j : Int)) = false := by rw [locP, h3]; rfl
         refine ⟨i + 1, hi', ?_, by omega⟩
         refine Weak.cut (2) (by simp) (by simp) ?_ ?_
         · rw [FS0 hi' hc]; simp [LeC, LeV, ren, cutF]
         · rw [FS0 hi' hc]; simp [cutH, cutB, ren, map_ren_rows, Watch.cs]
     · simp -implicitDefEqProofs -dsimp only [go_sem, h2]
       have hi' : i = w.Shocks.length := by simp at h2; omega
       subst hi'
       try (repeat1' (first | simp -implicitDefEqProofs -dsimp only [go_sem] | simp -dsimp (disch := omega) only [wrap_i64]))
       refine ⟨j + 1, by omega, ?_, by omega⟩
       refine Weak.cut (2) (by simp) (by simp) ?_ ?_
       · rw [FE]; (simp [LeC, LeV, ren, cutF]; try omega)
       · rw [FE]; simp [cutH, cutB, ren, map_ren_rows, Watch.cs]
   · simp -implicitDefEqProofs -dsimp only [go_sem, h1]
     have hj' : j = 116 := by simp at h1; omega
     subst hj'
     have hml : ((G 116).map Shock.Number).length = (G 116).length := List.length_map _
     simp only [optO, optOh, hml]
     refine WeakR.pick [1] (by decide) (fun j hj => by omega) (.inl ?_) ?_
     · first | rfl | (simp [ren, pickF, posOf]; done)
     · simp only [pickH, List.map_cons, List.map_nil, pickB, List.getElem?_cons_zero, List.getElem?_cons_succ, map_ren_rows]
end Go.Proofs
end
section
set_option maxRecDepth 100000
set_option maxHeartbeats 1000000
namespace Go.Proofs
open Go.Lv
def stc (L : List Shock) (j : Int) : Int := ((L.filter fun x => x.State == j).length : Int)
theorem statesF : ∀ (L : List Shock) (a b c d : Int), (∀ x ∈ L, 0 ≤ x.State ∧ x.State ≤ 3) → L.foldl (fun C x => bump C x.State.toNat) [a, b, c, d] = [a + stc L 0, b + stc L 1, c + stc L 2, d + stc L 3] := by
 intro L
 induction L with
 | nil => intro a b c d _; simp [stc]
 | cons x L ih =>
   intro a b c d h
   have hx := h x (List.mem_cons_self ..)
   have hL := fun y hy => h y (List.mem_cons_of_mem x hy)
   have hc : x.State = 0 ∨ x.State = 1 ∨ x.State = 2 ∨ x.State = 3 := by omega
   rw [List.foldl_cons]
   rcases hc with e | e | e | e
   · have hb : bump [a, b, c, d] x.State.toNat = [a + 1, b, c, d] := by rw [e]; rfl
     rw [hb, ih _ _ _ _ hL]
     simp [stc, e]
     omega
   · have hb : bump [a, b, c, d] x.State.toNat = [a, b + 1, c, d] := by rw [e]; rfl
     rw [hb, ih _ _ _ _ hL]
     simp [stc, e]
     omega
   · have hb : bump [a, b, c, d] x.State.toNat = [a, b, c + 1, d] := by rw [e]; rfl
     rw [hb, ih _ _ _ _ hL]
     simp [stc, e]
     omega
   · have hb : bump [a, b, c, d] x.State.toNat = [a, b, c, d + 1] := by rw [e]; rfl
     rw [hb, ih _ _ _ _ hL]
     simp [stc, e]
     omega
theorem stc_all : ∀ (L : List Shock), (∀ x ∈ L, 0 ≤ x.State ∧ x.State ≤ 3) → stc L 0 + stc L 1 + stc L 2 + stc L 3 = L.length := by
 intro L
 induction L with
 | nil => intro _; simp [stc]
 | cons x L ih =>
   intro h
   have hx := h x (List.mem_cons_self ..)
   have h2 := ih fun y hy => h y (List.mem_cons_of_mem x hy)
   have hc : x.State = 0 ∨ x.State = 1 ∨ x.State = 2 ∨ x.State = 3 := by omega
   simp only [stc] at h2
   rcases hc with e | e | e | e <;> simp [stc, e] <;> omega
theorem statesTo_eq {w : Watch} (h : wB w = true) : statesTo w.Shocks = [stc w.Shocks 0, stc w.Shocks 1, stc w.Shocks 2, stc w.Shocks 3] ∧ stc w.Shocks 0 + stc w.Shocks 1 + stc w.Shocks 2 + stc w.Shocks 3 = w.Shocks.length ∧ stc w.Shocks 1 = (revL w).length := by
 have hs : ∀ x ∈ w.Shocks, 0 ≤ x.State ∧ x.State ≤ 3 := fun x hx => (shockB_iff.1 ((wB_ok h).shocks x hx)).2.1
 refine ⟨?_, stc_all _ hs, ?_⟩
 · rw [statesTo, statesF _ 0 0 0 0 hs]
   simp
 · rw [revL, insSort_len]
   rfl
theorem listedB_intro {α : Type} {p : α → Bool} {k : α → Int} {m : Nat} {L : List α} (h1 : ∀ x ∈ L, p x = true) (h2 : (L.map k).Pairwise (· < ·)) (h3 : L.length ≤ m) : listedB p k m L = true := by
 refine listedB_of (List.all_eq_true.2 fun i hi => ?_) h3
 have hi' : i < L.length := by simpa using hi
 rw [List.pairwise_iff_getElem] at h2
 unfold listedQ
 rw [List.getElem?_eq_getElem hi']
 simp only [h1 _ (List.getElem_mem hi'), Bool.true_and]
 cases i with
 | zero => rfl
 | succ j =>
   have hj : j < L.length := by omega
   simp only [List.getElem?_eq_getElem hj]
   have := h2 j (j + 1) (by simpa using hj) (by simpa using hi') (by omega)
   simpa using this
theorem wB_of {w : Watch} (W : WatchOk w) : wB w = true := by
 simp only [wB, Bool.and_eq_true]
 exact ⟨⟨countsB_iff.2 ⟨W.now, W.next, W.arch⟩, listedB_intro W.posts W.pasc W.plen⟩, listedB_intro W.shocks W.sasc W.slen⟩
theorem mem_ins {α : Type} {lt : α → α → Bool} {y : α} {L : List α} (h : y ∈ insSort lt L) : y ∈ L := by
 have key : ∀ (L S : List α), y ∈ L.foldl (ins lt) S → y ∈ S ∨ y ∈ L := by
   intro L
   induction L with
   | nil => intro S h; exact .inl h
   | cons a L ih =>
     intro S h
     rcases ih _ h with h1 | h1
     · rcases List.mem_append.1 h1 with h2 | h2
       · exact .inl (List.mem_of_mem_take h2)
       · rcases List.mem_cons.1 h2 with h3 | h3
         · exact .inr (h3 ▸ List.mem_cons_self ..)
         · exact .inl (List.mem_of_mem_drop h3)
     · exact .inr (List.mem_cons_of_mem _ h1)
 rcases key L [] h with h1 | h1
 · cases h1
 · exact h1
theorem review_ok {w : Watch} (h : wB w = true) {n : Int} (hn : n ∈ (revL w).map Shock.Number) : ∃ b, stepW w 6 n 0 = some b := by
 obtain ⟨x, hx, rfl⟩ := List.mem_map.1 hn
 have hf := List.mem_filter.1 (mem_ins hx)
 have hst : x.State = 1 := by simpa [locP] using hf.2
 obtain ⟨i, hi, rfl⟩ := List.getElem_of_mem hf.1
 have W := wB_ok h
 have hany : w.Shocks.any (shockIs w.Shocks[i].Number) = true := List.any_eq_true.2 ⟨_, List.getElem_mem hi, by simp [shockIs]⟩
 have hidx : decide (0 ≤ idxI (shockIs w.Shocks[i].Number) w.Shocks) = true := by rw [idxI_any]; exact hany
 obtain ⟨j, hj, e, hp⟩ := idxI_get hidx
 have hij := sasc_eq W hi hj (by simp [shockIs] at hp; omega)
 subst hij
 have hs : sAt w w.Shocks[i].Number = i := by simp [sAt, e]
 have hsb := shockB_iff.1 (W.shocks _ (List.getElem_mem hi))
 have hw : stepWB w 6 w.Shocks[i].Number 0 = true := by simp [stepWB, inB']; exact of_decide_eq_true hidx
 have hm : makeB w 6 w.Shocks[i].Number 0 = true := by simp [makeB, hs, shAt_get hi, chgB, hst]
 have hk : wB (makeW w 6 w.Shocks[i].Number 0) = true := by
   have em : makeW w 6 w.Shocks[i].Number 0 = ⟨w.Now, w.Posts, w.Shocks.set i ⟨w.Shocks[i].Number, 2, w.Shocks[i].Seen, w.Shocks[i].Size, w.Shocks[i].Tick⟩, w.Next, w.Archived⟩ := by
     simp [makeW, hs, shAt_get hi, chgX]
   rw [em]
   refine wB_of ⟨W.now, W.next, W.arch, W.posts, W.plen, fun y hy => ?_, ?_, W.pasc, ?_⟩
   · rcases List.mem_or_eq_of_mem_set hy with h1 | h1
     · exact W.shocks y h1
     · subst h1
       exact shockB_iff.2 ⟨hsb.1, by simp, hsb.2.2.1, hsb.2.2.2.1, .inl (by simp), hsb.2.2.2.2.2⟩
   · simp only [List.length_set]; exact W.slen
   · have hmap : ((w.Shocks.set i ⟨w.Shocks[i].Number, 2, w.Shocks[i].Seen, w.Shocks[i].Size, w.Shocks[i].Tick⟩).map Shock.Number) = w.Shocks.map Shock.Number := by
       rw [List.map_set]
       have : (w.Shocks.map Shock.Number)[i]'(by simpa using hi) = w.Shocks[i].Number := by simp
       simp only
       rw [← this, List.set_getElem_self]
     simp only [hmap]
     exact W.sasc
 exact ⟨makeW w 6 w.Shocks[i].Number 0, by unfold stepW doneW; rw [h, hw, hm, hk]; rfl⟩
end Go.Proofs
end
section
set_option maxRecDepth 100000
set_option maxHeartbeats 1000000
namespace Go.Proofs
open Go.Lv
def ldP (L : List Post) (o : Option Nat) (p : Post) : Bool := match o with
 | none => true
 | some b => match L[b]? with
   | some q => decide (p.Since < q.Since)
   | none => true
def ld (L : List Post) : Nat → Option Nat
 | 0 => none
 | i + 1 => match L[i]? with
   | none => ld L i
   | some p => if p.Up = false ∧ ldP L (ld L i) p = true then some i else ld L i
theorem ld_lt {L : List Post} : ∀ {i b : Nat}, ld L i = some b → b < i ∧ b < L.length
 | 0, _, h => by simp [ld] at h
 | i + 1, b, h => by
   unfold ld at h
   split at h
   · have := ld_lt h; omega
   · rename_i r hr
     split at h
     · simp at h; subst h
       exact ⟨by omega, (List.getElem?_eq_some_iff.1 hr).1⟩
     · have := ld_lt h; omega
theorem ld_succ {L : List Post} {i : Nat} (hi : i < L.length) : ld L (i + 1) = if L[i].Up = false ∧ ldP L (ld L i) L[i] = true then some i else ld L i := by
 rw [ld, List.getElem?_eq_getElem hi]
def ldI (o : Option Nat) : Int := match o with
 | none => -1
 | some b => b
def longR (w : Watch) : List V := if wB w = true then
   match ld w.Posts w.Posts.length with
   | none => [.int .i64 0, .int .i64 0, .bool false]
   | some b => match w.Posts[b]? with
     | some p => [.int .i64 p.Station, .int .i64 (w.Now - p.Since), .bool true]
     | none => [.int .i64 0, .int .i64 0, .bool false]
 else [.int .i64 0, .int .i64 0, .bool false]
theorem longR_no {w : Watch} (h : ld w.Posts w.Posts.length = none) : V.tup [.int .i64 0, .int .i64 0, .bool false] = .tup (longR w) := by
 unfold longR; rw [h]; split <;> rfl
theorem longR_some {w : Watch} (hw : wB w = true) {b : Nat} (hb : b < w.Posts.length) (h : ld w.Posts w.Posts.length = some b) : V.tup [.int .i64 w.Posts[b].Station, .int .i64 (w.Now - w.Posts[b].Since), .bool true] = .tup (longR w) := by
 unfold longR; rw [h, if_pos hw]; simp [hb]
def ldSt (L : List Post) (o : Option Nat) : Int := match o with
 | none => 0
 | some b => match L[b]? with
   | some p => p.Station
   | none => 0
def ldMost (w : Watch) (o : Option Nat) : Int := match o with
 | none => -1
 | some b => match w.Posts[b]? with
   | some p => w.Now - p.Since
   | none => -1
theorem iLongestDown_ok (w : Watch) (hp : w.Posts.length ≤ 16777216) (hs : w.Shocks.length ≤ 16777216) : Ctr Tryd.prog 35 [w.v] [] (.tup (longR w)) [] := by
 refine Ctr.intro Tryd.mixed Tryd.func35 rfl Tryd.okF35 ?_
 simp -implicitDefEqProofs -dsimp only [go_sem, Tryd.ntmps35, Tryd.results35]
 simp -implicitDefEqProofs -dsimp only [go_sem, Watch.v]
 cases h : wB w with
 | false => repeat' (first | exact WeakR.refl _ _ _ | (refine WeakR.drop' ?_ (by rfl); first | rfl | (simp [h, longR, *]; done)) | ((first | refine callT.at (iIsWatch_ok w (by omega) (by omega)) ⟨leA, trivial⟩ ?_ | refine callS.at (iIsWatch_ok w (by omega) (by omega)) ⟨leA, trivial⟩ ?_); simp -implicitDefEqProofs -dsimp only [go_sem, h, longR, *]) | (refine guardT.splitT (fun _ => ?_) (fun _ => ?_) <;> simp -implicitDefEqProofs -dsimp only [go_sem, h, longR, *]) | (refine guardT.splitF (fun _ => ?_) (fun _ => ?_) <;> simp -implicitDefEqProofs -dsimp only [go_sem, h, longR, *]) | (refine condT.split (fun _ => ?_) (fun _ => ?_) <;> simp -implicitDefEqProofs -dsimp only [go_sem, h, longR, *]) | (exfalso; simp_all; done))
 | true =>
   have ok := wB_ok h
   have hnow := ok.now
   repeat (first | ((first | refine callT.at (iIsWatch_ok w (by omega) (by omega)) ⟨leA, trivial⟩ ?_ | refine callS.at (iIsWatch_ok w (by omega) (by omega)) ⟨leA, trivial⟩ ?_); simp -implicitDefEqProofs -dsimp only [go_sem, h]) | (with_reducible refine And.intro (by first | omega | (show drawOk _ = true; kernel_rfl)) ?_; try (repeat1' (first | simp -implicitDefEqProofs -dsimp only [go_sem, h] | simp -dsimp (disch := omega) only [wrap_i64]))))
   refine LoopT.intro (fun i : Nat => i ≤ w.Posts.length) (fun i => ⟨[.undef, .ptr 0 0, .undef, .undef, .undef, .int .i64 (ldSt w.Posts (ld w.Posts i)), .int .i64 (ldMost w (ld w.Posts i)), .undef, .undef, .undef, .undef, .undef, .undef, .undef, Post.sl w.Posts, .int .i64 w.Posts.length, .int .i64 i, .undef, .undef, .undef, .undef, .undef, .undef, .undef, .undef, .undef, .undef, .undef, .undef, .undef, .undef, .undef, .undef, .undef, .undef, .undef, .undef, .undef, .undef, .undef, .undef], [some w.cs], 0⟩) (fun i => w.Posts.length - i) 0 (Nat.zero_le _) ?_ (fun i hi => ?_)
   · refine Weak.cut (1) (by simp) (by simp) ?_ ?_
     · simp [LeC, LeV, ren, cutF, ld, ldSt, ldMost]
     · simp [cutH, cutB, ren, Watch.cs]
   simp -implicitDefEqProofs -dsimp only [go_sem, Watch.cs]
   refine condT.split (fun h1 => ?_) (fun h1 => ?_)
   · simp -implicitDefEqProofs -dsimp only [go_sem, h1]
     have hi' : i < w.Posts.length := by simpa using h1
     have h5 := Post.csl w.Posts[i]
     have hr := rows_at Post.csl hi'
     have hvi := postB_iff.1 (ok.posts _ (List.getElem_mem hi'))
     (repeat ((repeat1' (first | simp -implicitDefEqProofs -dsimp only [go_sem, hr, Post.cs, Watch.cs] | simp -dsimp (disch := omega) only [wrap_i64])); repeat (with_reducible refine sideA ?_)))
     have step : ∀ o, ld w.Posts (i + 1) = o → True := fun _ _ => trivial
     refine guardT.splitT (fun h2 => ?_) (fun h2 => ?_) <;> (repeat ((repeat1' (first | simp -implicitDefEqProofs -dsimp only [go_sem, h2, Post.cs, Watch.cs] | simp -dsimp (disch := omega) only [wrap_i64])); repeat (with_reducible refine sideA ?_)))
     · have hup : w.Posts[i].Up = false := by simpa using h2
       refine condT.split (fun h3 => ?_) (fun h3 => ?_) <;> (repeat ((repeat1' (first | simp -implicitDefEqProofs -dsimp only [go_sem, h3, Post.cs, Watch.cs] | simp -dsimp (disch := omega) only [wrap_i64])); repeat (with_reducible refine sideA ?_)))
       · have e : ld w.Posts (i + 1) = some i := by
           rw [ld_succ hi', if_pos]
           refine ⟨hup, ?_⟩
           simp at h3
           cases ho : ld w.Posts i with
           | none => rfl
           | some b =>
             have hb := ld_lt ho
             rw [ho] at h3
             simp [ldMost, hb.2] at h3
             simp [ldP, hb.2]; omega
         refine ⟨i + 1, hi', ?_, by omega⟩
         refine Weak.cut (1) (by simp) (by simp) ?_ ?_
         · rw [e]
           simp [LeC, LeV, ren, cutF, ldSt, ldMost, hi']
         · simp [cutH, cutB, ren, Watch.cs]
       · have e : ld w.Posts (i + 1) = ld w.Posts i := by
           rw [ld_succ hi', if_neg]
           rintro ⟨_, hq⟩
           simp at h3
           cases ho : ld w.Posts i with
           | none => rw [ho] at h3; simp [ldMost] at h3; omega
           | some b =>
             have hb := ld_lt ho
             rw [ho] at h3 hq
             simp [ldMost, hb.2] at h3
             simp [ldP, hb.2] at hq; omega
         refine ⟨i + 1, hi', ?_, by omega⟩
         refine Weak.cut (1) (by simp) (by simp) ?_ ?_
         · rw [e]
           simp [LeC, LeV, ren, cutF]
         · simp [cutH, cutB, ren, Watch.cs]
     · have e : ld w.Posts (i + 1) = ld w.Posts i := by
         rw [ld_succ hi', if_neg]
         rintro ⟨hq, _⟩
         simp [hq] at h2
       refine ⟨i + 1, hi', ?_, by omega⟩
       refine Weak.cut (1) (by simp) (by simp) ?_ ?_
       · rw [e]
         simp [LeC, LeV, ren, cutF]
       · simp [cutH, cutB, ren, Watch.cs]
   · simp -implicitDefEqProofs -dsimp only [go_sem, h1]
     have hi' : i = w.Posts.length := by simp at h1; omega
     subst hi'
     cases ho : ld w.Posts w.Posts.length with
     | none =>
       simp -implicitDefEqProofs -dsimp only [go_sem, ldMost, ldSt]
       exact WeakR.drop' (longR_no ho) (by rfl)
     | some b =>
       have hb := (ld_lt ho).2
       have hvi := postB_iff.1 (ok.posts _ (List.getElem_mem hb))
       have e1 : ldMost w (some b) = w.Now - w.Posts[b].Since := by simp [ldMost, hb]
       have e2 : ldSt w.Posts (some b) = w.Posts[b].Station := by simp [ldSt, hb]
       have e3 : decide (w.Now - w.Posts[b].Since < 0) = false := decide_eq_false (by omega)
       simp -implicitDefEqProofs -dsimp only [go_sem, e1, e2, e3]
       exact WeakR.drop' (longR_some h hb ho) (by rfl)
theorem sLongestDown_ok (w : Watch) (hp : w.Posts.length ≤ 16777216) (hs : w.Shocks.length ≤ 16777216) : Ctr Tryd.prog 36 [w.v] [] (.tup (longR w)) [] := by
 refine Ctr.intro Tryd.mixed Tryd.func36 rfl Tryd.okF36 ?_
 simp -implicitDefEqProofs -dsimp only [go_sem, Tryd.ntmps36, Tryd.results36]
 simp -implicitDefEqProofs -dsimp only [go_sem, Watch.v]
 cases h : wB w with
 | false => repeat' (first | exact WeakR.refl _ _ _ | (refine WeakR.drop' ?_ (by rfl); first | rfl | (simp [h, longR, *]; done)) | ((first | refine callT.at (l25Good_ok w (by omega) (by omega)) ⟨leA, trivial⟩ ?_ | refine callS.at (l25Good_ok w (by omega) (by omega)) ⟨leA, trivial⟩ ?_); simp -implicitDefEqProofs -dsimp only [go_sem, h, longR, *]) | (refine guardT.splitT (fun _ => ?_) (fun _ => ?_) <;> simp -implicitDefEqProofs -dsimp only [go_sem, h, longR, *]) | (refine guardT.splitF (fun _ => ?_) (fun _ => ?_) <;> simp -implicitDefEqProofs -dsimp only [go_sem, h, longR, *]) | (refine condT.split (fun _ => ?_) (fun _ => ?_) <;> simp -implicitDefEqProofs -dsimp only [go_sem, h, longR, *]) | (exfalso; simp_all; done))
 | true =>
   have ok := wB_ok h
   have hnow := ok.now
   repeat (first | ((first | refine callT.at (l25Good_ok w (by omega) (by omega)) ⟨leA, trivial⟩ ?_ | refine callS.at (l25Good_ok w (by omega) (by omega)) ⟨leA, trivial⟩ ?_); simp -implicitDefEqProofs -dsimp only [go_sem, h]) | (with_reducible refine And.intro (by first | omega | (show drawOk _ = true; kernel_rfl)) ?_; try (repeat1' (first | simp -implicitDefEqProofs -dsimp only [go_sem, h] | simp -dsimp (disch := omega) only [wrap_i64]))))
   refine LoopT.intro (fun i : Nat => i ≤ w.Posts.length) (fun i => ⟨[.undef, .ptr 0 0, .undef, .undef, .undef, .int .i64 (ldI (ld w.Posts i)), .int .i64 i, .undef, .undef, .undef, .undef, .undef, .undef, .undef, .undef, .undef, .undef, .undef, .undef, .undef, .undef, .undef, .undef, .undef, .undef, .undef, .undef, .undef, .undef, .undef, .undef, .undef, .undef, .undef, .undef, .undef, .undef, .undef, .undef, .undef, .undef, .undef, .undef, .undef, .undef, .undef, .undef, .undef, .undef, .undef, .undef, .undef, .undef, .undef, .undef, .undef, .undef, .undef, .undef, .undef, .undef], [some w.cs], 0⟩) (fun i => w.Posts.length - i) 0 (Nat.zero_le _) ?_ (fun i hi => ?_)
   · refine Weak.cut (1) (by simp) (by simp) ?_ ?_
     · simp [LeC, LeV, ren, cutF, ld, ldI]
     · simp [cutH, cutB, ren, Watch.cs]
   simp -implicitDefEqProofs -dsimp only [go_sem, Watch.cs]
   refine condT.split (fun h1 => ?_) (fun h1 => ?_)
   · simp -implicitDefEqProofs -dsimp only [go_sem, h1]
     have hi' : i < w.Posts.length := by simpa using h1
     have h5 := Post.csl w.Posts[i]
     have hr := rows_at Post.csl hi'
     have keep : w.Posts[i].Up = true → ld w.Posts (i + 1) = ld w.Posts i := by
       intro hq
       rw [ld_succ hi', if_neg]
       rintro ⟨h, _⟩
       simp [hq] at h
     cases ho : ld w.Posts i with
     | none =>
       have e0 : ldI none = -1 := rfl
       rw [e0]
       (repeat ((repeat1' (first | simp -implicitDefEqProofs -dsimp only [go_sem, hr, Post.cs, Watch.cs] | simp -dsimp (disch := omega) only [wrap_i64])); repeat (with_reducible refine sideA ?_)))
       refine guardT.splitT (fun h2 => ?_) (fun h2 => ?_) <;> (repeat ((repeat1' (first | simp -implicitDefEqProofs -dsimp only [go_sem, h2, hr, Post.cs, Watch.cs] | simp -dsimp (disch := omega) only [wrap_i64])); repeat (with_reducible refine sideA ?_)))
       · have hup : w.Posts[i].Up = false := by simpa using h2
         have e : ld w.Posts (i + 1) = some i := by
           rw [ld_succ hi', if_pos]
           exact ⟨hup, by rw [ho]; rfl⟩
         refine ⟨i + 1, hi', ?_, by omega⟩
         refine Weak.cut (1) (by simp) (by simp) ?_ ?_
         · rw [e]
           simp [LeC, LeV, ren, cutF, ldI]
         · simp [cutH, cutB, ren, Watch.cs]
       · have e : ld w.Posts (i + 1) = none := by rw [keep (by simpa using h2), ho]
         refine ⟨i + 1, hi', ?_, by omega⟩
         refine Weak.cut (1) (by simp) (by simp) ?_ ?_
         · rw [e]
           simp [LeC, LeV, ren, cutF, ldI]
         · simp [cutH, cutB, ren, Watch.cs]
     | some b =>
       have hb := ld_lt ho
       have hrb := rows_at Post.csl hb.2
       have h6 := Post.csl w.Posts[b]
       have e0 : ldI (some b) = (b : Int) := rfl
       have e3 : decide ((b : Int) < 0) = false := decide_eq_false (by omega)
       rw [e0]
       (repeat ((repeat1' (first | simp -implicitDefEqProofs -dsimp only [go_sem, hr, Post.cs, Watch.cs] | simp -dsimp (disch := omega) only [wrap_i64])); repeat (with_reducible refine sideA ?_)))
       refine guardT.splitT (fun h2 => ?_) (fun h2 => ?_) <;> (repeat ((repeat1' (first | simp -implicitDefEqProofs -dsimp only [go_sem, h2, e3, hr, hrb, Post.cs, Watch.cs] | simp -dsimp (disch := omega) only [wrap_i64])); repeat (with_reducible refine sideA ?_)))
       · have hup : w.Posts[i].Up = false := by simpa using h2
         refine condT.split (fun h3 => ?_) (fun h3 => ?_) <;> (repeat ((repeat1' (first | simp -implicitDefEqProofs -dsimp only [go_sem, h3, hr, hrb, Post.cs, Watch.cs] | simp -dsimp (disch := omega) only [wrap_i64])); repeat (with_reducible refine sideA ?_)))
         · have e : ld w.Posts (i + 1) = some i := by
             rw [ld_succ hi', if_pos]
             exact ⟨hup, by rw [ho]; simpa [ldP, hb.2] using h3⟩
           refine ⟨i + 1, hi', ?_, by omega⟩
           refine Weak.cut (1) (by simp) (by simp) ?_ ?_
           · rw [e]
             simp [LeC, LeV, ren, cutF, ldI]
           · simp [cutH, cutB, ren, Watch.cs]
         · have e : ld w.Posts (i + 1) = some b := by
             rw [ld_succ hi', if_neg, ho]
             rintro ⟨_, hq⟩
             rw [ho] at hq
             simp [ldP, hb.2] at hq
             simp at h3
             omega
           refine ⟨i + 1, hi', ?_, by omega⟩
           refine Weak.cut (1) (by simp) (by simp) ?_ ?_
           · rw [e]
             simp [LeC, LeV, ren, cutF, ldI]
           · simp [cutH, cutB, ren, Watch.cs]
       · have e : ld w.Posts (i + 1) = some b := by rw [keep (by simpa using h2), ho]
         refine ⟨i + 1, hi', ?_, by omega⟩
         refine Weak.cut (1) (by simp) (by simp) ?_ ?_
         · rw [e]
           simp [LeC, LeV, ren, cutF, ldI]
         · simp [cutH, cutB, ren, Watch.cs]
   · simp -implicitDefEqProofs -dsimp only [go_sem, h1]
     have hi' : i = w.Posts.length := by simp at h1; omega
     subst hi'
     cases ho : ld w.Posts w.Posts.length with
     | none =>
       have e0 : ldI none = -1 := rfl
       rw [e0]
       simp -implicitDefEqProofs -dsimp only [go_sem]
       exact WeakR.drop' (longR_no ho) (by rfl)
     | some b =>
       have hb := (ld_lt ho).2
       have hvi := postB_iff.1 (ok.posts _ (List.getElem_mem hb))
       have hrb := rows_at Post.csl hb
       have h6 := Post.csl w.Posts[b]
       have e3 : decide ((b : Int) < 0) = false := decide_eq_false (by omega)
       have e0 : ldI (some b) = (b : Int) := rfl
       rw [e0]
       (repeat ((repeat1' (first | simp -implicitDefEqProofs -dsimp only [go_sem, e3, hrb, Post.cs, Watch.cs] | simp -dsimp (disch := omega) only [wrap_i64])); repeat (with_reducible refine sideA ?_)))
       exact WeakR.drop' (longR_some h hb ho) (by rfl)
end Go.Proofs
end
section
set_option maxRecDepth 100000
set_option maxHeartbeats 1000000
namespace Go.Proofs
open Go.Lv
theorem ld_down {L : List Post} : ∀ {i b : Nat}, ld L i = some b → ∃ h : b < L.length, L[b].Up = false
 | 0, _, h => by simp [ld] at h
 | i + 1, b, h => by
   unfold ld at h
   split at h
   · exact ld_down h
   · rename_i r hr
     split at h
     · rename_i hc
       simp at h; subst h
       obtain ⟨hi, e⟩ := List.getElem?_eq_some_iff.1 hr
       exact ⟨hi, by rw [e]; exact hc.1⟩
     · exact ld_down h
theorem ld_none {L : List Post} : ∀ {i : Nat}, ld L i = none → ∀ j (hj : j < L.length), j < i → L[j].Up = true
 | 0, _, j, hj, h => by omega
 | i + 1, h, j, hj, hji => by
   unfold ld at h
   split at h
   · rename_i hr
     have : L.length ≤ i := by simpa using hr
     exact ld_none h j hj (by omega)
   · rename_i r hr
     split at h
     · cases h
     · rename_i hc
       by_cases e : j = i
       · subst e
         rw [List.getElem?_eq_getElem hj] at hr
         have hr := Option.some.inj hr
         rw [h] at hc
         simp only [ldP, and_true] at hc
         rw [hr]
         simpa using hc
       · exact ld_none h j hj (by omega)
theorem up_all {L : List Post} (h : ∀ x ∈ L, x.Up = true) : (upTo L L.length).length = L.length := by
 rw [upTo, List.take_length, List.length_map, List.filter_eq_self.2 h]
theorem up_less {L : List Post} {b : Nat} (hb : b < L.length) (h : L[b].Up = false) : (upTo L L.length).length < L.length := by
 rw [upTo, List.take_length, List.length_map]
 refine Nat.lt_of_le_of_ne (List.length_filter_le _ _) fun e => ?_
 have := (List.length_filter_eq_length_iff.1 e) _ (List.getElem_mem hb)
 rw [h] at this
 cases this
theorem pasc_eq {w : Watch} (W : WatchOk w) {i j : Nat} (hi : i < w.Posts.length) (hj : j < w.Posts.length) (h : w.Posts[i].Station = w.Posts[j].Station) : i = j := by
 have P := W.pasc
 rw [List.pairwise_iff_getElem] at P
 rcases Nat.lt_trichotomy i j with c | c | c
 · have := P i j (by simpa using hi) (by simpa using hj) c
   simp only [List.getElem_map] at this
   omega
 · exact c
 · have := P j i (by simpa using hj) (by simpa using hi) c
   simp only [List.getElem_map] at this
   omega
theorem long_facts (w : Watch) : ∃ (st tk : Int) (kn : Bool), longR w = [.int .i64 st, .int .i64 tk, .bool kn] ∧ kn = (wB w && decide ((upTo w.Posts w.Posts.length).length < w.Posts.length)) ∧ (kn = true → 0 ≤ tk ∧ st ∉ upTo w.Posts w.Posts.length) := by
 cases hw : wB w with
 | false => exact ⟨0, 0, false, by simp [longR, hw], by simp, (fun h => by cases h)⟩
 | true =>
   have W := wB_ok hw
   cases hl : ld w.Posts w.Posts.length with
   | none =>
     refine ⟨0, 0, false, by simp [longR, hl], ?_, (fun h => by cases h)⟩
     have := up_all (L := w.Posts) fun x hx => by
       obtain ⟨j, hj, rfl⟩ := List.getElem_of_mem hx
       exact ld_none hl j hj hj
     simp [this]
   | some b =>
     obtain ⟨hb, hd⟩ := ld_down hl
     refine ⟨w.Posts[b].Station, w.Now - w.Posts[b].Since, true, by simp [longR, hw, hl, hb], ?_, fun _ => ⟨?_, fun hm => ?_⟩⟩
     · simp [up_less hb hd]
     · have := postB_iff.1 (W.posts _ (List.getElem_mem hb))
       omega
     · rw [upTo, List.take_length] at hm
       obtain ⟨q, hq, e⟩ := List.mem_map.1 hm
       obtain ⟨hq1, hq2⟩ := List.mem_filter.1 hq
       obtain ⟨j, hj, rfl⟩ := List.getElem_of_mem hq1
       have := pasc_eq W hj hb e
       subst this
       rw [hd] at hq2
       cases hq2
end Go.Proofs
end
section
namespace Go.Lv

def num (n : Int) : ByteArray := ⟨(Lib.itoa n).toArray⟩
theorem num_size {n : Int} (h : i64R n) : (num n).size ≤ 21 := by
 have := Lib.itoa_length_le n h.1 h.2
 simpa [num, ByteArray.size] using this
theorem num_size' {n : Int} (h0 : -9223372036854775808 ≤ n) (h1 : n ≤ 9223372036854775807) : (num n).size ≤ 21 := num_size ⟨h0, h1⟩
theorem ba_size (l : Array UInt8) : (ByteArray.mk l).size = l.size := rfl
theorem ba_add (x y : Array UInt8) : (ByteArray.mk x ++ ByteArray.mk y) = ByteArray.mk (x ++ y) := by
 apply ByteArray.ext
 simp
def digits : ByteArray := ⟨#[48, 49, 50, 51, 52, 53, 54, 55, 56, 57]⟩
theorem digit_at (d : Nat) (h : d < 10) : digits.extract d (d + 1) = ⟨#[UInt8.ofNat (48 + d)]⟩ := by
 apply ByteArray.ext
 rw [ByteArray.data_extract]
 match d, h with
 | 0, _ => decide
 | 1, _ => decide
 | 2, _ => decide
 | 3, _ => decide
 | 4, _ => decide
 | 5, _ => decide
 | 6, _ => decide
 | 7, _ => decide
 | 8, _ => decide
 | 9, _ => decide
theorem itoa_nat (u : Nat) : Lib.itoa (u : Int) = Lib.decDigits u := by unfold Lib.itoa; rw [if_neg (by omega)]; simp
theorem num_neg {u : Nat} (h : 1 ≤ u) : num (-(u : Int)) = ⟨#[45]⟩ ++ num u := by
 have e : Lib.itoa (-(u : Int)) = 45 :: Lib.decDigits u := by unfold Lib.itoa; rw [if_pos (by omega)]; simp
 unfold num
 rw [e, itoa_nat, ba_add]
 simp
theorem num_one {u : Nat} (h : u < 10) : num u = digits.extract u (u + 1) := by
 rw [digit_at u h]
 unfold num
 rw [itoa_nat, Lib.decDigits, dif_pos h]
theorem num_more {u : Nat} (h : ¬ u < 10) : num u = num ((u / 10 : Nat) : Int) ++ digits.extract (u % 10) (u % 10 + 1) := by
 rw [digit_at (u % 10) (by omega)]
 unfold num
 rw [itoa_nat, itoa_nat, Lib.decDigits, dif_neg h, ba_add]
 simp

end Go.Lv
end
