/-
  A part of the proof: texts put together by a program of the prover. Conditions: none.
-/
import Derived.Test.YtfpkiomipjmabaaGreatDoorZC9
import Derived.Test.YtfpkiomipjmabaaGreatDoorZC12
import Derived.Test.YtfpkiomipjmabaaGreatDoorZC13
import Derived.Test.YtfpkiomipjmabaaGreatDoorZC14
import Derived.Test.YtfpkiomipjmabaaGreatDoorZC15
import Derived.Test.YtfpkiomipjmabaaGreatDoorZC16
import Derived.Shelf.RegionOpenPlain
import Derived.WalkKit
import Derived.Deep.LoopGhost
import Derived.Deep.RegionLaw
import Derived.Lib.Walk
import Derived.Sort.WalkB12
import Derived.Lib.SliceRun
import Derived.Deep.Upon
import Derived.Deep.MidRow
import Derived.Laws.IdiomCopy
import Derived.Lib.Hide
set_option linter.unusedSimpArgs false
set_option linter.unusedVariables false
section
set_option maxRecDepth 100000
set_option maxHeartbeats 4000000
namespace Go.Proofs
open Go.Lv
open Go.Shelf Go.RowKit Go.Lib Go.Sort
def uf (C : Array Value) : Nat → List Value → Array Value
 | _, [] => C
 | o, v :: r => uf (C.setIfInBounds o v) (o + 1) r
theorem ou : ∀ (vs : List Value) (C : Array Value) (o : Nat), (uf C o vs).size = C.size
 | [], _, _ => rfl
 | v :: r, C, o => by rw [uf, ou r]; simp
theorem u6 : ∀ (vs : List Value) (C : Array Value) (o k : Nat), (k < o ∨ o + vs.length ≤ k) → (uf C o vs).getD k Go.undef = C.getD k Go.undef
 | [], _, _, _, _ => rfl
 | v :: r, C, o, k, hk => by
   simp only [List.length_cons] at hk
   rw [uf, u6 r _ _ _ (by omega), Array.getD_eq_getD_getElem?, Array.getD_eq_getD_getElem?, Array.getElem?_setIfInBounds_ne (by omega)]
theorem ahg : ∀ (vs : List Value) (C : Array Value) (o j : Nat) (hj : j < vs.length), o + vs.length ≤ C.size → (uf C o vs).getD (o + j) Go.undef = vs[j]
 | v :: r, C, o, 0, _, h => by
   simp only [List.length_cons] at h
   rw [uf, u6 r _ _ _ (by omega), Array.getD_eq_getD_getElem?, Nat.add_zero, Array.getElem?_setIfInBounds_self_of_lt (by omega)]
   rfl
 | v :: r, C, o, j + 1, hj, h => by
   simp only [List.length_cons] at h
   have := ahg r (C.setIfInBounds o v) (o + 1) j (by simpa using hj) (by simp; omega)
   rw [uf, show o + (j + 1) = o + 1 + j by omega, this]
   rfl
theorem sy (b : Nat) : ∀ (vs : List Value) (o : Nat) (w : World) (C : Array Value) (T : TypeId) (fr : Nat × Nat), w.heap[b]? = some (.cells C T fr) → w.setCells b o vs = w.setRow b (uf C o vs)
 | [], _, w, C, T, fr, hb => (setRow_self w b C T fr hb).symm
 | v :: r, o, w, C, T, fr, hb => by
   rw [World.setCells, setCell_eq_setRow w b o C T fr v hb, sy b r (o + 1) _ _ T fr (setRow_heap w b C _ T fr hb), setRow_setRow]
   rfl
theorem aet {P : Program} (w : World) (t e ty : TypeId) (z : Value) (ht : P.underlying t = some (.slice e)) (hv : ∀ w, (zeroValue e).run P w = .ok z w) (h1 : ∀ u ∈ z.cells.toList, u.oneCell' = true) (b o c : Nat)
   (hc : ∀ j, j < z.cells.size → (w.cell? ⟨b, o + j, none⟩).isSome = true) (hf : ∀ j, j < z.cells.size → w.frozen? ⟨b, o + j, none⟩ = false) :
   (Builtin.clear_ #[t] ty #[.slice (some ⟨b, o, none⟩) 1 c]).run P w = .ok (.tuple #[]) (w.setCells b o z.cells.toList) := by
 have hzc : (Builtin.zeroCells z.cells 1).toList = z.cells.toList := by
   simp [Builtin.zeroCells]
   apply List.ext_getElem
   · simp
   · intro i h1 h2
     simp at h1
     simp [Nat.mod_eq_of_lt h1, h1]
 have hst := run_storeCells_cells (P := P) b o z.cells.toList 0 w (by simpa using hc) (by simpa using hf) (by intro v hv'; exact h1 v hv')
 simp only [Nat.add_zero] at hst
 simp [Builtin.clear_, run_underlying ht, hv, hzc, hst]
def er : Value := .agg #[.int .i64 0, .int .i64 0, .int .i64 0, .int .i64 0, .int .i64 0]
theorem ahs (b n cap i : Nat) (C : Array Value) (T : TypeId) (w : World) {fr : Nat × Nat} (hb : w.heap[b]? = some (.cells C T fr)) (hfr : za fr C.size) (hC : cap * 5 ≤ C.size) (hn : n ≤ cap) (hi : i < n) (news : List Value) (hnl : news.length = (n - (i + 1)) * 5)
   (hng : ∀ t, t < (n - (i + 1)) * 5 → news[t]? = some (C.getD ((i + 1) * 5 + t) Go.undef)) (h1 : ∀ u ∈ news, u.oneCell' = true) :
   Calls Tryz.prog 284 #[.slice (some ⟨b, 0, none⟩) n cap, .int .i64 i, .int .i64 ((i : Int) + 1)] w fun e w' =>
     e = .returned (.slice (some ⟨b, 0, none⟩) (n - 1) cap) ∧ w' = ((w.drew).setCells b (i * 5) news).setCells b ((n - 1) * 5) er.cells.toList := by
 have he : ij Tryz.prog 52 = some (128, 5, 40) := by kernel_rfl
 obtain ⟨i0, t81, hi0, hz5, _⟩ := gy he
 have hzv : ∀ w, (zeroValue 128).run Tryz.prog w = .ok er w := by
   have hz : (Tryz.prog.info? 128).bind (·.zero) = some er := by kernel_rfl
   intro w
   rw [hi0] at hz
   simp only [Option.bind_some] at hz
   simp [zeroValue, typeInfo, hi0, hz]
 have hcell : ∀ k, k < C.size → w.cell? ⟨b, k, none⟩ = some (C.getD k Go.undef) := fun k hk => by simp [World.cell?, hb, Array.getD, hk]
 have hfrz : ∀ (k : Nat), k < C.size → w.frozen? ⟨b, k, none⟩ = false := fun k hk => hfr.not hb hk
 obtain ⟨A, hA, hsrc⟩ : ∃ A : Addr, (if cap = i + 1 then some (⟨b, 0, none⟩ : Addr) else some ⟨b, (i + 1) * 5, none⟩) = some A ∧ Hid (∀ t u, news[t]? = some u → w.drew.cell? (A.add t) = some u) := by
   by_cases h : cap = i + 1
   · refine ⟨⟨b, 0, none⟩, by simp [h], fun t u hu => ?_⟩
     have h0 : news.length = 0 := by rw [hnl]; omega
     rw [List.length_eq_zero_iff.1 h0] at hu
     simp at hu
   · refine ⟨⟨b, (i + 1) * 5, none⟩, by simp [h], fun t u hu => ?_⟩
     have ht : t < (n - (i + 1)) * 5 := by
       have := (List.getElem?_eq_some_iff.1 hu).1
       rwa [hnl] at this
     rw [hng t ht] at hu
     rw [Addr.add_lit]
     exact (hcell ((i + 1) * 5 + t) (by omega)).trans hu
 have s1 : Hid (news.length = (n - (i + 1)) * 5) := hnl
 have s2 : Hid (∀ u ∈ news, u.oneCell' = true) := h1
 have s3 : Hid (∀ t, t < news.length → (w.drew.cell? ⟨b, 0 + i * 5 + t, none⟩).isSome = true ∧ w.drew.frozen? ⟨b, 0 + i * 5 + t, none⟩ = false) := by
   intro t ht
   rw [hnl] at ht
   exact ⟨by show (w.cell? _).isSome = true; rw [hcell _ (by omega)]; rfl, hfrz _ (by omega)⟩
 obtain ⟨W1, hW1⟩ : ∃ W1, W1 = w.drew.setCells b (i * 5) news := ⟨_, rfl⟩
 have hsome : ∀ k, k < C.size → (W1.cell? ⟨b, k, none⟩).isSome = true := fun k hk => by
   rw [hW1]
   exact World.isSome_setCells b news _ w.drew _ (by show (w.cell? _).isSome = true; rw [hcell k hk]; rfl)
 have hcl : ∀ ty, (Builtin.clear_ #[52] ty #[.slice (some ⟨b, (i + (n - (i + 1))) * 5, none⟩) (n - (i + (n - (i + 1)))) (cap - (i + (n - (i + 1))))]).run Tryz.prog W1 = .ok (.tuple #[]) (W1.setCells b ((i + (n - (i + 1))) * 5) er.cells.toList) := by
   intro ty
   have e1 : n - (i + (n - (i + 1))) = 1 := by omega
   rw [e1]
   refine aet W1 _ _ ty er t81 hzv (by decide) b _ _ (fun j hj => hsome _ ?_) (fun j hj => ?_)
   · have : j < 5 := hj
     omega
   · rw [hW1, World.frozen?_setCells]
     have : j < 5 := hj
     exact hfrz _ (by omega)
 obtain ⟨zc, hzc⟩ : ∃ zc, zc = er.cells.toList := ⟨_, rfl⟩
 rw [← hzc] at hcl
 have Z : Aside (zc = er.cells.toList) := hzc
 have X : Aside (W1 = w.drew.setCells b (i * 5) news) := hW1
 have hW : Hid (W1 = w.drew.setCells b (0 + i * 5) news) := by rw [Nat.zero_add]; exact hW1
 have hic : i ≤ cap := by omega
 have hjc : i + 1 ≤ cap := by omega
 have hz5' : Hid (i0.size = 5) := hz5
 have mixed := Tryz.mixed
 have hb1 : (0 : Int) ≤ (i : Int) + 1 ∧ (i : Int) + 1 ≤ (n : Int) := by omega
 have hb2 : (0 : Int) ≤ (i : Int) + 1 := by omega
 have hb3 : (i : Int) + 1 ≤ (n : Int) := by omega
 clear hzc hzv hW1 hnl hng h1 hcell hfrz hfr hb hsome
 go_enter Tryz.func284, Tryz.ntmps284
 go_wp2_with fail
 go_region_law_o (refine step_append_room rfl (.tmp 22) (.tmp 25) 52 rfl 128 i0 5 t81 hi0 hz5'.out b 0 i cap (by simp [Act.eval, Act.put]) A (n - (i + 1)) (cap - (i + 1)) news (by simp [Act.eval, Act.put]) s1.out hsrc.out s2.out (by omega) s3.out ?_; rw [← hW.out])
 go_wp2
 go_ret
 have e1 : i + (n - (i + 1)) = n - 1 := by omega
 refine ⟨?_, ?_⟩
 · rw [e1]
   rfl
 · rw [e1, X.out, Z.out]
theorem aik (L : List an) (i : Nat) (hi : i < L.length) : Ctr Tryz.prog 284 [.osl 0 0 L.length 5, .int .i64 i, .int .i64 ((i : Int) + 1)] [some (rows an.cs L)] (.osl 0 0 (L.length - 1) 5)
   [some (rows an.cs (L.take i ++ L.drop (i + 1)) ++ [.int .i64 0, .int .i64 0, .int .i64 0, .int .i64 0, .int .i64 0])] := by
 refine Ctr.raw (by kernel_rfl) (fun w vs m av I hs => ?_)
 obtain ⟨n, hn⟩ : ∃ n, n = L.length := ⟨_, rfl⟩
 have hlen : (rows an.cs L).length = n * 5 := by rw [ft, hn]
 have h0 := I.slots 0 (by simp)
 have h1 := I.slots 1 (by simp)
 have h2 := I.slots 2 (by simp)
 dsimp only [List.getElem_cons_zero, List.getElem_cons_succ] at h0 h1 h2
 have e1 := rm h1
 have e2 := rm h2
 obtain ⟨v0, hv0⟩ : ∃ v0, v0 = vs.getD 0 Go.undef := ⟨_, rfl⟩
 rw [← hv0] at h0
 have hvs : vs = #[v0, .int .i64 i, .int .i64 ((i : Int) + 1)] := by
   have hsz : vs.size = 3 := hs
   apply Array.ext
   · simpa using hsz
   · intro k hk hk'
     have hk3 : k < 3 := by omega
     have hg : vs[k] = vs.getD k Go.undef := by simp [Array.getD, hk]
     rw [hg]
     rcases (show k = 0 ∨ k = 1 ∨ k = 2 by omega) with rfl | rfl | rfl
     · exact hv0.symm
     · exact e1
     · exact e2
 cases h0 with
 | osl _ _ _ cap _ cs hid hl hc hsz =>
   have hcs : cs = rows an.cs L := by
     have := hid.1
     simpa using this.symm
   subst hcs
   rcases I.rh.blk 0 _ hid.1 with ⟨C, T, fr, hb, hfr, hle, hr⟩ | ⟨E, c, es, hb, hmb, _⟩
   rotate_left
   · have := hid.2
     rw [hmb] at this
     cases this
   have hrow : cz w (m 0) = C.size := by simp [cz, hb]
   rw [hrow] at hsz
   rw [← hn] at hc hi ⊢
   obtain ⟨news, hnews⟩ : ∃ news : List Value, news = (List.range ((n - (i + 1)) * 5)).map fun t => C.getD ((i + 1) * 5 + t) Go.undef := ⟨_, rfl⟩
   have hnl : news.length = (n - (i + 1)) * 5 := by rw [hnews]; simp
   have hng : ∀ t, t < (n - (i + 1)) * 5 → news[t]? = some (C.getD ((i + 1) * 5 + t) Go.undef) := fun t ht => by rw [hnews]; simp [ht]
   have hcellAll := bb (cs := an.cs) L
   have h1c : ∀ u ∈ news, u.oneCell' = true := by
     intro u hu
     rw [hnews] at hu
     obtain ⟨t, ht, rfl⟩ := List.mem_map.1 hu
     have ht' := List.mem_range.1 ht
     have hk : (i + 1) * 5 + t < (rows an.cs L).length := by rw [hlen]; omega
     exact (ahy (hr _ hk) (List.all_eq_true.1 hcellAll _ (List.getElem_mem hk))).1
   rw [hvs, ← hn]
   refine (ahs (m 0) n cap i C T w hb hfr (by omega) hc hi news hnl hng h1c).mono ?_
   rintro e w' ⟨rfl, rfl⟩
   have hbd : w.drew.heap[m 0]? = some (.cells C T fr) := hb
   have hw : ((w.drew).setCells (m 0) (i * 5) news).setCells (m 0) ((n - 1) * 5) er.cells.toList = w.drew.setRow (m 0) (uf (uf C (i * 5) news) ((n - 1) * 5) er.cells.toList) := by
     rw [sy (m 0) news _ w.drew C T _ hbd, sy (m 0) _ _ _ _ T _ (setRow_heap w.drew (m 0) C _ T _ hbd), setRow_setRow]
   rw [hw]
   have I1 := I.world (Ext.drew _ w)
   have hz5 : er.cells.toList.length = 5 := rfl
   have hcut : rows an.cs (L.take i ++ L.drop (i + 1)) = (rows an.cs L).take (i * 5) ++ (rows an.cs L).drop ((i + 1) * 5) := by rw [cu, af9 an.csl, wa an.csl]
   have hl1 : ((rows an.cs L).take (i * 5)).length = i * 5 := by rw [List.length_take, hlen]; omega
   have hl2 : ((rows an.cs L).drop ((i + 1) * 5)).length = (n - (i + 1)) * 5 := by rw [List.length_drop, hlen]; omega
   rw [hcut]
   obtain ⟨J, hstep⟩ := I1.setRow (id := 0) (cs := rows an.cs L) (cs' := (rows an.cs L).take (i * 5) ++ (rows an.cs L).drop ((i + 1) * 5) ++ [.int .i64 0, .int .i64 0, .int .i64 0, .int .i64 0, .int .i64 0])
     (C := C) (C' := uf (uf C (i * 5) news) ((n - 1) * 5) er.cells.toList) (T := T) hid hbd hfr (by rw [ou, ou]) (by simp only [List.length_append, hl1, hl2, hlen, List.length_cons, List.length_nil]; omega) (by simp only [List.length_append, hl1, hl2, ou, List.length_cons, List.length_nil]; omega) (fun k hk => by
       simp only [List.length_append, hl1, hl2, List.length_cons, List.length_nil] at hk
       have hrd : ∀ j (hj : j < (rows an.cs L).length), RV w.drew m [some (rows an.cs L)] (avm av m [some (rows an.cs L)]) true (C.getD j Go.undef) (rows an.cs L)[j] := by
         rcases I1.rh.blk 0 _ hid.1 with ⟨C2, T2, fr2, hb2, _, _, hr2⟩ | ⟨E, c, es, hb2, hmb, _⟩
         · rw [hbd] at hb2
           simp only [Option.some.injEq, Obj.cells.injEq] at hb2
           obtain ⟨rfl, _⟩ := hb2
           exact hr2
         · rw [hbd] at hb2; cases hb2
       rcases Nat.lt_or_ge k (i * 5) with h | h
       · rw [u6 _ _ _ _ (by omega), u6 _ _ _ _ (by omega)]
         have := hrd k (by omega)
         simpa [List.getElem_append, hl1, hl2, h, show k < i * 5 + (n - (i + 1)) * 5 by omega] using this
       · rcases Nat.lt_or_ge k ((n - 1) * 5) with h' | h'
         · rw [u6 _ _ _ _ (by omega)]
           have hj : k - i * 5 < news.length := by omega
           have := ahg news C (i * 5) (k - i * 5) hj (by omega)
           rw [show i * 5 + (k - i * 5) = k by omega] at this
           rw [this]
           have h3 := hng (k - i * 5) (by omega)
           rw [List.getElem?_eq_getElem hj] at h3
           simp only [Option.some.injEq] at h3
           rw [h3]
           have h4 := hrd ((i + 1) * 5 + (k - i * 5)) (by omega)
           have hlt : ¬ k < i * 5 := by omega
           simpa [List.getElem_append, hl1, hl2, hlt, show k < i * 5 + (n - (i + 1)) * 5 by omega, show k - i * 5 < (n - (i + 1)) * 5 by omega] using h4
         · have hj : k - (n - 1) * 5 < er.cells.toList.length := by rw [hz5]; omega
           have := ahg er.cells.toList (uf C (i * 5) news) ((n - 1) * 5) (k - (n - 1) * 5) hj (by rw [ou]; omega)
           rw [show (n - 1) * 5 + (k - (n - 1) * 5) = k by omega] at this
           rw [this]
           have hge : ¬ k < i * 5 + (n - (i + 1)) * 5 := by omega
           have e5 : ∀ q, (hq : q < 5) → ([V.int .i64 0, .int .i64 0, .int .i64 0, .int .i64 0, .int .i64 0] : List V)[q]'(by simpa using hq) = .int .i64 0 := fun q hq => by
             rcases (show q = 0 ∨ q = 1 ∨ q = 2 ∨ q = 3 ∨ q = 4 by omega) with rfl | rfl | rfl | rfl | rfl <;> rfl
           have e6 : ∀ q, (hq : q < 5) → er.cells.toList[q]'(by rw [hz5]; exact hq) = .int .i64 0 := fun q hq => by
             rcases (show q = 0 ∨ q = 1 ∨ q = 2 ∨ q = 3 ∨ q = 4 by omega) with rfl | rfl | rfl | rfl | rfl <;> rfl
           rw [e6 _ (by omega), List.getElem_append_right (by rw [List.length_append, hl1, hl2]; omega), e5 _ (by rw [List.length_append, hl1, hl2]; omega)]
           exact .int _ _)
   refine ⟨_, m, _, _, rfl, ?_, J, ?_⟩
   · rfl
   · have := RV.osl (w := w.drew.setRow (m 0) (uf (uf C (i * 5) news) ((n - 1) * 5) er.cells.toList)) (m := m) (h := [some ((rows an.cs L).take (i * 5) ++ (rows an.cs L).drop ((i + 1) * 5) ++ [.int .i64 0, .int .i64 0, .int .i64 0, .int .i64 0, .int .i64 0])]) (av := avm av m [some ((rows an.cs L).take (i * 5) ++ (rows an.cs L).drop ((i + 1) * 5) ++ [.int .i64 0, .int .i64 0, .int .i64 0, .int .i64 0, .int .i64 0])]) 0 0 (n - 1) cap 5 _ ⟨rfl, ?_⟩ ?_ (by omega) ?_
     · exact this
     · have hlen2 : 5 ≤ ((rows an.cs L).take (i * 5) ++ (rows an.cs L).drop ((i + 1) * 5) ++ [V.int .i64 0,   .int .i64 0, .int .i64 0, .int .i64 0, .int .i64 0]).length := by simp only [List.length_append, List.length_cons, List.length_nil]; omega
       match h : ((rows an.cs L).take (i * 5) ++ (rows an.cs L).drop ((i + 1) * 5) ++ [V.int .i64 0, .int .i64 0, .int .i64 0, .int .i64 0, .int .i64 0]), hlen2 with
       | [], h2 => rfl
       | [x], h2 => simp at h2
       | _ :: _ :: _, _ => rfl
     · simp only [List.length_append, hl1, hl2, List.length_cons, List.length_nil]; omega
     · have : cz (w.drew.setRow (m 0) (uf (uf C (i * 5) news) ((n - 1) * 5) er.cells.toList)) (m 0) = C.size := by
         simp only [cz, setRow_heap w.drew (m 0) C _ T _ hbd, ou]
       rw [this]; omega
end Go.Proofs
end
section
set_option maxRecDepth 100000
set_option maxHeartbeats 1000000
namespace Go.Proofs
open Go.Lv
def z5 : List V := [.int .i64 0, .int .i64 0, .int .i64 0, .int .i64 0, .int .i64 0]
theorem anx (w : ab) (i : Nat) (n v : Int) (hw : wB w = true) (hi : i < w.Shocks.length) : Ctr Tryz.prog 272 [.ptr 0 0, .int .i64 i, .agg [.int .i64 8, .int .i64 n, .int .i64 v]] [some (w.oc 1 2), some (rows az.cs w.Posts), some (rows an.cs w.Shocks)] (.bool (ab8 w w.Shocks[i]))
   [some ((iz w i).oc 1 2), some (rows az.cs w.Posts), some (rows an.cs (w.Shocks.take i ++ w.Shocks.drop (i + 1)) ++ z5)] := by
 have W := dt hw
 have hx := W.shocks _ (List.getElem_mem hi)
 have hb := gq.1 hx
 have hr := bt an.csl hi
 have sl := W.slen
 have hwi : IntKind.i64.wrap ((i : Int) + 1) = (i : Int) + 1 := wrap_i64 (by omega) (by omega)
 have hwa : IntKind.i64.wrap (w.Archived + 1) = w.Archived + 1 := by have := W.arch; exact wrap_i64 (by omega) (by omega)
 have hwn : IntKind.i64.wrap (w.Now - w.Shocks[i].Tick) = w.Now - w.Shocks[i].Tick := by have := W.now; exact wrap_i64 (by omega) (by omega)
 have e : (w.Shocks.take i ++ w.Shocks.drop (i + 1)).length = w.Shocks.length - 1 := by simp; omega
 have hall : (rows an.cs (w.Shocks.take i ++ w.Shocks.drop (i + 1)) ++ z5).all bq = true := by
   rw [List.all_append, bb]; rfl
 have hg : grown [some (rows an.cs w.Shocks)] [some (rows an.cs (w.Shocks.take i ++ w.Shocks.drop (i + 1)) ++ z5)] := by
   refine ⟨⟨?_, by rw [pa hall, k9]⟩, trivial⟩
   rw [List.length_append, ft, ft, e]
   show _ = (w.Shocks.length - 1) * 5 + 5
   omega
 refine Ctr.intro Tryz.mixed Tryz.func272 rfl Tryz.ahn ?_
 simp -implicitDefEqProofs -dsimp only [go_sem, Tryz.ntmps272, Tryz.results272]
 (repeat ((repeat1' (first | simp -implicitDefEqProofs -dsimp only [go_sem, ab.oc, hr, an.cs, hwi] | simp -dsimp (disch := omega) only [wrap_i64])); repeat (with_reducible refine ah ?_)))
 refine aj.qb [2] false ( aik w.Shocks i hi) (by decide) ⟨leO, leO, leO, trivial⟩ rr ( hg) (.inl rfl) ?_
 (repeat ((repeat1' (first | simp -implicitDefEqProofs -dsimp only [go_sem, ab.oc, hwa] | simp -dsimp (disch := omega) only [wrap_i64])); repeat (with_reducible refine ah ?_)))
 clear hall hg
 repeat' (first | (refine a8.bu (fun _ => ?_) (fun _ => ?_) <;> (repeat ((repeat1' (first | simp -implicitDefEqProofs -dsimp only [go_sem, *] | simp -dsimp (disch := omega) only [wrap_i64])); repeat (with_reducible refine ah ?_)))) | (refine a8.ch (fun _ => ?_) (fun _ => ?_) <;> (repeat ((repeat1' (first | simp -implicitDefEqProofs -dsimp only [go_sem, *] | simp -dsimp (disch := omega) only [wrap_i64])); repeat (with_reducible refine ah ?_)))))
 all_goals
   refine al.pick [0, 1, 2] (by decide) (fun j hj => by have hj' : j = 0 ∨ j = 1 ∨ j = 2 := (by omega); rcases hj' with rfl | rfl | rfl <;> rfl) (.inl (by first | rfl | (simp [ren, ab8, *]; done))) ?_
   simp [bc, bh, ren, bg, posOf, ae, ab.oc, iz, z5, *]
   try omega
theorem bj {x y : V} (h : LeV x y := by first | exact leA | exact ab.le rfl rfl | exact ab.leT rfl rfl rfl) : LeV x y := h
theorem ab.leT {h : Hp} {w : ab} {i0 i1 n : Nat} {z : List V} (hn : n = w.Shocks.length) (h0 : h[i0]? = some (some (rows az.cs w.Posts))) (h1 : h[i1]? = some (some (rows an.cs w.Shocks ++ z))) : LeV (ren (eh h 3) 3 (.agg [.int .i64 w.Now, .osl i0 0 w.Posts.length 3, .osl i1 0 n 5, .int .i64 w.Next, .int .i64 w.Archived])) w.v := by
 subst hn
 refine .inl ?_
 have e : ∀ y : List V, (rows an.cs w.Shocks ++ y).take (w.Shocks.length * 5) = rows an.cs w.Shocks := fun y => List.take_left' (ft _)
 simp only [ab.v, ren, List.map_cons, List.map_nil, eh, h0, h1, ae, List.drop_zero, e9, List.map_append, e]
def eg (w : ab) (k n v : Int) : ab := if k = 1 then ⟨w.Now + (if 1000000 < v then 1000000 else v), w.Posts, w.Shocks, w.Next, w.Archived⟩ else ep w k n v
theorem amy (w : ab) (n v : Int) (hw : wB w = true) (hv : 1 ≤ v) : Ctr Tryz.prog 243 [w.v, .agg [.int .i64 1, .int .i64 n, .int .i64 v]] [] (.tup [(eg w 1 n v).o 0 1, .bool (dz w 1 n v)]) [some (rows az.cs w.Posts), some (rows an.cs w.Shocks)] := by
 have W := dt hw
 have pl := W.plen
 have sl := W.slen
 have wn := W.now
 have hw1 : IntKind.i64.wrap (1000000 - w.Now) = 1000000 - w.Now := wrap_i64 (by omega) (by omega)
 have hw2 : IntKind.i64.wrap (w.Now + (if 1000000 < v then 1000000 else v)) = w.Now + (if 1000000 < v then 1000000 else v) := by split <;> exact wrap_i64 (by omega) (by omega)
 have hgood := de (eg w 1 n v) (by simp [eg]; omega) (by simp [eg]; omega)
 have e2 : dz w 1 n v = (decide (v ≤ 1000000 - w.Now) && wB (eg w 1 n v)) := by
   by_cases h : v ≤ 1000000 - w.Now
   · have h2 : ¬ 1000000 < v := by omega
     simp [dz, n4, ep, eg, h, h2]
   · simp [dz, n4, h]
 have e1 : eg w 1 n v = ⟨w.Now + (if 1000000 < v then 1000000 else v), w.Posts, w.Shocks, w.Next, w.Archived⟩ := by simp [eg]
 rw [e2]
 rw [e1] at hgood ⊢
 simp only [ab.v] at hgood
 refine Ctr.intro Tryz.mixed Tryz.func243 rfl Tryz.vk ?_
 simp -implicitDefEqProofs -dsimp only [go_sem, Tryz.ntmps243, Tryz.results243]
 simp -implicitDefEqProofs -dsimp only [go_sem, ab.v]
 (have ct := dc w (by omega) (by omega); (first | refine ak.at ct ⟨bj, trivial⟩ ?_ | refine aj.at ct ⟨bj, trivial⟩ ?_); clear ct)
 (repeat ((repeat1' (first | simp -implicitDefEqProofs -dsimp only [go_sem, ab.o, hw1, hw2] | simp -dsimp (disch := omega) only [wrap_i64])); repeat (with_reducible refine ah ?_)))
 refine a8.bu (fun g => ?_) (fun g => ?_) <;> (repeat ((repeat1' (first | simp -implicitDefEqProofs -dsimp only [go_sem, g] | simp -dsimp (disch := omega) only [wrap_i64])); repeat (with_reducible refine ah ?_)))
 · skip
   (first | refine ak.at (hgood) ⟨bj, trivial⟩ ?_ | refine aj.at (hgood) ⟨bj, trivial⟩ ?_)
   (repeat ((repeat1' (first | simp -implicitDefEqProofs -dsimp only [go_sem, g] | simp -dsimp (disch := omega) only [wrap_i64])); repeat (with_reducible refine ah ?_)))
   refine al.pick [3, 4] (by decide) (fun j hj => by omega) (.inl ?_) ?_
   · first | rfl | (simp [ren, bg, posOf, ab.o, g]; done)
   · simp only [bc, List.map_cons, List.map_nil, bh, List.getElem?_cons_zero, List.getElem?_cons_succ, ae]
 · skip
   refine al.pick [3, 4] (by decide) (fun j hj => by omega) (.inl ?_) ?_
   · first | rfl | (simp [ren, bg, posOf, ab.o, g]; done)
   · simp only [bc, List.map_cons, List.map_nil, bh, List.getElem?_cons_zero, List.getElem?_cons_succ, ae]
theorem anb (w : ab) (k n v : Int) (hk : k = 2 ∨ k = 3) (hw : wB w = true) (hs : df w k n v = true) : Ctr Tryz.prog 243 [w.v, .agg [.int .i64 k, .int .i64 n, .int .i64 v]] [] (.tup [(eg w k n v).o 0 1, .bool (dz w k n v)]) [some (rows az.cs (eg w k n v).Posts), some (rows an.cs w.Shocks)] := by
 have W := dt hw
 have pl := W.plen
 have sl := W.slen
 obtain ⟨i, hi, hix, hin⟩ : ∃ i, ∃ h : i < w.Posts.length, jd (j7 n) w.Posts = (i : Int) ∧ j7 n w.Posts[i] = true := by
   have : decide (0 ≤ jd (j7 n) w.Posts) = true := by
     rcases hk with rfl | rfl <;> simp [df] at hs <;> simp [hs.1]
   exact sj this
 have hst : w.Posts[i].Station = n := by simpa [j7] using hin
 have hp : pAt w n = i := by simp [pAt, hix]
 have e1 : eg w k n v = ⟨w.Now, w.Posts.set i ⟨n, decide (k = 3), w.Now⟩, w.Shocks, w.Next, w.Archived⟩ := by
   rcases hk with rfl | rfl <;> simp [eg, ep, hp]
 have e2 : dz w k n v = (w.Posts[i].Up != decide (k = 3) && wB ⟨w.Now, w.Posts.set i ⟨n, decide (k = 3), w.Now⟩, w.Shocks, w.Next, w.Archived⟩) := by
   rcases hk with rfl | rfl <;> simp [dz, n4, ep, hp, ajq hi]
 have hr := bt az.csl hi
 have hlen : ∀ p, (w.Posts.set i p).length = w.Posts.length := fun p => by simp
 have s1 : ∀ b, ck (rows az.cs w.Posts) (i * 3 + 1) [.bool b] = rows az.cs (w.Posts.set i ⟨n, b, w.Posts[i].Since⟩) := fun b => qi (cs := az.cs) az.csl hi (by omega) (by rw [az.cs, hst.symm]; rfl)
 have s2 : ∀ b, ck (rows az.cs (w.Posts.set i ⟨n, b, w.Posts[i].Since⟩)) (i * 3 + 2) [.int .i64 w.Now] = rows az.cs (w.Posts.set i ⟨n, b, w.Now⟩) := fun b => by
   have h := qi (cs := az.cs) az.csl (L := w.Posts.set i ⟨n, b, w.Posts[i].Since⟩) (j := i) (f := 2) (v := .int .i64 w.Now) (x := ⟨n, b, w.Now⟩) (by simpa using hi) (by omega) (by simp; rfl)
   rwa [List.set_set] at h
 have hrl : ∀ L : List az, (rows az.cs L).length = L.length * 3 := fun L => je az.csl L
 have hgood := de ⟨w.Now, w.Posts.set i ⟨n, decide (k = 3), w.Now⟩, w.Shocks, w.Next, w.Archived⟩ (by simp; omega) (by simp; omega)
 have hroom : i * 3 + 3 ≤ w.Posts.length * 3 := by omega
 rw [e1, e2]
 simp only [ab.v, hlen] at hgood
 simp only [ab.o, hlen]
 rcases hk with rfl | rfl
 · have hd : decide ((2 : Int) = 3) = false := rfl
   rw [hd] at hgood ⊢
   refine Ctr.intro Tryz.mixed Tryz.func243 rfl Tryz.vk ?_
   simp -implicitDefEqProofs -dsimp only [go_sem, Tryz.ntmps243, Tryz.results243]
   simp -implicitDefEqProofs -dsimp only [go_sem, ab.v]
   (have ct := dc w (by omega) (by omega); (first | refine ak.at ct ⟨bj, trivial⟩ ?_ | refine aj.at ct ⟨bj, trivial⟩ ?_); clear ct)
   (repeat ((repeat1' (first | simp -implicitDefEqProofs -dsimp only [go_sem, ab.o] | simp -dsimp (disch := omega) only [wrap_i64])); repeat (with_reducible refine ah ?_)))
   (have ct := o6 w n (by omega); (first | refine ak.at ct ⟨bj, bj, trivial⟩ ?_ | refine aj.at ct ⟨bj, bj, trivial⟩ ?_); clear ct)
   rw [hix]
   (repeat ((repeat1' (first | simp -implicitDefEqProofs -dsimp only [go_sem, hr, az.cs] | simp -dsimp (disch := omega) only [wrap_i64])); repeat (with_reducible refine ah ?_)))
   refine n8.path [true, true, true, true, true, true, true, true, true, true, true, true, true, false, false, false, false] [false, false, false, false, false, true, false, false, false, true, true, false, false, false, false, false, false] 1 [3] (by kernel_rfl) ?_
   (repeat ((repeat1' (first | simp -implicitDefEqProofs -dsimp only [go_sem, hr, az.cs, s1, s2, hrl, hlen, Int.toNat_natCast] | simp -dsimp (disch := omega) only [wrap_i64])); repeat (with_reducible refine ah ?_)))
   refine a8.bu (fun g => ?_) (fun g => ?_) <;> (repeat ((repeat1' (first | simp -implicitDefEqProofs -dsimp only [go_sem, g, s1, s2] | simp -dsimp (disch := omega) only [wrap_i64])); repeat (with_reducible refine ah ?_)))
   · skip
     (first | refine ak.at (hgood) ⟨bj, trivial⟩ ?_ | refine aj.at (hgood) ⟨bj, trivial⟩ ?_)
     (repeat ((repeat1' (first | simp -implicitDefEqProofs -dsimp only [go_sem, g] | simp -dsimp (disch := omega) only [wrap_i64])); repeat (with_reducible refine ah ?_)))
     simp at g
     refine al.pick [3, 4] (by decide) (fun j hj => by omega) (.inl ?_) ?_
     · first | rfl | (simp [ren, bg, posOf, ab.o, g]; done)
     · simp only [bc, List.map_cons, List.map_nil, bh, List.getElem?_cons_zero, List.getElem?_cons_succ, ae]
   · skip
     simp at g
     refine al.pick [3, 4] (by decide) (fun j hj => by omega) (.inl ?_) ?_
     · first | rfl | (simp [ren, bg, posOf, ab.o, g]; done)
     · simp only [bc, List.map_cons, List.map_nil, bh, List.getElem?_cons_zero, List.getElem?_cons_succ, ae]
 · have hd : decide ((3 : Int) = 3) = true := rfl
   rw [hd] at hgood ⊢
   refine Ctr.intro Tryz.mixed Tryz.func243 rfl Tryz.vk ?_
   simp -implicitDefEqProofs -dsimp only [go_sem, Tryz.ntmps243, Tryz.results243]
   simp -implicitDefEqProofs -dsimp only [go_sem, ab.v]
   (have ct := dc w (by omega) (by omega); (first | refine ak.at ct ⟨bj, trivial⟩ ?_ | refine aj.at ct ⟨bj, trivial⟩ ?_); clear ct)
   (repeat ((repeat1' (first | simp -implicitDefEqProofs -dsimp only [go_sem, ab.o] | simp -dsimp (disch := omega) only [wrap_i64])); repeat (with_reducible refine ah ?_)))
   (have ct := o6 w n (by omega); (first | refine ak.at ct ⟨bj, bj, trivial⟩ ?_ | refine aj.at ct ⟨bj, bj, trivial⟩ ?_); clear ct)
   rw [hix]
   (repeat ((repeat1' (first | simp -implicitDefEqProofs -dsimp only [go_sem, hr, az.cs] | simp -dsimp (disch := omega) only [wrap_i64])); repeat (with_reducible refine ah ?_)))
   refine n8.path [true, true, true, true, true, true, true, true, true, true, true, true, true, false, false, false, false] [false, false, false, false, false, true, false, false, false, true, true, false, false, false, false, false, false] 1 [3] (by kernel_rfl) ?_
   (repeat ((repeat1' (first | simp -implicitDefEqProofs -dsimp only [go_sem, hr, az.cs, s1, s2, hrl, hlen, Int.toNat_natCast] | simp -dsimp (disch := omega) only [wrap_i64])); repeat (with_reducible refine ah ?_)))
   refine a8.bu (fun g => ?_) (fun g => ?_) <;> (repeat ((repeat1' (first | simp -implicitDefEqProofs -dsimp only [go_sem, g, s1, s2] | simp -dsimp (disch := omega) only [wrap_i64])); repeat (with_reducible refine ah ?_)))
   · skip
     (first | refine ak.at (hgood) ⟨bj, trivial⟩ ?_ | refine aj.at (hgood) ⟨bj, trivial⟩ ?_)
     (repeat ((repeat1' (first | simp -implicitDefEqProofs -dsimp only [go_sem, g] | simp -dsimp (disch := omega) only [wrap_i64])); repeat (with_reducible refine ah ?_)))
     simp at g
     refine al.pick [3, 4] (by decide) (fun j hj => by omega) (.inl ?_) ?_
     · first | rfl | (simp [ren, bg, posOf, ab.o, g]; done)
     · simp only [bc, List.map_cons, List.map_nil, bh, List.getElem?_cons_zero, List.getElem?_cons_succ, ae]
   · skip
     simp at g
     refine al.pick [3, 4] (by decide) (fun j hj => by omega) (.inl ?_) ?_
     · first | rfl | (simp [ren, bg, posOf, ab.o, g]; done)
     · simp only [bc, List.map_cons, List.map_nil, bh, List.getElem?_cons_zero, List.getElem?_cons_succ, ae]
theorem ap5 (w : ab) : (rf w.Posts w.Posts.length).length = upN w w.Posts.length := by simp [rf, upN]
theorem aof (w : ab) (n v : Int) (hw : wB w = true) : Ctr Tryz.prog 243 [w.v, .agg [.int .i64 4, .int .i64 n, .int .i64 v]] [] (.tup [(eg w 4 n v).o 0 1, .bool (dz w 4 n v)]) [some (rows az.cs w.Posts), some (rows an.cs (eg w 4 n v).Shocks)] := by
 have W := dt hw
 have pl := W.plen
 have sl := W.slen
 have wn := W.next
 have hwn : IntKind.i64.wrap (w.Next + 1) = w.Next + 1 := wrap_i64 (by omega) (by omega)
 obtain ⟨x, hx⟩ : ∃ x : an, x = ⟨w.Next, 0, (upN w w.Posts.length : Int), 0, w.Now⟩ := ⟨_, rfl⟩
 have e1 : eg w 4 n v = ⟨w.Now, w.Posts, w.Shocks ++ [x], w.Next + 1, w.Archived⟩ := by simp [eg, ep, hx]
 have e2 : dz w 4 n v = wB ⟨w.Now, w.Posts, w.Shocks ++ [x], w.Next + 1, w.Archived⟩ := by simp [dz, n4, ep, hx]
 have hsn : rows an.cs w.Shocks ++ [.int .i64 w.Next, .int .i64 0, .int .i64 (upN w w.Posts.length : Int), .int .i64 0, .int .i64 w.Now] = rows an.cs (w.Shocks ++ [x]) := by
   rw [hx]
   exact dk (cs := an.cs) w.Shocks ⟨w.Next, 0, (upN w w.Posts.length : Int), 0, w.Now⟩
 have hln : w.Shocks.length + 1 = (w.Shocks ++ [x]).length := by simp
 have hup := sw w (by omega)
 rw [ap5] at hup
 have hgood := de ⟨w.Now, w.Posts, w.Shocks ++ [x], w.Next + 1, w.Archived⟩ (by simp; omega) (by simp; omega)
 rw [e1, e2]
 refine Ctr.intro Tryz.mixed Tryz.func243 rfl Tryz.vk ?_
 simp -implicitDefEqProofs -dsimp only [go_sem, Tryz.ntmps243, Tryz.results243]
 simp -implicitDefEqProofs -dsimp only [go_sem, ab.v]
 (have ct := dc w (by omega) (by omega); (first | refine ak.at ct ⟨bj, trivial⟩ ?_ | refine aj.at ct ⟨bj, trivial⟩ ?_); clear ct)
 (repeat ((repeat1' (first | simp -implicitDefEqProofs -dsimp only [go_sem, ab.o] | simp -dsimp (disch := omega) only [wrap_i64])); repeat (with_reducible refine ah ?_)))
 (first | refine ak.at (hup) ⟨bj, trivial⟩ ?_ | refine aj.at (hup) ⟨bj, trivial⟩ ?_)
 (repeat ((repeat1' (first | simp -implicitDefEqProofs -dsimp only [go_sem, hwn, hsn, hln] | simp -dsimp (disch := omega) only [wrap_i64])); repeat (with_reducible refine ah ?_)))
 (first | refine ak.at (hgood) ⟨bj, trivial⟩ ?_ | refine aj.at (hgood) ⟨bj, trivial⟩ ?_)
 (repeat ((repeat1' (first | simp -implicitDefEqProofs -dsimp only [go_sem, hsn] | simp -dsimp (disch := omega) only [wrap_i64])); repeat (with_reducible refine ah ?_)))
 refine al.pick [3, 4] (by decide) (fun j hj => by omega) (.inl ?_) ?_
 · first | rfl | (simp [ren, bg, posOf, ab.o]; done)
 · simp only [bc, List.map_cons, List.map_nil, bh, List.getElem?_cons_zero, List.getElem?_cons_succ, ae]
theorem anq (w : ab) (k n v : Int) (hk : k = 5 ∨ k = 6 ∨ k = 7) (hw : wB w = true) (hs : df w k n v = true) (hv : -100 ≤ v ∧ v ≤ 100) : Ctr Tryz.prog 243 [w.v, .agg [.int .i64 k, .int .i64 n, .int .i64 v]] [] (.tup [(eg w k n v).o 0 1, .bool (dz w k n v)]) [some (rows az.cs w.Posts), some (rows an.cs (eg w k n v).Shocks)] := by
 have W := dt hw
 have pl := W.plen
 have sl := W.slen
 obtain ⟨i, hi, hix, hin⟩ : ∃ i, ∃ h : i < w.Shocks.length, jd (di n) w.Shocks = (i : Int) ∧ di n w.Shocks[i] = true := by
   have : decide (0 ≤ jd (di n) w.Shocks) = true := by
     rcases hk with rfl | rfl | rfl <;> simp [df] at hs <;> simp [hs]
   exact sj this
 have hp : sAt w n = i := by simp [sAt, hix]
 have hsh := yq hi
 have e1 : eg w k n v = ⟨w.Now, w.Posts, w.Shocks.set i (vj w.Shocks[i] k v), w.Next, w.Archived⟩ := by
   rcases hk with rfl | rfl | rfl <;> simp [eg, ep, hp, hsh]
 have e2 : dz w k n v = (aai w.Shocks[i] k && wB ⟨w.Now, w.Posts, w.Shocks.set i (vj w.Shocks[i] k v), w.Next, w.Archived⟩) := by
   rcases hk with rfl | rfl | rfl <;> simp [dz, n4, ep, hp, hsh]
 have htr := am8 w i k n v hk hw hi hv
 have hlen : ∀ p, (w.Shocks.set i p).length = w.Shocks.length := fun p => by simp
 have hgood := de ⟨w.Now, w.Posts, w.Shocks.set i (vj w.Shocks[i] k v), w.Next, w.Archived⟩ (by simp; omega) (by simp; omega)
 generalize vj w.Shocks[i] k v = y at e1 e2 htr hgood
 have hg : grown [some (w.oc 1 2), some (rows az.cs w.Posts), some (rows an.cs w.Shocks)] [some (w.oc 1 2), some (rows az.cs w.Posts), some (rows an.cs (w.Shocks.set i y))] := by
   refine ⟨⟨rfl, rfl⟩, ⟨rfl, rfl⟩, ⟨by rw [ft, ft, hlen], by rw [k9, k9]⟩, trivial⟩
 rw [e1, e2]
 clear e1 e2
 simp only [ab.v, hlen] at hgood
 simp only [ab.o, hlen]
 generalize aai w.Shocks[i] k = b at *
 rcases hk with rfl | rfl | rfl
 · skip
   refine Ctr.intro Tryz.mixed Tryz.func243 rfl Tryz.vk ?_
   simp -implicitDefEqProofs -dsimp only [go_sem, Tryz.ntmps243, Tryz.results243]
   simp -implicitDefEqProofs -dsimp only [go_sem, ab.v]
   (have ct := dc w (by omega) (by omega); (first | refine ak.at ct ⟨bj, trivial⟩ ?_ | refine aj.at ct ⟨bj, trivial⟩ ?_); clear ct)
   (repeat ((repeat1' (first | simp -implicitDefEqProofs -dsimp only [go_sem, ab.o] | simp -dsimp (disch := omega) only [wrap_i64])); repeat (with_reducible refine ah ?_)))
   (have ct := jt w n (by omega); (first | refine ak.at ct ⟨bj, bj, trivial⟩ ?_ | refine aj.at ct ⟨bj, bj, trivial⟩ ?_); clear ct)
   rw [hix]
   (repeat ((repeat1' (first | simp -implicitDefEqProofs -dsimp only [go_sem] | simp -dsimp (disch := omega) only [wrap_i64])); repeat (with_reducible refine ah ?_)))
   refine aj.qb [5, 3, 4] false htr (by decide) ⟨.inl rfl, .inl rfl, .inl rfl, trivial⟩ (by simp [bc, bh, ren, bg, posOf, ae, ab.oc]) hg (.inl rfl) ?_
   (repeat ((repeat1' (first | simp -implicitDefEqProofs -dsimp only [go_sem, ab.oc] | simp -dsimp (disch := omega) only [wrap_i64])); repeat (with_reducible refine ah ?_)))
   refine a8.bu (fun g => ?_) (fun g => ?_) <;> (repeat ((repeat1' (first | simp -implicitDefEqProofs -dsimp only [go_sem, g] | simp -dsimp (disch := omega) only [wrap_i64])); repeat (with_reducible refine ah ?_)))
   · skip
     (first | refine ak.at (hgood) ⟨bj, trivial⟩ ?_ | refine aj.at (hgood) ⟨bj, trivial⟩ ?_)
     (repeat ((repeat1' (first | simp -implicitDefEqProofs -dsimp only [go_sem, g] | simp -dsimp (disch := omega) only [wrap_i64])); repeat (with_reducible refine ah ?_)))
     refine al.pick [3, 4] (by decide) (fun j hj => by omega) (.inl ?_) ?_
     · first | rfl | (simp [ren, bg, posOf, ab.o, g]; done)
     · simp only [bc, List.map_cons, List.map_nil, bh, List.getElem?_cons_zero, List.getElem?_cons_succ, ae]
   · skip
     refine al.pick [3, 4] (by decide) (fun j hj => by omega) (.inl ?_) ?_
     · first | rfl | (simp [ren, bg, posOf, ab.o, g]; done)
     · simp only [bc, List.map_cons, List.map_nil, bh, List.getElem?_cons_zero, List.getElem?_cons_succ, ae]
 · skip
   refine Ctr.intro Tryz.mixed Tryz.func243 rfl Tryz.vk ?_
   simp -implicitDefEqProofs -dsimp only [go_sem, Tryz.ntmps243, Tryz.results243]
   simp -implicitDefEqProofs -dsimp only [go_sem, ab.v]
   (have ct := dc w (by omega) (by omega); (first | refine ak.at ct ⟨bj, trivial⟩ ?_ | refine aj.at ct ⟨bj, trivial⟩ ?_); clear ct)
   (repeat ((repeat1' (first | simp -implicitDefEqProofs -dsimp only [go_sem, ab.o] | simp -dsimp (disch := omega) only [wrap_i64])); repeat (with_reducible refine ah ?_)))
   (have ct := jt w n (by omega); (first | refine ak.at ct ⟨bj, bj, trivial⟩ ?_ | refine aj.at ct ⟨bj, bj, trivial⟩ ?_); clear ct)
   rw [hix]
   (repeat ((repeat1' (first | simp -implicitDefEqProofs -dsimp only [go_sem] | simp -dsimp (disch := omega) only [wrap_i64])); repeat (with_reducible refine ah ?_)))
   refine aj.qb [5, 3, 4] false htr (by decide) ⟨.inl rfl, .inl rfl, .inl rfl, trivial⟩ (by simp [bc, bh, ren, bg, posOf, ae, ab.oc]) hg (.inl rfl) ?_
   (repeat ((repeat1' (first | simp -implicitDefEqProofs -dsimp only [go_sem, ab.oc] | simp -dsimp (disch := omega) only [wrap_i64])); repeat (with_reducible refine ah ?_)))
   refine a8.bu (fun g => ?_) (fun g => ?_) <;> (repeat ((repeat1' (first | simp -implicitDefEqProofs -dsimp only [go_sem, g] | simp -dsimp (disch := omega) only [wrap_i64])); repeat (with_reducible refine ah ?_)))
   · skip
     (first | refine ak.at (hgood) ⟨bj, trivial⟩ ?_ | refine aj.at (hgood) ⟨bj, trivial⟩ ?_)
     (repeat ((repeat1' (first | simp -implicitDefEqProofs -dsimp only [go_sem, g] | simp -dsimp (disch := omega) only [wrap_i64])); repeat (with_reducible refine ah ?_)))
     refine al.pick [3, 4] (by decide) (fun j hj => by omega) (.inl ?_) ?_
     · first | rfl | (simp [ren, bg, posOf, ab.o, g]; done)
     · simp only [bc, List.map_cons, List.map_nil, bh, List.getElem?_cons_zero, List.getElem?_cons_succ, ae]
   · skip
     refine al.pick [3, 4] (by decide) (fun j hj => by omega) (.inl ?_) ?_
     · first | rfl | (simp [ren, bg, posOf, ab.o, g]; done)
     · simp only [bc, List.map_cons, List.map_nil, bh, List.getElem?_cons_zero, List.getElem?_cons_succ, ae]
 · skip
   refine Ctr.intro Tryz.mixed Tryz.func243 rfl Tryz.vk ?_
   simp -implicitDefEqProofs -dsimp only [go_sem, Tryz.ntmps243, Tryz.results243]
   simp -implicitDefEqProofs -dsimp only [go_sem, ab.v]
   (have ct := dc w (by omega) (by omega); (first | refine ak.at ct ⟨bj, trivial⟩ ?_ | refine aj.at ct ⟨bj, trivial⟩ ?_); clear ct)
   (repeat ((repeat1' (first | simp -implicitDefEqProofs -dsimp only [go_sem, ab.o] | simp -dsimp (disch := omega) only [wrap_i64])); repeat (with_reducible refine ah ?_)))
   (have ct := jt w n (by omega); (first | refine ak.at ct ⟨bj, bj, trivial⟩ ?_ | refine aj.at ct ⟨bj, bj, trivial⟩ ?_); clear ct)
   rw [hix]
   (repeat ((repeat1' (first | simp -implicitDefEqProofs -dsimp only [go_sem] | simp -dsimp (disch := omega) only [wrap_i64])); repeat (with_reducible refine ah ?_)))
   refine aj.qb [5, 3, 4] false htr (by decide) ⟨.inl rfl, .inl rfl, .inl rfl, trivial⟩ (by simp [bc, bh, ren, bg, posOf, ae, ab.oc]) hg (.inl rfl) ?_
   (repeat ((repeat1' (first | simp -implicitDefEqProofs -dsimp only [go_sem, ab.oc] | simp -dsimp (disch := omega) only [wrap_i64])); repeat (with_reducible refine ah ?_)))
   refine a8.bu (fun g => ?_) (fun g => ?_) <;> (repeat ((repeat1' (first | simp -implicitDefEqProofs -dsimp only [go_sem, g] | simp -dsimp (disch := omega) only [wrap_i64])); repeat (with_reducible refine ah ?_)))
   · skip
     (first | refine ak.at (hgood) ⟨bj, trivial⟩ ?_ | refine aj.at (hgood) ⟨bj, trivial⟩ ?_)
     (repeat ((repeat1' (first | simp -implicitDefEqProofs -dsimp only [go_sem, g] | simp -dsimp (disch := omega) only [wrap_i64])); repeat (with_reducible refine ah ?_)))
     refine al.pick [3, 4] (by decide) (fun j hj => by omega) (.inl ?_) ?_
     · first | rfl | (simp [ren, bg, posOf, ab.o, g]; done)
     · simp only [bc, List.map_cons, List.map_nil, bh, List.getElem?_cons_zero, List.getElem?_cons_succ, ae]
   · skip
     refine al.pick [3, 4] (by decide) (fun j hj => by omega) (.inl ?_) ?_
     · first | rfl | (simp [ren, bg, posOf, ab.o, g]; done)
     · simp only [bc, List.map_cons, List.map_nil, bh, List.getElem?_cons_zero, List.getElem?_cons_succ, ae]
theorem aoh (w : ab) (n v : Int) (hw : wB w = true) (hs : df w 8 n v = true) : Ctr Tryz.prog 243 [w.v, .agg [.int .i64 8, .int .i64 n, .int .i64 v]] [] (.tup [(eg w 8 n v).o 0 1, .bool (dz w 8 n v)]) [some (rows az.cs w.Posts), some (rows an.cs (eg w 8 n v).Shocks)] := by
 have W := dt hw
 have pl := W.plen
 have sl := W.slen
 obtain ⟨i, hi, hix, hin⟩ : ∃ i, ∃ h : i < w.Shocks.length, jd (di n) w.Shocks = (i : Int) ∧ di n w.Shocks[i] = true := by
   have : decide (0 ≤ jd (di n) w.Shocks) = true := by
     simp [df] at hs
     simp [hs.1]
   exact sj this
 have hp : sAt w n = i := by simp [sAt, hix]
 have hsh := yq hi
 have e1 : eg w 8 n v = iz w i := by simp [eg, ep, iz, hp]
 have e2 : dz w 8 n v = (ab8 w w.Shocks[i] && wB (iz w i)) := by simp [dz, n4, ep, iz, hp, hsh]
 have hgood := de (iz w i) (by simp [iz]; omega) (by simp [iz]; omega)
 have htr := anx w i n v hw hi
 have e3 : (iz w i).Shocks = w.Shocks.take i ++ w.Shocks.drop (i + 1) := rfl
 have hall : (rows an.cs (w.Shocks.take i ++ w.Shocks.drop (i + 1)) ++ z5).all bq = true := by
   rw [List.all_append, bb]; rfl
 have e : (w.Shocks.take i ++ w.Shocks.drop (i + 1)).length = w.Shocks.length - 1 := by simp; omega
 have hg : grown [some (w.oc 1 2), some (rows az.cs w.Posts), some (rows an.cs w.Shocks)] [some ((iz w i).oc 1 2), some (rows az.cs w.Posts), some (rows an.cs (w.Shocks.take i ++ w.Shocks.drop (i + 1)) ++ z5)] := by
   refine ⟨⟨rfl, rfl⟩, ⟨rfl, rfl⟩, ⟨?_, by rw [pa hall, k9]⟩, trivial⟩
   rw [List.length_append, ft, ft, e]
   show _ = (w.Shocks.length - 1) * 5 + 5
   omega
 rw [e1, e2, e3]
 refine Ctr.intro Tryz.mixed Tryz.func243 rfl Tryz.vk ?_
 simp -implicitDefEqProofs -dsimp only [go_sem, Tryz.ntmps243, Tryz.results243]
 simp -implicitDefEqProofs -dsimp only [go_sem, ab.v]
 (have ct := dc w (by omega) (by omega); (first | refine ak.at ct ⟨bj, trivial⟩ ?_ | refine aj.at ct ⟨bj, trivial⟩ ?_); clear ct)
 (repeat ((repeat1' (first | simp -implicitDefEqProofs -dsimp only [go_sem, ab.o] | simp -dsimp (disch := omega) only [wrap_i64])); repeat (with_reducible refine ah ?_)))
 (have ct := jt w n (by omega); (first | refine ak.at ct ⟨bj, bj, trivial⟩ ?_ | refine aj.at ct ⟨bj, bj, trivial⟩ ?_); clear ct)
 rw [hix]
 (repeat ((repeat1' (first | simp -implicitDefEqProofs -dsimp only [go_sem] | simp -dsimp (disch := omega) only [wrap_i64])); repeat (with_reducible refine ah ?_)))
 refine aj.qb [5, 3, 4] false htr (by decide) ⟨.inl rfl, .inl rfl, .inl rfl, trivial⟩ (by simp [bc, bh, ren, bg, posOf, ae, ab.oc]) hg (.inl rfl) ?_
 (repeat ((repeat1' (first | simp -implicitDefEqProofs -dsimp only [go_sem, ab.oc, z5] | simp -dsimp (disch := omega) only [wrap_i64])); repeat (with_reducible refine ah ?_)))
 clear hall hg
 have htk : ∀ y : List V, (rows an.cs (w.Shocks.take i ++ w.Shocks.drop (i + 1)) ++ y).take ((iz w i).Shocks.length * 5) = rows an.cs (w.Shocks.take i ++ w.Shocks.drop (i + 1)) := fun y => List.take_left' (by rw [ft]; rfl)
 refine a8.bu (fun g => ?_) (fun g => ?_) <;> (repeat ((repeat1' (first | simp -implicitDefEqProofs -dsimp only [go_sem, g] | simp -dsimp (disch := omega) only [wrap_i64])); repeat (with_reducible refine ah ?_)))
 · skip
   (first | refine ak.at (hgood) ⟨bj, trivial⟩ ?_ | refine aj.at (hgood) ⟨bj, trivial⟩ ?_)
   (repeat ((repeat1' (first | simp -implicitDefEqProofs -dsimp only [go_sem, g] | simp -dsimp (disch := omega) only [wrap_i64])); repeat (with_reducible refine ah ?_)))
   refine al.trim 4 ((iz w i).Shocks.length * 5) rfl (by omega) (by simp only [List.length_append, ft, e3, List.length_cons, List.length_nil]; omega) (pa (by simp [bb, bq])) (by rw [htk]; exact k9 _) ?_ ?_ ?_
   · simp [fits]
   · simp [fits, afp, List.all_append]
   · skip
     simp only [htk, List.set_cons_zero, List.set_cons_succ]
     refine al.pick [3, 4] (by decide) (fun j hj => by omega) (.inl ?_) ?_
     · first | rfl | (simp [ren, bg, posOf, ab.o, g]; done)
     · simp only [bc, List.map_cons, List.map_nil, bh, List.getElem?_cons_zero, List.getElem?_cons_succ, ae]
 · skip
   refine al.trim 4 ((iz w i).Shocks.length * 5) rfl (by omega) (by simp only [List.length_append, ft, e3, List.length_cons, List.length_nil]; omega) (pa (by simp [bb, bq])) (by rw [htk]; exact k9 _) ?_ ?_ ?_
   · simp [fits]
   · simp [fits, afp, List.all_append]
   · skip
     simp only [htk, List.set_cons_zero, List.set_cons_succ]
     refine al.pick [3, 4] (by decide) (fun j hj => by omega) (.inl ?_) ?_
     · first | rfl | (simp [ren, bg, posOf, ab.o, g]; done)
     · simp only [bc, List.map_cons, List.map_nil, bh, List.getElem?_cons_zero, List.getElem?_cons_succ, ae]
theorem apd (w : ab) (k n v : Int) (hw : wB w = true) (hs : df w k n v = true) : Ctr Tryz.prog 243 [w.v, .agg [.int .i64 k, .int .i64 n, .int .i64 v]] [] (.tup [(eg w k n v).o 0 1, .bool (dz w k n v)]) [some (rows az.cs (eg w k n v).Posts), some (rows an.cs (eg w k n v).Shocks)] := by
 rcases oi hs with ⟨rfl, h1⟩ | hk | rfl | rfl | ⟨hk, h1⟩
 · have e : (eg w 1 n v).Posts = w.Posts ∧ (eg w 1 n v).Shocks = w.Shocks := by simp [eg]
   rw [e.1, e.2]
   exact amy w n v hw h1
 · have e : (eg w k n v).Shocks = w.Shocks := by rcases hk with rfl | rfl <;> simp [eg, ep]
   rw [e]
   exact anb w k n v hk hw hs
 · have e : (eg w 4 n v).Posts = w.Posts := by simp [eg, ep]
   rw [e]
   exact aof w n v hw
 · have e : (eg w 8 n v).Posts = w.Posts := by simp [eg, ep]
   rw [e]
   exact aoh w n v hw hs
 · have e : (eg w k n v).Posts = w.Posts := by rcases hk with rfl | rfl | rfl <;> simp [eg, ep]
   rw [e]
   exact anq w k n v hk hw hs h1
theorem ale {w : ab} {k n v : Int} (hw : wB w = true) (h : dz w k n v = true) : eg w k n v = ep w k n v := by
 unfold eg
 split
 · rename_i h1
   subst h1
   have := (dt hw).now
   have h2 : v ≤ 1000000 - w.Now := by
     simp only [dz, n4, if_true, Bool.and_eq_true, decide_eq_true_eq] at h
     exact h.1
   have h3 : ¬ 1000000 < v := by omega
   simp [ep, h3]
 · rfl
theorem wz (w : ab) (k n v : Int) (hp : w.Posts.length ≤ 16777216) (hs : w.Shocks.length ≤ 16777216) : Ctr Tryz.prog 200 [w.v, .agg [.int .i64 k, .int .i64 n, .int .i64 v]] [] (aeq (fa w k n v)) (ae2 (fa w k n v)) := by
 refine Ctr.intro Tryz.mixed Tryz.func200 rfl Tryz.ayx ?_
 simp -implicitDefEqProofs -dsimp only [go_sem, Tryz.ntmps200, Tryz.results200]
 simp -implicitDefEqProofs -dsimp only [go_sem, ab.v]
 (have ct := de w (by omega) (by omega); (first | refine ak.at ct ⟨bj, trivial⟩ ?_ | refine aj.at ct ⟨bj, trivial⟩ ?_); clear ct)
 have no : fa w k n v = none → ∀ h : Hp, al 0 (.tup [.agg [.int .i64 0, .nilsl, .nilsl, .int .i64 0, .int .i64 0], .bool false]) h (aeq (fa w k n v)) (ae2 (fa w k n v)) := by
   intro e h
   rw [e]
   exact al.ax rfl (by rfl)
 cases hw : wB w with
 | false =>
   (repeat ((repeat1' (first | simp -implicitDefEqProofs -dsimp only [go_sem] | simp -dsimp (disch := omega) only [wrap_i64])); repeat (with_reducible refine ah ?_)))
   exact no (by simp [fa, hw]) _
 | true =>
   (repeat ((repeat1' (first | simp -implicitDefEqProofs -dsimp only [go_sem] | simp -dsimp (disch := omega) only [wrap_i64])); repeat (with_reducible refine ah ?_)))
   (have ct := anc w k n v hp hs; (first | refine ak.at ct ⟨bj, bj, trivial⟩ ?_ | refine aj.at ct ⟨bj, bj, trivial⟩ ?_); clear ct)
   cases hst : df w k n v with
   | false =>
     (repeat ((repeat1' (first | simp -implicitDefEqProofs -dsimp only [go_sem] | simp -dsimp (disch := omega) only [wrap_i64])); repeat (with_reducible refine ah ?_)))
     exact no (by simp [fa, hst]) _
   | true =>
     (repeat ((repeat1' (first | simp -implicitDefEqProofs -dsimp only [go_sem] | simp -dsimp (disch := omega) only [wrap_i64])); repeat (with_reducible refine ah ?_)))
     have hm := apd w k n v hw hst
     cases hd : dz w k n v with
     | false =>
       rw [hd] at hm
       (first | refine ak.at (hm) ⟨bj, bj, trivial⟩ ?_ | refine aj.at (hm) ⟨bj, bj, trivial⟩ ?_)
       (repeat ((repeat1' (first | simp -implicitDefEqProofs -dsimp only [go_sem, ab.o] | simp -dsimp (disch := omega) only [wrap_i64])); repeat (with_reducible refine ah ?_)))
       exact no (by simp [fa, hd]) _
     | true =>
       rw [hd] at hm
       (first | refine ak.at (hm) ⟨bj, bj, trivial⟩ ?_ | refine aj.at (hm) ⟨bj, bj, trivial⟩ ?_)
       (repeat ((repeat1' (first | simp -implicitDefEqProofs -dsimp only [go_sem, ab.o] | simp -dsimp (disch := omega) only [wrap_i64])); repeat (with_reducible refine ah ?_)))
       have e : fa w k n v = some (ep w k n v) := by simp [fa, hw, hst, hd]
       have e2 := ale hw hd
       rw [e, ← e2, aeq, ae2]
       refine al.pick [3, 4] (by decide) (fun j hj => by omega) (.inl ?_) ?_
       · first | rfl | (simp [ren, bg, posOf, ab.o]; done)
       · simp only [bc, List.map_cons, List.map_nil, bh, List.getElem?_cons_zero, List.getElem?_cons_succ, ae]
end Go.Proofs
end
section
namespace Go.Lv
variable {α : Type}
def ada (lt : α → α → Bool) (S : List α) (x : α) : Nat → Nat
 | 0 => 0
 | k + 1 => match S[k]? with
   | some y => if lt x y then ada lt S x k else k + 1
   | none => k + 1
theorem afk {lt : α → α → Bool} {S : List α} {x : α} {k : Nat} (hk : k < S.length) (h : lt x S[k] = true) : ada lt S x (k + 1) = ada lt S x k := by
 simp [ada, hk, h]
theorem afs {lt : α → α → Bool} {S : List α} {x : α} {k : Nat} (hk : k < S.length) (h : lt x S[k] = false) : ada lt S x (k + 1) = k + 1 := by
 simp [ada, hk, h]
def putAt (S : List α) (x : α) (j : Nat) : List α := S.take j ++ x :: S.drop j
theorem agd (S : List α) (x : α) (j : Nat) : (putAt S x j).length = S.length + 1 := by
 simp [putAt]; omega
theorem ans (S : List α) (x : α) : putAt S x S.length = S ++ [x] := by simp [putAt]
def ins (lt : α → α → Bool) (S : List α) (x : α) : List α := putAt S x (ada lt S x S.length)
def cg (lt : α → α → Bool) (L : List α) : List α := L.foldl (ins lt) []
theorem atw (lt : α → α → Bool) (S : List α) (x : α) : (ins lt S x).length = S.length + 1 := agd _ _ _
theorem ahm (lt : α → α → Bool) (L : List α) (x : α) : cg lt (L ++ [x]) = ins lt (cg lt L) x := by simp [cg]
theorem yg {lt : α → α → Bool} {L : List α} {i : Nat} (hi : i < L.length) : cg lt (L.take (i + 1)) = ins lt (cg lt (L.take i)) L[i] := by
 rw [List.take_succ_eq_append_getElem hi, ahm]
theorem ja (lt : α → α → Bool) (L : List α) : (cg lt L).length = L.length := by
 have key : ∀ (L S : List α), (L.foldl (ins lt) S).length = S.length + L.length := by
   intro L
   induction L with
   | nil => intro S; simp
   | cons a L ih => intro S; rw [List.foldl_cons, ih, atw]; simp; omega
 have := key L []
 simpa [cg] using this
theorem aiv (lt : α → α → Bool) (L : List α) (h : L.length ≤ 1) : cg lt L = L := by
 match L, h with
 | [], _ => rfl
 | [a], _ => rfl
def og (S R : List α) (x : α) (j : Nat) : List α := putAt S x j ++ R
theorem apu (S R : List α) (x : α) (j : Nat) : (og S R x j).length = S.length + 1 + R.length := by simp [og, agd]
theorem ao0 {S R : List α} {x : α} {j : Nat} (hj : j ≤ S.length) (h : j < (og S R x j).length) : (og S R x j)[j] = x := by
 have : (og S R x j)[j]? = some x := by
   rw [og, putAt, List.append_assoc, List.getElem?_append_right (by simp; omega)]
   simp [Nat.min_eq_left hj]
 rw [List.getElem?_eq_getElem h] at this
 exact Option.some.inj this
theorem aej {S R : List α} {x : α} {j : Nat} (hj : j < S.length) (h : j < (og S R x (j + 1)).length) : (og S R x (j + 1))[j] = S[j] := by
 have : (og S R x (j + 1))[j]? = some S[j] := by
   rw [og, putAt, List.append_assoc, List.getElem?_append_left (by simp; omega), List.getElem?_take_of_lt (by omega), List.getElem?_eq_getElem hj]
 rw [List.getElem?_eq_getElem h] at this
 exact Option.some.inj this
theorem am5 {S R : List α} {x : α} {j : Nat} (hj : j < S.length) : ((og S R x (j + 1)).set (j + 1) S[j]).set j x = og S R x j := by
 have hd : S.drop j = S[j] :: S.drop (j + 1) := List.drop_eq_getElem_cons hj
 have ht : S.take (j + 1) = S.take j ++ [S[j]] := List.take_succ_eq_append_getElem hj
 have hl : (S.take j).length = j := by simp; omega
 simp only [og, putAt, ht, hd, List.append_assoc, List.cons_append, List.nil_append, List.singleton_append]
 rw [List.set_append_right _ _ (by omega), hl, List.set_append_right _ _ (by omega), hl]
 simp
def ah0 (lt : α → α → Bool) (L : List α) (i : Nat) : List α := cg lt (L.take i) ++ L.drop i
theorem aoy (lt : α → α → Bool) (L : List α) : ah0 lt L 1 = L := by
 rw [ah0, aiv lt _ (by simp; omega), List.take_append_drop]
theorem ap6 (lt : α → α → Bool) (L : List α) {i : Nat} (h : L.length ≤ i) : ah0 lt L i = cg lt L := by
 simp [ah0, List.take_of_length_le h, List.drop_eq_nil_of_le h]
theorem aqs {lt : α → α → Bool} {L : List α} {i : Nat} (hi : i < L.length) : ah0 lt L i = og (cg lt (L.take i)) (L.drop (i + 1)) L[i] i := by
 have hl : (cg lt (L.take i)).length = i := by rw [ja]; simp; omega
 rw [ah0, List.drop_eq_getElem_cons hi, og]
 have := ans (cg lt (L.take i)) L[i]
 rw [hl] at this
 rw [this]; simp
theorem afq {lt : α → α → Bool} {L : List α} {i j : Nat} (hi : i < L.length) (h : ada lt (cg lt (L.take i)) L[i] i = j) : og (cg lt (L.take i)) (L.drop (i + 1)) L[i] j = ah0 lt L (i + 1) := by
 have hl : (cg lt (L.take i)).length = i := by rw [ja]; simp; omega
 rw [ah0, yg hi, ins, hl, h, og]
end Go.Lv
end
section
set_option maxRecDepth 100000
set_option maxHeartbeats 1000000
namespace Go.Proofs
open Go.Lv
theorem yb (L : List an) (c : an → an → Int) (fc : Nat) (hv : ∀ x y, Ctr Tryz.prog fc [an.v x, an.v y] [] (.int .i64 (c x y)) []) (hl : L.length ≤ 19) :
   Ctr Tryz.prog 285 [.osl 0 0 L.length 5, .int .i64 0, .int .i64 L.length, .fn (.func fc) [] []] [some (rows an.cs L)] (.tup []) [some (rows an.cs (cg (fun x y => decide (c x y < 0)) L))] := by
 generalize hlt : (fun x y => decide (c x y < 0)) = lt
 have ltv : ∀ x y, lt x y = decide (c x y < 0) := fun x y => by rw [← hlt]
 refine Ctr.intro Tryz.mixed Tryz.func285 rfl Tryz.axv ?_
 simp -implicitDefEqProofs -dsimp only [go_sem, Tryz.ntmps285, Tryz.results285]
 refine cw.intro (fun i : Nat => 1 ≤ i ∧ (i ≤ 1 ∨ i ≤ L.length)) (fun i => ⟨[.osl 0 0 L.length 5, .int .i64 0, .int .i64 L.length, .fn (.func fc) [] [], .undef, .undef, .undef, .undef, .int .i64 i, .undef, .undef, .undef, .undef, .undef, .undef, .undef, .undef, .undef, .undef, .undef, .undef, .undef, .undef, .undef, .undef, .undef, .undef, .undef, .undef, .undef, .undef, .undef, .undef, .undef, .undef, .undef, .undef, .undef, .undef, .undef, .undef, .undef, .undef, .undef, .undef, .undef, .undef, .undef, .undef, .undef, .undef, .undef, .undef], [some (rows an.cs (ah0 lt L i))], 1⟩) (fun i => L.length - i) 1 ⟨Nat.le_refl _, .inl (Nat.le_refl _)⟩ ?_ (fun i hi => ?_)
 · refine br.cut (1) (by simp) (by simp) ?_ ?_
   · (simp [LeC, LeV, ren, bm]; rfl)
   · rw [aoy]; simp [cb, db, ae]
 simp -implicitDefEqProofs -dsimp only [go_sem]
 refine bd.split (fun h1 => ?_) (fun h1 => ?_)
 · simp -implicitDefEqProofs -dsimp only [go_sem, h1]
   have hi' : i < L.length := by simpa using h1
   have hS : (cg lt (L.take i)).length = i := by rw [ja]; simp; omega
   rw [aqs hi']
   refine cw.intro (fun j : Nat => j ≤ i ∧ ada lt (cg lt (L.take i)) L[i] i = ada lt (cg lt (L.take i)) L[i] j) (fun j => ⟨[.osl 0 0 L.length 5, .int .i64 0, .int .i64 L.length, .fn (.func fc) [] [], .undef, .undef, .undef, .undef, .int .i64 i, .int .i64 j, .undef, .undef, .undef, .undef, .undef, .undef, .undef, .undef, .undef, .undef, .undef, .undef, .undef, .undef, .undef, .undef, .undef, .undef, .undef, .undef, .undef, .undef, .undef, .undef, .undef, .undef, .undef, .undef, .undef, .undef, .undef, .undef, .undef, .undef, .undef, .undef, .undef, .undef, .undef, .undef, .undef, .undef, .undef], [some (rows an.cs (og (cg lt (L.take i)) (L.drop (i + 1)) L[i] j))], 1⟩) (fun j => j) i ⟨Nat.le_refl _, rfl⟩ ?_ (fun j hj => ?_)
   · refine br.cut (1) (by simp) (by simp) ?_ ?_
     · simp [LeC, LeV, ren, bm]
     · simp [cb, db, ae]
   have hml : ∀ j, (og (cg lt (L.take i)) (L.drop (i + 1)) L[i] j).length = L.length := fun j => by rw [apu, hS, List.length_drop]; omega
   simp -implicitDefEqProofs -dsimp only [go_sem]
   refine ⟨by kernel_rfl, ?_⟩
   cases j with
   | zero =>
     have hz : ((0 : Nat) : Int) = 0 := rfl
     (repeat ((repeat1' (first | simp -implicitDefEqProofs -dsimp only [go_sem, hz] | simp -dsimp (disch := omega) only [wrap_i64])); repeat (with_reducible refine ah ?_)))
     refine ⟨i + 1, ⟨by omega, .inr hi'⟩, ?_, by omega⟩
     refine br.cut (1) (by simp) (by simp) ?_ ?_
     · simp [LeC, LeV, ren, bm]
     · rw [afq (j := 0) hi' hj.2]
       simp [cb, db, ae]
   | succ j =>
     have hjS : j < (cg lt (L.take i)).length := by rw [hS]; omega
     have hg : decide ((0 : Int) < ((j + 1 : Nat) : Int)) = true := decide_eq_true (by omega)
     have hw1 : IntKind.i64.wrap (((j + 1 : Nat) : Int) - 1) = (j : Int) := by rw [wrap_i64 (by omega) (by omega)]; omega
     have hk1 : j + 1 < (og (cg lt (L.take i)) (L.drop (i + 1)) L[i] (j + 1)).length := by rw [hml]; omega
     have hk0 : j < (og (cg lt (L.take i)) (L.drop (i + 1)) L[i] (j + 1)).length := by rw [hml]; omega
     have g1 := ao0 (S := cg lt (L.take i)) (R := L.drop (i + 1)) (x := L[i]) (j := j + 1) (by omega) hk1
     have g0 := aej (R := L.drop (i + 1)) (x := L[i]) hjS hk0
     have hr1 := bt an.csl hk1
     have hr0 := bt an.csl hk0
     have hlr := je (w := 5) an.csl (og (cg lt (L.take i)) (L.drop (i + 1)) L[i] (j + 1))
     rw [g1] at hr1
     rw [g0] at hr0
     rw [hml] at hlr
     (repeat ((repeat1' (first | simp -implicitDefEqProofs -dsimp only [go_sem, hg, hw1, hr1, hr0, hlr, an.cs] | simp -dsimp (disch := omega) only [wrap_i64])); repeat (with_reducible refine ah ?_)))
     (have ct := hv L[i] (cg lt (L.take i))[j]; (first | refine ak.at ct ⟨leA, leA, trivial⟩ ?_ | refine aj.at ct ⟨leA, leA, trivial⟩ ?_); clear ct)
     simp -implicitDefEqProofs -dsimp only [go_sem]
     have hlx := ltv L[i] (cg lt (L.take i))[j]
     rw [← hlx]
     refine bd.split (fun h2 => ?_) (fun h2 => ?_)
     · have s1 := mi an.csl hk1 (cg lt (L.take i))[j]
       have s2 := mi (L := (og (cg lt (L.take i)) (L.drop (i + 1)) L[i] (j + 1)).set (j + 1) (cg lt (L.take i))[j]) an.csl (by rw [List.length_set]; exact hk0) L[i]
       rw [am5 hjS] at s2
       simp only [an.cs] at s1 s2
       (repeat ((repeat1' (first | simp -implicitDefEqProofs -dsimp only [go_sem, h2, hw1, hr1, hr0, hlr, an.cs] | simp -dsimp (disch := omega) only [wrap_i64])); repeat (with_reducible refine ah ?_)))
       have hl2 : (rows an.cs ((og (cg lt (L.take i)) (L.drop (i + 1)) L[i] (j + 1)).set (j + 1) (cg lt (L.take i))[j])).length = L.length * 5 := by rw [je (w := 5) an.csl, List.length_set, hml]
       rw [s1, s2]
       refine ⟨by rw [hl2]; omega, j, ⟨by omega, hj.2.trans (afk hjS h2)⟩, ?_, by omega⟩
       refine br.cut (1) (by simp) (by simp) ?_ ?_
       · simp [LeC, LeV, ren, bm]
       · simp [cb, db, ae]
     · simp -implicitDefEqProofs -dsimp only [go_sem, h2]
       have hp := afs hjS h2
       refine ⟨i + 1, ⟨by omega, .inr hi'⟩, ?_, by omega⟩
       refine br.cut (1) (by simp) (by simp) ?_ ?_
       · rw [wrap_i64 (by omega) (by omega)]; simp [LeC, LeV, ren, bm]
       · rw [afq hi' (hj.2.trans hp)]
         simp [cb, db, ae]
 · simp -implicitDefEqProofs -dsimp only [go_sem, h1]
   have h1' : L.length ≤ i := by simp at h1; omega
   rw [ap6 lt L h1']
   exact al.refl _ _ _
theorem ad9 (L : List an) (c : an → an → Int) (fc : Nat) (hv : ∀ x y, Ctr Tryz.prog fc [an.v x, an.v y] [] (.int .i64 (c x y)) []) (hl : L.length ≤ 19) :
   Ctr Tryz.prog 273 [.osl 0 0 L.length 5, .int .i64 L.length, .fn (.func fc) [] []] [some (rows an.cs L)] (.tup []) [some (rows an.cs (cg (fun x y => decide (c x y < 0)) L))] := by
 refine Ctr.intro Tryz.mixed Tryz.func273 rfl Tryz.aw4 ?_
 simp -implicitDefEqProofs -dsimp only [go_sem, Tryz.ntmps273, Tryz.results273]
 have c0 : decide ((20 : Int) ≤ L.length) = false := decide_eq_false (by omega)
 have c1 : decide ((20 : Int) < L.length) = false := decide_eq_false (by omega)
 refine cw.intro (fun _ : Unit => True) (fun _ => ⟨[.osl 0 0 L.length 5, .int .i64 L.length, .fn (.func fc) [] [], .undef, .undef, .undef, .int .i64 20, .int .i64 0, .int .i64 20, .undef, .undef, .undef, .undef, .undef, .undef, .undef, .undef, .undef, .undef, .undef, .undef, .undef, .undef, .undef, .undef, .undef, .undef, .undef, .undef, .undef, .undef, .undef, .undef, .undef, .undef, .undef, .undef, .undef, .undef, .undef, .undef, .undef, .undef, .undef, .undef, .undef, .undef, .undef, .undef, .undef, .undef, .undef, .undef, .undef, .undef, .undef, .undef, .undef, .undef, .undef, .undef, .undef, .undef], [some (rows an.cs L)], 1⟩) (fun _ => 0) () trivial ?_ (fun _ _ => ?_)
 · refine br.cut (1) (by simp) (by simp) ?_ ?_
   · simp [LeC, LeV, ren, bm]
   · simp [cb, db, ae]
 simp -implicitDefEqProofs -dsimp only [go_sem, c0]
 refine aj.qb [0] false ( yb L c fc hv hl) (by decide) ⟨leO, leO, leO, leO, trivial⟩ rr ( jh (by simp [ay, ja])) (.inl rfl) ?_
 simp -implicitDefEqProofs -dsimp only [go_sem]
 refine cw.intro (fun _ : Unit => True) (fun _ => ⟨[.osl 0 0 L.length 5, .int .i64 L.length, .fn (.func fc) [] [], .undef, .undef, .undef, .int .i64 20, .undef, .undef, .undef, .undef, .undef, .undef, .undef, .undef, .undef, .undef, .undef, .undef, .undef, .undef, .undef, .undef, .undef, .undef, .undef, .undef, .undef, .undef, .undef, .undef, .undef, .undef, .undef, .undef, .undef, .undef, .undef, .undef, .undef, .undef, .undef, .undef, .undef, .undef, .undef, .undef, .undef, .undef, .undef, .undef, .undef, .undef, .undef, .undef, .undef, .undef, .undef, .undef, .undef, .undef, .undef, .undef], [some (rows an.cs (cg (fun x y => decide (c x y < 0)) L))], 1⟩) (fun _ => 0) () trivial ?_ (fun _ _ => ?_)
 · refine br.cut (1) (by simp) (by simp) ?_ ?_
   · simp [LeC, LeV, ren, bm]
   · simp [cb, db, ae]
 simp -implicitDefEqProofs -dsimp only [go_sem, c1]
 exact al.refl _ _ _
theorem w4 (L : List an) (c : an → an → Int) (fc : Nat) (hv : ∀ x y, Ctr Tryz.prog fc [an.v x, an.v y] [] (.int .i64 (c x y)) []) (hl : L.length ≤ 19) :
   Ctr Tryz.prog 249 [.osl 0 0 L.length 5, .fn (.func fc) [] []] [some (rows an.cs L)] (.tup []) [some (rows an.cs (cg (fun x y => decide (c x y < 0)) L))] := by
 refine Ctr.intro Tryz.mixed Tryz.func249 rfl Tryz.ayw ?_
 simp -implicitDefEqProofs -dsimp only [go_sem, Tryz.ntmps249, Tryz.results249]
 refine aj.qb [0] false ( ad9 L c fc hv hl) (by decide) ⟨leO, leO, leO, trivial⟩ rr ( jh (by simp [ay, ja])) (.inl rfl) ?_
 simp -implicitDefEqProofs -dsimp only [go_sem]
 exact al.refl _ _ _
end Go.Proofs
end
section
namespace Go.Lv
variable {α : Type}
theorem ac7 {lt : α → α → Bool} {A B : List α} {x : α} (hB : ∀ b ∈ B, lt x b = true) (hA : ∀ a ∈ A, lt x a = false) : ∀ k, k ≤ B.length → ada lt (A ++ B) x (A.length + k) = A.length
 | 0, _ => by
   cases h : A.length with
   | zero => rfl
   | succ m =>
     have hm : m < (A ++ B).length := by rw [List.length_append]; omega
     have e : (A ++ B)[m] = A[m]'(by omega) := List.getElem_append_left (by omega)
     exact afs hm (by rw [e]; exact hA _ (List.getElem_mem _))
 | k + 1, hk => by
   have hm : A.length + k < (A ++ B).length := by rw [List.length_append]; omega
   have e : (A ++ B)[A.length + k] = B[k]'(by omega) := by
     rw [List.getElem_append_right (by omega)]
     congr 1; omega
   rw [← Nat.add_assoc, afk hm (by rw [e]; exact hB _ (List.getElem_mem _))]
   exact ac7 hB hA k (by omega)
theorem amz {lt : α → α → Bool} {A B : List α} {x : α} (hB : ∀ b ∈ B, lt x b = true) (hA : ∀ a ∈ A, lt x a = false) : ins lt (A ++ B) x = A ++ x :: B := by
 rw [ins, List.length_append, ac7 hB hA _ (Nat.le_refl _), putAt]
 simp
def iy (f : α → Int) (c : Int) (L : List α) (J : List Nat) : List α := J.flatMap fun (j : Nat) => L.filter fun x => f x == c - (j : Int)
theorem sn (f : α → Int) (c : Int) (L : List α) (J K : List Nat) : iy f c L (J ++ K) = iy f c L J ++ iy f c L K := by simp [iy]
theorem aag {f : α → Int} {c : Int} {L : List α} {J : List Nat} {x : α} (h : x ∈ iy f c L J) : ∃ j ∈ J, f x = c - (j : Int) := by
 simp only [iy, List.mem_flatMap, List.mem_filter, beq_iff_eq] at h
 obtain ⟨j, hj, _, e⟩ := h
 exact ⟨j, hj, e⟩
theorem ad2 {f : α → Int} {c : Int} {L : List α} {J : List Nat} {x : α} (h : ∀ j ∈ J, f x ≠ c - (j : Int)) : iy f c (L ++ [x]) J = iy f c L J := by
 induction J with
 | nil => rfl
 | cons j J ih =>
   have h1 : f x ≠ c - (j : Int) := h j (by simp)
   have h2 := ih (fun k hk => h k (by simp [hk]))
   simp only [iy, List.flatMap_cons] at h2 ⊢
   rw [h2, List.filter_append]
   simp [h1]
theorem aes {f : α → Int} {c : Int} {n : Nat} : ∀ {L : List α}, (∀ x ∈ L, c - n < f x ∧ f x ≤ c) → cg (fun x y => decide (f y < f x)) L = iy f c L (List.range n) := by
 intro L hL
 have key : ∀ i, i ≤ L.length → cg (fun x y => decide (f y < f x)) (L.take i) = iy f c (L.take i) (List.range n) := by
   intro i
   induction i with
   | zero => intro _; simp [cg, iy]
   | succ i ih =>
     intro hi
     have hi' : i < L.length := hi
     have hx := hL L[i] (List.getElem_mem hi')
     rw [yg hi', ih (by omega), List.take_succ_eq_append_getElem hi']
     obtain ⟨j, m, e1, e2⟩ : ∃ j m : Nat, f L[i] = c - (j : Int) ∧ n = j + (m + 1) := ⟨(c - f L[i]).toNat, n - 1 - (c - f L[i]).toNat, by omega, by omega⟩
     have hr : List.range n = List.range j ++ ([j] ++ (List.range m).map (fun k => j + (k + 1))) := by
       rw [e2, List.range_add, List.range_succ_eq_map]
       simp
     rw [hr, sn, sn, sn, sn]
     rw [ad2 (J := List.range j) (by intro k hk; have := List.mem_range.1 hk; omega)]
     rw [ad2 (J := (List.range m).map (fun k => j + (k + 1))) (by
       intro k hk
       obtain ⟨k, _, rfl⟩ := List.mem_map.1 hk
       omega)]
     have hone : iy f c (L.take i ++ [L[i]]) [j] = iy f c (L.take i) [j] ++ [L[i]] := by
       simp only [iy, List.flatMap_cons, List.flatMap_nil, List.append_nil, List.filter_append]
       simp [e1]
     rw [hone, ← List.append_assoc]
     rw [amz (A := iy f c (L.take i) (List.range j) ++ iy f c (L.take i) [j]) (B := iy f c (L.take i) ((List.range m).map (fun k => j + (k + 1))))]
     · simp
     · intro b hb
       obtain ⟨k, hk, e⟩ := aag hb
       obtain ⟨k, _, rfl⟩ := List.mem_map.1 hk
       simp; omega
     · intro a ha
       rcases List.mem_append.1 ha with h | h
       · obtain ⟨k, hk, e⟩ := aag h
         have := List.mem_range.1 hk
         simp; omega
       · obtain ⟨k, hk, e⟩ := aag h
         simp at hk; subst hk
         simp; omega
 have := key L.length (Nat.le_refl _)
 simpa using this
end Go.Lv
end
section
set_option maxRecDepth 100000
set_option maxHeartbeats 1000000
namespace Go.Proofs
open Go.Lv
def ak4 (a b : Int) : Int := if a < b then -1 else if b < a then 1 else 0
theorem aqa (a b : Int) : decide (ak4 a b < 0) = decide (a < b) := by
 unfold ak4
 split
 · rename_i h; simp [h]
 · rename_i h; split <;> simp [h]
theorem qu (a : Int) : Ctr Tryz.prog 274 [.int .i64 a] [] (.bool false) [] := by
 refine Ctr.intro Tryz.mixed Tryz.func274 rfl Tryz.ayf ?_
 simp -implicitDefEqProofs -dsimp only [go_sem, Tryz.ntmps274, Tryz.results274]
 exact al.ax (by simp) (by rfl)
theorem ae4 (a b : Int) : Ctr Tryz.prog 251 [.int .i64 a, .int .i64 b] [] (.int .i64 (ak4 a b)) [] := by
 refine Ctr.intro Tryz.mixed Tryz.func251 rfl Tryz.aw0 ?_
 simp -implicitDefEqProofs -dsimp only [go_sem, Tryz.ntmps251, Tryz.results251]
 (first | refine ak.at (qu a) ⟨leA, trivial⟩ ?_ | refine aj.at (qu a) ⟨leA, trivial⟩ ?_)
 simp -implicitDefEqProofs -dsimp only [go_sem]
 (first | refine ak.at (qu b) ⟨leA, trivial⟩ ?_ | refine aj.at (qu b) ⟨leA, trivial⟩ ?_)
 simp -implicitDefEqProofs -dsimp only [go_sem]
 refine bd.split (fun h1 => ?_) (fun h1 => ?_) <;> simp -implicitDefEqProofs -dsimp only [go_sem, h1]
 · exact al.ax (by rw [ak4, if_pos (of_decide_eq_true h1)]) (by rfl)
 · refine bd.split (fun h2 => ?_) (fun h2 => ?_) <;> simp -implicitDefEqProofs -dsimp only [go_sem, h2]
   · exact al.ax (by rw [ak4, if_neg (of_decide_eq_false h1), if_pos (of_decide_eq_true h2)]) (by rfl)
   · exact al.ax (by rw [ak4, if_neg (of_decide_eq_false h1), if_neg (of_decide_eq_false h2)]) (by rfl)
def j8 (x : an) : Bool := x.State == 1
def aio (x y : an) : Int := ak4 y.Size x.Size
def ng (w : ab) : List an := cg (fun x y => decide (aio x y < 0)) (w.Shocks.filter j8)
theorem akt {w : ab} (hw : wB w = true) : ng w = iy an.Size 95 (w.Shocks.filter j8) (List.range 116) := by
 have h : (fun x y : an => decide (aio x y < 0)) = fun x y => decide (y.Size < x.Size) := by
   funext x y
   exact aqa _ _
 rw [ng, h]
 refine aes (fun x hx => ?_)
 have := gq.1 ((dt hw).shocks x (List.mem_filter.1 hx).1)
 omega
theorem ako {w : ab} (hw : wB w = true) : ∃ G : Nat → List an, G 0 = [] ∧ (∀ j : Nat, G (j + 1) = G j ++ (w.Shocks.filter fun x => j8 x && x.Size == 95 - (j : Int))) ∧ (∀ j, (G j).length ≤ 6 * j) ∧ ng w = G 116 := by
 have hlen := (dt hw).slen
 have GS : ∀ j : Nat, iy an.Size 95 (w.Shocks.filter j8) (List.range (j + 1)) = iy an.Size 95 (w.Shocks.filter j8) (List.range j) ++ (w.Shocks.filter fun x => j8 x && x.Size == 95 - (j : Int)) := by
   intro j
   rw [List.range_succ, sn]
   congr 1
   simp only [iy, List.flatMap_cons, List.flatMap_nil, List.append_nil, List.filter_filter]
   congr 1
   funext x
   exact Bool.and_comm _ _
 refine ⟨fun j => iy an.Size 95 (w.Shocks.filter j8) (List.range j), rfl, GS, fun j => ?_, akt hw⟩
 induction j with
 | zero => simp [iy]
 | succ j ih =>
   show (iy an.Size 95 (w.Shocks.filter j8) (List.range (j + 1))).length ≤ _
   rw [GS, List.length_append]
   have := List.length_filter_le (fun x => j8 x && x.Size == 95 - (j : Int)) w.Shocks
   have ih' : (iy an.Size 95 (w.Shocks.filter j8) (List.range j)).length ≤ 6 * j := ih
   omega
def j2 (w : ab) : Option (List Int) := if wB w = true then some ((ng w).map an.Number) else none
theorem ai6 (x : an) : Ctr Tryz.prog 248 [x.v] [] (.bool (j8 x)) [] := by
 refine Ctr.intro Tryz.mixed Tryz.func248 rfl Tryz.avv ?_
 simp -implicitDefEqProofs -dsimp only [go_sem, Tryz.ntmps248, Tryz.results248]
 simp -implicitDefEqProofs -dsimp only [go_sem, an.v]
 exact al.ax rfl (by rfl)
theorem aob (x y : an) : Ctr Tryz.prog 250 [x.v, y.v] [] (.int .i64 (aio x y)) [] := by
 refine Ctr.intro Tryz.mixed Tryz.func250 rfl Tryz.awm ?_
 simp -implicitDefEqProofs -dsimp only [go_sem, Tryz.ntmps250, Tryz.results250]
 simp -implicitDefEqProofs -dsimp only [go_sem, an.v]
 (have ct := ae4 y.Size x.Size; (first | refine ak.at ct ⟨leA, leA, trivial⟩ ?_ | refine aj.at ct ⟨leA, leA, trivial⟩ ?_); clear ct)
 simp -implicitDefEqProofs -dsimp only [go_sem]
 exact al.ax rfl (by rfl)
theorem ah4 (w : ab) (hp : w.Posts.length ≤ 16777216) (hs : w.Shocks.length ≤ 16777216) : Ctr Tryz.prog 206 [w.v] [] (ri 1 (j2 w)) (ki IntS.cs (j2 w)) := by
 refine Ctr.intro Tryz.mixed Tryz.func206 rfl Tryz.ayr ?_
 simp -implicitDefEqProofs -dsimp only [go_sem, Tryz.ntmps206, Tryz.results206]
 simp -implicitDefEqProofs -dsimp only [go_sem, ab.v]
 (have ct := de w (by omega) (by omega); (first | refine ak.at ct ⟨leA, trivial⟩ ?_ | refine aj.at ct ⟨leA, trivial⟩ ?_); clear ct)
 cases h : wB w with
 | false =>
   simp -implicitDefEqProofs -dsimp only [go_sem]
   have e : j2 w = none := by simp [j2, h]
   rw [e]
   exact al.ax rfl (by rfl)
 | true =>
   have e : j2 w = some ((ng w).map an.Number) := by simp [j2, h]
   rw [e]
   have hw := dt h
   have hlen := hw.slen
   have hfl : (w.Shocks.filter j8).length ≤ 6 := Nat.le_trans (List.length_filter_le _ _) hlen
   have hrl : (ng w).length = (w.Shocks.filter j8).length := ja _ _
   simp -implicitDefEqProofs -dsimp only [go_sem]
   (first | refine ak.at (uz w.Shocks j8 _ [] (fun _ => rfl) ai6 hs) ⟨leA, leA, trivial⟩ ?_ | refine aj.at (uz w.Shocks j8 _ [] (fun _ => rfl) ai6 hs) ⟨leA, leA, trivial⟩ ?_)
   simp -implicitDefEqProofs -dsimp only [go_sem]
   refine aj.qb [1] false ( w4 (w.Shocks.filter j8) aio _ aob (by omega)) (by decide) ⟨leO, leO, trivial⟩ rr ( jh (by simp [ay, ja])) (.inl rfl) ?_
   have hr0 : cg (fun x y => decide (aio x y < 0)) (w.Shocks.filter j8) = ng w := rfl
   rw [hr0]
   simp -implicitDefEqProofs -dsimp only [go_sem]
   rw [← hrl]
   refine cw.intro (fun i : Nat => i ≤ (ng w).length) (fun i => ⟨[.undef, .undef, .undef, .undef, .undef, .osl 2 0 i 1, .undef, .undef, .undef, .undef, .undef, .undef, .undef, .undef, .undef, .undef, .undef, .osl 1 0 (ng w).length 5, .int .i64 (ng w).length, .int .i64 i, .undef, .undef, .undef, .undef, .undef, .undef, .undef, .undef, .undef, .undef], [some w.cs, some (rows an.cs (ng w)), some (rows IntS.cs (((ng w).take i).map an.Number))], 0⟩) (fun i => (ng w).length - i) 0 (Nat.zero_le _) ?_ (fun i hi => ?_)
   · refine br.cut (3) (by simp) (by simp) ?_ ?_
     · simp [LeC, LeV, ren, bm]
     · (simp [cb, db, ren, ae, ab.cs]; try rfl)
   simp -implicitDefEqProofs -dsimp only [go_sem]
   refine bd.split (fun h1 => ?_) (fun h1 => ?_)
   · simp -implicitDefEqProofs -dsimp only [go_sem, h1]
     have hi' : i < (ng w).length := by simpa using h1
     have h5 := an.csl (ng w)[i]
     have hr := bt an.csl hi'
     (repeat ((repeat1' (first | simp -implicitDefEqProofs -dsimp only [go_sem, hr, an.cs, ay, bb, Nat.mul_one, List.length_map, List.length_take] | simp -dsimp (disch := omega) only [wrap_i64])); repeat (with_reducible refine ah ?_)))
     refine ⟨i + 1, hi', ?_, by omega⟩
     refine br.cut (3) (by simp) (by simp) ?_ ?_
     · simp [LeC, LeV, ren, bm]
     · rw [List.take_succ_eq_append_getElem hi', List.map_append, List.map_singleton, ← dk]
       simp [cb, db, ren, bm, ae, cx, jk, ab.cs, IntS.cs]
   · simp -implicitDefEqProofs -dsimp only [go_sem, h1]
     have hi' : i = (ng w).length := by simp at h1; omega
     subst hi'
     rw [List.take_length]
     have hml : ((ng w).map an.Number).length = (ng w).length := List.length_map _
     simp only [ri, ki, hml]
     refine al.pick [2] (by decide) (fun j hj => by omega) (.inl ?_) ?_
     · first | rfl | (simp [ren, bg, posOf]; done)
     · simp only [bc, List.map_cons, List.map_nil, bh, List.getElem?_cons_zero, List.getElem?_cons_succ, ae]
theorem ahe (w : ab) (hp : w.Posts.length ≤ 16777216) (hs : w.Shocks.length ≤ 16777216) : Ctr Tryz.prog 214 [w.v] [] (tn 1 (j2 w)) (lz IntS.cs (j2 w)) := by
 refine Ctr.intro Tryz.mixed Tryz.func214 rfl Tryz.azs ?_
 simp -implicitDefEqProofs -dsimp only [go_sem, Tryz.ntmps214, Tryz.results214]
 simp -implicitDefEqProofs -dsimp only [go_sem, ab.v]
 (have ct := dv w (by omega) (by omega); (first | refine ak.at ct ⟨leA, trivial⟩ ?_ | refine aj.at ct ⟨leA, trivial⟩ ?_); clear ct)
 cases h : wB w with
 | false =>
   simp -implicitDefEqProofs -dsimp only [go_sem]
   have e : j2 w = none := by simp [j2, h]
   rw [e]
   simp only [tn, lz]
   refine al.pick [1] (by decide) (fun j hj => by omega) (.inl ?_) ?_
   · first | rfl | (simp [ren, bg, posOf]; done)
   · simp only [bc, List.map_cons, List.map_nil, bh, List.getElem?_cons_zero, List.getElem?_cons_succ, ae]
 | true =>
   have e : j2 w = some ((ng w).map an.Number) := by simp [j2, h]
   obtain ⟨G, G0, GS, GL, hend⟩ := ako h
   rw [e, hend]
   clear e hend
   have hw := dt h
   have hlen := hw.slen
   have hfl : (w.Shocks.filter j8).length ≤ 6 := Nat.le_trans (List.length_filter_le _ _) hlen
   simp -implicitDefEqProofs -dsimp only [go_sem]
   refine cw.intro (fun j : Nat => j ≤ 116) (fun j => ⟨[.undef, .ptr 0 0, .undef, .undef, .osl 1 0 (G j).length 1, .int .i64 (95 - (j : Int)), .undef, .undef, .undef, .undef, .undef, .undef, .undef, .undef, .undef, .undef, .undef, .undef, .undef, .undef, .undef, .undef, .undef, .undef, .undef, .undef, .undef, .undef, .undef, .undef, .undef, .undef, .undef, .undef, .undef, .undef, .undef, .undef, .undef, .undef, .undef, .undef, .undef, .undef], [some w.cs, some (rows IntS.cs ((G j).map an.Number))], 0⟩) (fun j => 116 - j) 0 (Nat.zero_le _) ?_ (fun j hj => ?_)
   · refine br.cut (2) (by simp) (by simp) ?_ ?_
     · simp [LeC, LeV, ren, bm, G0]
     · (simp [cb, db, ren, ae, ab.cs, G0]; try rfl)
   simp -implicitDefEqProofs -dsimp only [go_sem]
   refine bd.split (fun h1 => ?_) (fun h1 => ?_)
   · simp -implicitDefEqProofs -dsimp only [go_sem, h1]
     have hj' : j < 116 := by simp at h1; omega
     have hstep : ∀ {i : Nat} (hi : i < w.Shocks.length), (w.Shocks.take (i + 1)).filter (fun x => j8 x && x.Size == 95 - (j : Int)) = (w.Shocks.take i).filter (fun x => j8 x && x.Size == 95 - (j : Int)) ++ if (j8 w.Shocks[i] && w.Shocks[i].Size == 95 - (j : Int)) = true then [w.Shocks[i]] else [] := fun {i} hi => by
       rw [List.take_succ_eq_append_getElem hi, List.filter_append]
       congr 1
       cases h : (j8 w.Shocks[i] && w.Shocks[i].Size == 95 - (j : Int)) <;> simp [h]
     generalize hF : (fun i : Nat => G j ++ (w.Shocks.take i).filter (fun x => j8 x && x.Size == 95 - (j : Int))) = F
     have F0 : F 0 = G j := by rw [← hF]; simp
     have FS1 : ∀ {i : Nat} (hi : i < w.Shocks.length), (j8 w.Shocks[i] && w.Shocks[i].Size == 95 - (j : Int)) = true → F (i + 1) = F i ++ [w.Shocks[i]] := by
       intro i hi hc
       rw [← hF]
       simp only [hstep hi, hc, if_true, List.append_assoc]
     have FS0 : ∀ {i : Nat} (hi : i < w.Shocks.length), (j8 w.Shocks[i] && w.Shocks[i].Size == 95 - (j : Int)) = false → F (i + 1) = F i := by
       intro i hi hc
       rw [← hF]
       simp only [hstep hi, hc, if_false, List.append_nil, Bool.false_eq_true]
     have FE : F w.Shocks.length = G (j + 1) := by rw [← hF, GS]; simp
     have FL : ∀ i, (F i).length ≤ 6 * j + 6 := by
       intro i
       rw [← hF]
       simp only [List.length_append]
       have h2 := List.length_filter_le (fun x => j8 x && x.Size == 95 - (j : Int)) (w.Shocks.take i)
       have h3 := GL j
       rw [List.length_take] at h2
       omega
     clear hF hstep
     refine cw.intro (fun i : Nat => i ≤ w.Shocks.length) (fun i => ⟨[.undef, .ptr 0 0, .undef, .undef, .osl 1 0 (F i).length 1, .int .i64 (95 - (j : Int)), .int .i64 i, .undef, .undef, .undef, .undef, .undef, .undef, .undef, .undef, .undef, .undef, .undef, .undef, .undef, .undef, .undef, .undef, .undef, .undef, .undef, .undef, .undef, .undef, .undef, .undef, .undef, .undef, .undef, .undef, .undef, .undef, .undef, .undef, .undef, .undef, .undef, .undef, .undef], [some w.cs, some (rows IntS.cs ((F i).map an.Number))], 0⟩) (fun i => w.Shocks.length - i) 0 (Nat.zero_le _) ?_ (fun i hi => ?_)
     · refine br.cut (2) (by simp) (by simp) ?_ ?_
       · simp [LeC, LeV, ren, bm, F0]
       · simp [cb, db, ren, ae, ab.cs, F0]
     simp -implicitDefEqProofs -dsimp only [go_sem, ab.cs]
     refine bd.split (fun h2 => ?_) (fun h2 => ?_)
     · simp -implicitDefEqProofs -dsimp only [go_sem, h2]
       have hi' : i < w.Shocks.length := by simpa using h2
       have h5 := an.csl w.Shocks[i]
       have hr := bt an.csl hi'
       have hFl := FL i
       (repeat ((repeat1' (first | simp -implicitDefEqProofs -dsimp only [go_sem, hr, an.cs, ab.cs] | simp -dsimp (disch := omega) only [wrap_i64])); repeat (with_reducible refine ah ?_)))
       refine a8.bu (fun h3 => ?_) (fun h3 => ?_) <;> simp -implicitDefEqProofs -dsimp only [go_sem, h3]
       · refine bd.split (fun h4 => ?_) (fun h4 => ?_) <;> simp -implicitDefEqProofs -dsimp only [go_sem, h4]
         · (repeat ((repeat1' (first | simp -implicitDefEqProofs -dsimp only [go_sem, hr, an.cs, ab.cs, ay, bb, Nat.mul_one, List.length_map] | simp -dsimp (disch := omega) only [wrap_i64])); repeat (with_reducible refine ah ?_)))
           have hc : (j8 w.Shocks[i] && w.Shocks[i].Size == 95 - (j : Int)) = true := by rw [j8, h3, h4]; rfl
           refine ⟨i + 1, hi', ?_, by omega⟩
           refine br.cut (2) (by simp) (by simp) ?_ ?_
           · rw [FS1 hi' hc]; simp [LeC, LeV, ren, bm]
           · rw [FS1 hi' hc, List.map_append, List.map_singleton, ← dk]
             simp [cb, db, ren, bm, ae, cx, jk, ab.cs, IntS.cs]
         · try (repeat1' (first | simp -implicitDefEqProofs -dsimp only [go_sem] | simp -dsimp (disch := omega) only [wrap_i64]))
           have hc : (j8 w.Shocks[i] && w.Shocks[i].Size == 95 - (j : Int)) = false := by rw [j8, h3, h4]; rfl
           refine ⟨i + 1, hi', ?_, by omega⟩
           refine br.cut (2) (by simp) (by simp) ?_ ?_
           · rw [FS0 hi' hc]; simp [LeC, LeV, ren, bm]
           · rw [FS0 hi' hc]; simp [cb, db, ren, ae, ab.cs]
       · try (repeat1' (first | simp -implicitDefEqProofs -dsimp only [go_sem] | simp -dsimp (disch := omega) only [wrap_i64]))
         have hc : (j8 w.Shocks[i] && w.Shocks[i].Size == 95 - (j : Int)) = false := by rw [j8, h3]; rfl
         refine ⟨i + 1, hi', ?_, by omega⟩
         refine br.cut (2) (by simp) (by simp) ?_ ?_
         · rw [FS0 hi' hc]; simp [LeC, LeV, ren, bm]
         · rw [FS0 hi' hc]; simp [cb, db, ren, ae, ab.cs]
     · simp -implicitDefEqProofs -dsimp only [go_sem, h2]
       have hi' : i = w.Shocks.length := by simp at h2; omega
       subst hi'
       try (repeat1' (first | simp -implicitDefEqProofs -dsimp only [go_sem] | simp -dsimp (disch := omega) only [wrap_i64]))
       refine ⟨j + 1, by omega, ?_, by omega⟩
       refine br.cut (2) (by simp) (by simp) ?_ ?_
       · rw [FE]; (simp [LeC, LeV, ren, bm]; try omega)
       · rw [FE]; simp [cb, db, ren, ae, ab.cs]
   · simp -implicitDefEqProofs -dsimp only [go_sem, h1]
     have hj' : j = 116 := by simp at h1; omega
     subst hj'
     have hml : ((G 116).map an.Number).length = (G 116).length := List.length_map _
     simp only [tn, lz, hml]
     refine al.pick [1] (by decide) (fun j hj => by omega) (.inl ?_) ?_
     · first | rfl | (simp [ren, bg, posOf]; done)
     · simp only [bc, List.map_cons, List.map_nil, bh, List.getElem?_cons_zero, List.getElem?_cons_succ, ae]
end Go.Proofs
end
