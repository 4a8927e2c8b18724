/-
  A part of the proof: texts put together by a program of the prover. Conditions: none.
-/
import Derived.Test.YtfpkiomipjmabaaGreatDoorZExecuteCommand9
import Derived.Shelf.RegionOpenPlain
import Derived.WalkKit
import Derived.Deep.LoopGhost
import Derived.Deep.RegionLaw
import Derived.Lib.Walk
import Derived.Sort.WalkB12
import Derived.Lib.SliceRun
import Derived.Deep.Upon
import Derived.Deep.MidRow
import Derived.Laws.IdiomCopy
import Derived.Lib.Hide
set_option linter.unusedSimpArgs false
set_option linter.unusedVariables false
section
set_option maxRecDepth 100000
set_option maxHeartbeats 4000000
namespace Go.Proofs
open Go.Lv
open Go.Shelf Go.RowKit Go.Lib Go.Sort
def tm (C : Array Value) : Nat → List Value → Array Value
 | _, [] => C
 | o, v :: r => tm (C.setIfInBounds o v) (o + 1) r
theorem o8 : ∀ (vs : List Value) (C : Array Value) (o : Nat), (tm C o vs).size = C.size
 | [], _, _ => rfl
 | v :: r, C, o => by rw [tm, o8 r]; simp
theorem u6 : ∀ (vs : List Value) (C : Array Value) (o k : Nat), (k < o ∨ o + vs.length ≤ k) → (tm C o vs).getD k Go.undef = C.getD k Go.undef
 | [], _, _, _, _ => rfl
 | v :: r, C, o, k, hk => by
  simp only [List.length_cons] at hk
  rw [tm, u6 r _ _ _ (by omega), Array.getD_eq_getD_getElem?, Array.getD_eq_getD_getElem?, Array.getElem?_setIfInBounds_ne (by omega)]
theorem afj : ∀ (vs : List Value) (C : Array Value) (o j : Nat) (hj : j < vs.length), o + vs.length ≤ C.size → (tm C o vs).getD (o + j) Go.undef = vs[j]
 | v :: r, C, o, 0, _, h => by
  simp only [List.length_cons] at h
  rw [tm, u6 r _ _ _ (by omega), Array.getD_eq_getD_getElem?, Nat.add_zero, Array.getElem?_setIfInBounds_self_of_lt (by omega)]
  rfl
 | v :: r, C, o, j + 1, hj, h => by
  simp only [List.length_cons] at h
  have := afj r (C.setIfInBounds o v) (o + 1) j (by simpa using hj) (by simp; omega)
  rw [tm, show o + (j + 1) = o + 1 + j by omega, this]
  rfl
theorem s8 (b : Nat) : ∀ (vs : List Value) (o : Nat) (w : World) (C : Array Value) (T : TypeId) (fr : Nat × Nat), w.heap[b]? = some (.cells C T fr) → w.setCells b o vs = w.setRow b (tm C o vs)
 | [], _, w, C, T, fr, hb => (setRow_self w b C T fr hb).symm
 | v :: r, o, w, C, T, fr, hb => by
  rw [World.setCells, setCell_eq_setRow w b o C T fr v hb, s8 b r (o + 1) _ _ T fr (setRow_heap w b C _ T fr hb), setRow_setRow]
  rfl
theorem acz {P : Program} (w : World) (t e ty : TypeId) (z : Value) (ht : P.underlying t = some (.slice e)) (hv : ∀ w, (zeroValue e).run P w = .ok z w) (h1 : ∀ u ∈ z.cells.toList, u.oneCell' = true) (b o c : Nat)
 (hc : ∀ j, j < z.cells.size → (w.cell? ⟨b, o + j, none⟩).isSome = true) (hf : ∀ j, j < z.cells.size → w.frozen? ⟨b, o + j, none⟩ = false) :
 (Builtin.clear_ #[t] ty #[.slice (some ⟨b, o, none⟩) 1 c]).run P w = .ok (.tuple #[]) (w.setCells b o z.cells.toList) := by
 have hzc : (Builtin.zeroCells z.cells 1).toList = z.cells.toList := by
  simp [Builtin.zeroCells]
  apply List.ext_getElem
  · simp
  · intro i h1 h2
    simp at h1
    simp [Nat.mod_eq_of_lt h1, h1]
 have hst := run_storeCells_cells (P := P) b o z.cells.toList 0 w (by simpa using hc) (by simpa using hf) (by intro v hv'; exact h1 v hv')
 simp only [Nat.add_zero] at hst
 simp [Builtin.clear_, run_underlying ht, hv, hzc, hst]
def eh : Value := .agg #[.int .i64 0, .int .i64 0, .int .i64 0, .int .i64 0, .int .i64 0]
theorem afy (b n cap i : Nat) (C : Array Value) (T : TypeId) (w : World) {fr : Nat × Nat} (hb : w.heap[b]? = some (.cells C T fr)) (hfr : w8 fr C.size) (hC : cap * 5 ≤ C.size) (hn : n ≤ cap) (hi : i < n) (news : List Value) (hnl : news.length = (n - (i + 1)) * 5)
 (hng : ∀ t, t < (n - (i + 1)) * 5 → news[t]? = some (C.getD ((i + 1) * 5 + t) Go.undef)) (h1 : ∀ u ∈ news, u.oneCell' = true) :
 Calls Tryz.prog 284 #[.slice (some ⟨b, 0, none⟩) n cap, .int .i64 i, .int .i64 ((i : Int) + 1)] w fun e w' =>
  e = .returned (.slice (some ⟨b, 0, none⟩) (n - 1) cap) ∧ w' = ((w.drew).setCells b (i * 5) news).setCells b ((n - 1) * 5) eh.cells.toList := by
 have he : gn Tryz.prog 52 = some (128, 5, 40) := by kernel_rfl
 obtain ⟨i0, t81, hi0, hz5, _⟩ := gq he
 have hzv : ∀ w, (zeroValue 128).run Tryz.prog w = .ok eh w := by
  have hz : (Tryz.prog.info? 128).bind (·.zero) = some eh := by kernel_rfl
  intro w
  rw [hi0] at hz
  simp only [Option.bind_some] at hz
  simp [zeroValue, typeInfo, hi0, hz]
 have hcell : ∀ k, k < C.size → w.cell? ⟨b, k, none⟩ = some (C.getD k Go.undef) := fun k hk => by simp [World.cell?, hb, Array.getD, hk]
 have hfrz : ∀ (k : Nat), k < C.size → w.frozen? ⟨b, k, none⟩ = false := fun k hk => hfr.not hb hk
 obtain ⟨A, hA, hsrc⟩ : ∃ A : Addr, (if cap = i + 1 then some (⟨b, 0, none⟩ : Addr) else some ⟨b, (i + 1) * 5, none⟩) = some A ∧ Hid (∀ t u, news[t]? = some u → w.drew.cell? (A.add t) = some u) := by
  by_cases h : cap = i + 1
  · refine ⟨⟨b, 0, none⟩, by simp [h], fun t u hu => ?_⟩
    have h0 : news.length = 0 := by rw [hnl]; omega
    rw [List.length_eq_zero_iff.1 h0] at hu
    simp at hu
  · refine ⟨⟨b, (i + 1) * 5, none⟩, by simp [h], fun t u hu => ?_⟩
    have ht : t < (n - (i + 1)) * 5 := by
     have := (List.getElem?_eq_some_iff.1 hu).1
     rwa [hnl] at this
    rw [hng t ht] at hu
    rw [Addr.add_lit]
    exact (hcell ((i + 1) * 5 + t) (by omega)).trans hu
 have s1 : Hid (news.length = (n - (i + 1)) * 5) := hnl
 have s2 : Hid (∀ u ∈ news, u.oneCell' = true) := h1
 have s3 : Hid (∀ t, t < news.length → (w.drew.cell? ⟨b, 0 + i * 5 + t, none⟩).isSome = true ∧ w.drew.frozen? ⟨b, 0 + i * 5 + t, none⟩ = false) := by
  intro t ht
  rw [hnl] at ht
  exact ⟨by show (w.cell? _).isSome = true; rw [hcell _ (by omega)]; rfl, hfrz _ (by omega)⟩
 obtain ⟨W1, hW1⟩ : ∃ W1, W1 = w.drew.setCells b (i * 5) news := ⟨_, rfl⟩
 have hsome : ∀ k, k < C.size → (W1.cell? ⟨b, k, none⟩).isSome = true := fun k hk => by
  rw [hW1]
  exact World.isSome_setCells b news _ w.drew _ (by show (w.cell? _).isSome = true; rw [hcell k hk]; rfl)
 have hcl : ∀ ty, (Builtin.clear_ #[52] ty #[.slice (some ⟨b, (i + (n - (i + 1))) * 5, none⟩) (n - (i + (n - (i + 1)))) (cap - (i + (n - (i + 1))))]).run Tryz.prog W1 = .ok (.tuple #[]) (W1.setCells b ((i + (n - (i + 1))) * 5) eh.cells.toList) := by
  intro ty
  have e1 : n - (i + (n - (i + 1))) = 1 := by omega
  rw [e1]
  refine acz W1 _ _ ty eh t81 hzv (by decide) b _ _ (fun j hj => hsome _ ?_) (fun j hj => ?_)
  · have : j < 5 := hj
    omega
  · rw [hW1, World.frozen?_setCells]
    have : j < 5 := hj
    exact hfrz _ (by omega)
 obtain ⟨zc, hzc⟩ : ∃ zc, zc = eh.cells.toList := ⟨_, rfl⟩
 rw [← hzc] at hcl
 have Z : Aside (zc = eh.cells.toList) := hzc
 have X : Aside (W1 = w.drew.setCells b (i * 5) news) := hW1
 have hW : Hid (W1 = w.drew.setCells b (0 + i * 5) news) := by rw [Nat.zero_add]; exact hW1
 have hic : i ≤ cap := by omega
 have hjc : i + 1 ≤ cap := by omega
 have hz5' : Hid (i0.size = 5) := hz5
 have mixed := Tryz.mixed
 have hb1 : (0 : Int) ≤ (i : Int) + 1 ∧ (i : Int) + 1 ≤ (n : Int) := by omega
 have hb2 : (0 : Int) ≤ (i : Int) + 1 := by omega
 have hb3 : (i : Int) + 1 ≤ (n : Int) := by omega
 clear hzc hzv hW1 hnl hng h1 hcell hfrz hfr hb hsome
 go_enter Tryz.func284, Tryz.ntmps284
 go_wp2_with fail
 go_region_law_o (refine step_append_room rfl (.tmp 22) (.tmp 25) 52 rfl 128 i0 5 t81 hi0 hz5'.out b 0 i cap (by simp [Act.eval, Act.put]) A (n - (i + 1)) (cap - (i + 1)) news (by simp [Act.eval, Act.put]) s1.out hsrc.out s2.out (by omega) s3.out ?_; rw [← hW.out])
 go_wp2
 go_ret
 have e1 : i + (n - (i + 1)) = n - 1 := by omega
 refine ⟨?_, ?_⟩
 · rw [e1]
   rfl
 · rw [e1, X.out, Z.out]
theorem agr (L : List ai) (i : Nat) (hi : i < L.length) : Ctr Tryz.prog 284 [.osl 0 0 L.length 5, .int .i64 i, .int .i64 ((i : Int) + 1)] [some (rows ai.cs L)] (.osl 0 0 (L.length - 1) 5)
 [some (rows ai.cs (L.take i ++ L.drop (i + 1)) ++ [.int .i64 0, .int .i64 0, .int .i64 0, .int .i64 0, .int .i64 0])] := by
 refine Ctr.raw (by kernel_rfl) (fun w vs m av I hs => ?_)
 obtain ⟨n, hn⟩ : ∃ n, n = L.length := ⟨_, rfl⟩
 have hlen : (rows ai.cs L).length = n * 5 := by rw [fm, hn]
 have h0 := I.slots 0 (by simp)
 have h1 := I.slots 1 (by simp)
 have h2 := I.slots 2 (by simp)
 dsimp only [List.getElem_cons_zero, List.getElem_cons_succ] at h0 h1 h2
 have e1 := q8 h1
 have e2 := q8 h2
 obtain ⟨v0, hv0⟩ : ∃ v0, v0 = vs.getD 0 Go.undef := ⟨_, rfl⟩
 rw [← hv0] at h0
 have hvs : vs = #[v0, .int .i64 i, .int .i64 ((i : Int) + 1)] := by
  have hsz : vs.size = 3 := hs
  apply Array.ext
  · simpa using hsz
  · intro k hk hk'
    have hk3 : k < 3 := by omega
    have hg : vs[k] = vs.getD k Go.undef := by simp [Array.getD, hk]
    rw [hg]
    rcases (show k = 0 ∨ k = 1 ∨ k = 2 by omega) with rfl | rfl | rfl
    · exact hv0.symm
    · exact e1
    · exact e2
 cases h0 with
 | osl _ _ _ cap _ cs hid hl hc hsz =>
  have hcs : cs = rows ai.cs L := by
   have := hid.1
   simpa using this.symm
  subst hcs
  rcases I.rh.blk 0 _ hid.1 with ⟨C, T, fr, hb, hfr, hle, hr⟩ | ⟨E, c, es, hb, hmb, _⟩
  rotate_left
  · have := hid.2
    rw [hmb] at this
    cases this
  have hrow : cr w (m 0) = C.size := by simp [cr, hb]
  rw [hrow] at hsz
  rw [← hn] at hc hi ⊢
  obtain ⟨news, hnews⟩ : ∃ news : List Value, news = (List.range ((n - (i + 1)) * 5)).map fun t => C.getD ((i + 1) * 5 + t) Go.undef := ⟨_, rfl⟩
  have hnl : news.length = (n - (i + 1)) * 5 := by rw [hnews]; simp
  have hng : ∀ t, t < (n - (i + 1)) * 5 → news[t]? = some (C.getD ((i + 1) * 5 + t) Go.undef) := fun t ht => by rw [hnews]; simp [ht]
  have hcellAll := a8 (cs := ai.cs) L
  have h1c : ∀ u ∈ news, u.oneCell' = true := by
   intro u hu
   rw [hnews] at hu
   obtain ⟨t, ht, rfl⟩ := List.mem_map.1 hu
   have ht' := List.mem_range.1 ht
   have hk : (i + 1) * 5 + t < (rows ai.cs L).length := by rw [hlen]; omega
   exact (afm (hr _ hk) (List.all_eq_true.1 hcellAll _ (List.getElem_mem hk))).1
  rw [hvs, ← hn]
  refine (afy (m 0) n cap i C T w hb hfr (by omega) hc hi news hnl hng h1c).mono ?_
  rintro e w' ⟨rfl, rfl⟩
  have hbd : w.drew.heap[m 0]? = some (.cells C T fr) := hb
  have hw : ((w.drew).setCells (m 0) (i * 5) news).setCells (m 0) ((n - 1) * 5) eh.cells.toList = w.drew.setRow (m 0) (tm (tm C (i * 5) news) ((n - 1) * 5) eh.cells.toList) := by
   rw [s8 (m 0) news _ w.drew C T _ hbd, s8 (m 0) _ _ _ _ T _ (setRow_heap w.drew (m 0) C _ T _ hbd), setRow_setRow]
  rw [hw]
  have I1 := I.world (Ext.drew _ w)
  have hz5 : eh.cells.toList.length = 5 := rfl
  have hcut : rows ai.cs (L.take i ++ L.drop (i + 1)) = (rows ai.cs L).take (i * 5) ++ (rows ai.cs L).drop ((i + 1) * 5) := by rw [c8, adn ai.csl, yi ai.csl]
  have hl1 : ((rows ai.cs L).take (i * 5)).length = i * 5 := by rw [List.length_take, hlen]; omega
  have hl2 : ((rows ai.cs L).drop ((i + 1) * 5)).length = (n - (i + 1)) * 5 := by rw [List.length_drop, hlen]; omega
  rw [hcut]
  obtain ⟨J, hstep⟩ := I1.setRow (id := 0) (cs := rows ai.cs L) (cs' := (rows ai.cs L).take (i * 5) ++ (rows ai.cs L).drop ((i + 1) * 5) ++ [.int .i64 0, .int .i64 0, .int .i64 0, .int .i64 0, .int .i64 0])
   (C := C) (C' := tm (tm C (i * 5) news) ((n - 1) * 5) eh.cells.toList) (T := T) hid hbd hfr (by rw [o8, o8]) (by simp only [List.length_append, hl1, hl2, hlen, List.length_cons, List.length_nil]; omega) (by simp only [List.length_append, hl1, hl2, o8, List.length_cons, List.length_nil]; omega) (fun k hk => by
    simp only [List.length_append, hl1, hl2, List.length_cons, List.length_nil] at hk
    have hrd : ∀ j (hj : j < (rows ai.cs L).length), RV w.drew m [some (rows ai.cs L)] (avm av m [some (rows ai.cs L)]) true (C.getD j Go.undef) (rows ai.cs L)[j] := by
     rcases I1.rh.blk 0 _ hid.1 with ⟨C2, T2, fr2, hb2, _, _, hr2⟩ | ⟨E, c, es, hb2, hmb, _⟩
     · rw [hbd] at hb2
       simp only [Option.some.injEq, Obj.cells.injEq] at hb2
       obtain ⟨rfl, _⟩ := hb2
       exact hr2
     · rw [hbd] at hb2; cases hb2
    rcases Nat.lt_or_ge k (i * 5) with h | h
    · rw [u6 _ _ _ _ (by omega), u6 _ _ _ _ (by omega)]
      have := hrd k (by omega)
      simpa [List.getElem_append, hl1, hl2, h, show k < i * 5 + (n - (i + 1)) * 5 by omega] using this
    · rcases Nat.lt_or_ge k ((n - 1) * 5) with h' | h'
      · rw [u6 _ _ _ _ (by omega)]
        have hj : k - i * 5 < news.length := by omega
        have := afj news C (i * 5) (k - i * 5) hj (by omega)
        rw [show i * 5 + (k - i * 5) = k by omega] at this
        rw [this]
        have h3 := hng (k - i * 5) (by omega)
        rw [List.getElem?_eq_getElem hj] at h3
        simp only [Option.some.injEq] at h3
        rw [h3]
        have h4 := hrd ((i + 1) * 5 + (k - i * 5)) (by omega)
        have hlt : ¬ k < i * 5 := by omega
        simpa [List.getElem_append, hl1, hl2, hlt, show k < i * 5 + (n - (i + 1)) * 5 by omega, show k - i * 5 < (n - (i + 1)) * 5 by omega] using h4
      · have hj : k - (n - 1) * 5 < eh.cells.toList.length := by rw [hz5]; omega
        have := afj eh.cells.toList (tm C (i * 5) news) ((n - 1) * 5) (k - (n - 1) * 5) hj (by rw [o8]; omega)
        rw [show (n - 1) * 5 + (k - (n - 1) * 5) = k by omega] at this
        rw [this]
        have hge : ¬ k < i * 5 + (n - (i + 1)) * 5 := by omega
        have e5 : ∀ q, (hq : q < 5) → ([V.int .i64 0, .int .i64 0, .int .i64 0, .int .i64 0, .int .i64 0] : List V)[q]'(by simpa using hq) = .int .i64 0 := fun q hq => by
         rcases (show q = 0 ∨ q = 1 ∨ q = 2 ∨ q = 3 ∨ q = 4 by omega) with rfl | rfl | rfl | rfl | rfl <;> rfl
        have e6 : ∀ q, (hq : q < 5) → eh.cells.toList[q]'(by rw [hz5]; exact hq) = .int .i64 0 := fun q hq => by
         rcases (show q = 0 ∨ q = 1 ∨ q = 2 ∨ q = 3 ∨ q = 4 by omega) with rfl | rfl | rfl | rfl | rfl <;> rfl
        rw [e6 _ (by omega), List.getElem_append_right (by rw [List.length_append, hl1, hl2]; omega), e5 _ (by rw [List.length_append, hl1, hl2]; omega)]
        exact .int _ _)
  refine ⟨_, m, _, _, rfl, ?_, J, ?_⟩
  · rfl
  · have := RV.osl (w := w.drew.setRow (m 0) (tm (tm C (i * 5) news) ((n - 1) * 5) eh.cells.toList)) (m := m) (h := [some ((rows ai.cs L).take (i * 5) ++ (rows ai.cs L).drop ((i + 1) * 5) ++ [.int .i64 0, .int .i64 0, .int .i64 0, .int .i64 0, .int .i64 0])]) (av := avm av m [some ((rows ai.cs L).take (i * 5) ++ (rows ai.cs L).drop ((i + 1) * 5) ++ [.int .i64 0, .int .i64 0, .int .i64 0, .int .i64 0, .int .i64 0])]) 0 0 (n - 1) cap 5 _ ⟨rfl, ?_⟩ ?_ (by omega) ?_
    · exact this
    · have hlen2 : 5 ≤ ((rows ai.cs L).take (i * 5) ++ (rows ai.cs L).drop ((i + 1) * 5) ++ [V.int .i64 0,   .int .i64 0, .int .i64 0, .int .i64 0, .int .i64 0]).length := by simp only [List.length_append, List.length_cons, List.length_nil]; omega
      match h : ((rows ai.cs L).take (i * 5) ++ (rows ai.cs L).drop ((i + 1) * 5) ++ [V.int .i64 0, .int .i64 0, .int .i64 0, .int .i64 0, .int .i64 0]), hlen2 with
      | [], h2 => rfl
      | [x], h2 => simp at h2
      | _ :: _ :: _, _ => rfl
    · simp only [List.length_append, hl1, hl2, List.length_cons, List.length_nil]; omega
    · have : cr (w.drew.setRow (m 0) (tm (tm C (i * 5) news) ((n - 1) * 5) eh.cells.toList)) (m 0) = C.size := by
       simp only [cr, setRow_heap w.drew (m 0) C _ T _ hbd, o8]
      rw [this]; omega
end Go.Proofs
end
section
set_option maxRecDepth 100000
set_option maxHeartbeats 1000000
namespace Go.Proofs
open Go.Lv
def z5 : List V := [.int .i64 0, .int .i64 0, .int .i64 0, .int .i64 0, .int .i64 0]
theorem aln (w : ab) (i : Nat) (n v : Int) (hw : wB w = true) (hi : i < w.Shocks.length) : Ctr Tryz.prog 272 [.ptr 0 0, .int .i64 i, .agg [.int .i64 8, .int .i64 n, .int .i64 v]] [some (w.oc 1 2), some (rows ay.cs w.Posts), some (rows ai.cs w.Shocks)] (.bool (abi w w.Shocks[i]))
 [some ((im w i).oc 1 2), some (rows ay.cs w.Posts), some (rows ai.cs (w.Shocks.take i ++ w.Shocks.drop (i + 1)) ++ z5)] := by
 have W := dt hw
 have hx := W.shocks _ (List.getElem_mem hi)
 have hb := gj.1 hx
 have hr := bu ai.csl hi
 have sl := W.slen
 have hwi : IntKind.i64.wrap ((i : Int) + 1) = (i : Int) + 1 := wrap_i64 (by omega) (by omega)
 have hwa : IntKind.i64.wrap (w.Archived + 1) = w.Archived + 1 := by have := W.arch; exact wrap_i64 (by omega) (by omega)
 have hwn : IntKind.i64.wrap (w.Now - w.Shocks[i].Tick) = w.Now - w.Shocks[i].Tick := by have := W.now; exact wrap_i64 (by omega) (by omega)
 have e : (w.Shocks.take i ++ w.Shocks.drop (i + 1)).length = w.Shocks.length - 1 := by simp; omega
 have hall : (rows ai.cs (w.Shocks.take i ++ w.Shocks.drop (i + 1)) ++ z5).all bp = true := by
  rw [List.all_append, a8]; rfl
 have hg : grown [some (rows ai.cs w.Shocks)] [some (rows ai.cs (w.Shocks.take i ++ w.Shocks.drop (i + 1)) ++ z5)] := by
  refine ⟨⟨?_, by rw [ph hall, lh]⟩, trivial⟩
  rw [List.length_append, fm, fm, e]
  show _ = (w.Shocks.length - 1) * 5 + 5
  omega
 refine Ctr.intro Tryz.mixed Tryz.func272 rfl Tryz.afr ?_
 simp -implicitDefEqProofs -dsimp only [go_sem, Tryz.ntmps272, Tryz.results272]
 (repeat ((repeat1' (first | simp -implicitDefEqProofs -dsimp only [go_sem, ab.oc, hr, ai.cs, hwi] | simp -dsimp (disch := omega) only [wrap_i64])); repeat (with_reducible refine ah ?_)))
 refine ak.tj [2] false ( agr w.Shocks i hi) (by decide) ⟨leO, leO, leO, trivial⟩ xh ( hg) (.inl rfl) ?_
 (repeat ((repeat1' (first | simp -implicitDefEqProofs -dsimp only [go_sem, ab.oc, hwa] | simp -dsimp (disch := omega) only [wrap_i64])); repeat (with_reducible refine ah ?_)))
 clear hall hg
 repeat' (first | (refine ax.bq (fun _ => ?_) (fun _ => ?_) <;> (repeat ((repeat1' (first | simp -implicitDefEqProofs -dsimp only [go_sem, *] | simp -dsimp (disch := omega) only [wrap_i64])); repeat (with_reducible refine ah ?_)))) | (refine ax.ch (fun _ => ?_) (fun _ => ?_) <;> (repeat ((repeat1' (first | simp -implicitDefEqProofs -dsimp only [go_sem, *] | simp -dsimp (disch := omega) only [wrap_i64])); repeat (with_reducible refine ah ?_)))))
 all_goals
  refine aj.pick [0, 1, 2] (by decide) (fun j hj => by have hj' : j = 0 ∨ j = 1 ∨ j = 2 := (by omega); rcases hj' with rfl | rfl | rfl <;> rfl) (.inl (by first | rfl | (simp [ren, abi, *]; done))) ?_
  simp [bb, bj, ren, bf, posOf, ae, ab.oc, im, z5, *]
  try omega
theorem bh {x y : V} (h : LeV x y := by first | exact leA | exact ab.le rfl rfl | exact ab.leT rfl rfl rfl) : LeV x y := h
theorem ab.leT {h : Hp} {w : ab} {i0 i1 n : Nat} {z : List V} (hn : n = w.Shocks.length) (h0 : h[i0]? = some (some (rows ay.cs w.Posts))) (h1 : h[i1]? = some (some (rows ai.cs w.Shocks ++ z))) : LeV (ren (ef h 3) 3 (.agg [.int .i64 w.Now, .osl i0 0 w.Posts.length 3, .osl i1 0 n 5, .int .i64 w.Next, .int .i64 w.Archived])) w.v := by
 subst hn
 refine .inl ?_
 have e : ∀ y : List V, (rows ai.cs w.Shocks ++ y).take (w.Shocks.length * 5) = rows ai.cs w.Shocks := fun y => List.take_left' (fm _)
 simp only [ab.v, ren, List.map_cons, List.map_nil, ef, h0, h1, ae, List.drop_zero, ig, List.map_append, e]
def ea (w : ab) (k n v : Int) : ab := if k = 1 then ⟨w.Now + (if 1000000 < v then 1000000 else v), w.Posts, w.Shocks, w.Next, w.Archived⟩ else eb w k n v
theorem ak2 (w : ab) (n v : Int) (hw : wB w = true) (hv : 1 ≤ v) : Ctr Tryz.prog 243 [w.v, .agg [.int .i64 1, .int .i64 n, .int .i64 v]] [] (.tup [(ea w 1 n v).o 0 1, .bool (dr w 1 n v)]) [some (rows ay.cs w.Posts), some (rows ai.cs w.Shocks)] := by
 have W := dt hw
 have pl := W.plen
 have sl := W.slen
 have wn := W.now
 have hw1 : IntKind.i64.wrap (1000000 - w.Now) = 1000000 - w.Now := wrap_i64 (by omega) (by omega)
 have hw2 : IntKind.i64.wrap (w.Now + (if 1000000 < v then 1000000 else v)) = w.Now + (if 1000000 < v then 1000000 else v) := by split <;> exact wrap_i64 (by omega) (by omega)
 have hgood := dj (ea w 1 n v) (by simp [ea]; omega) (by simp [ea]; omega)
 have e2 : dr w 1 n v = (decide (v ≤ 1000000 - w.Now) && wB (ea w 1 n v)) := by
  by_cases h : v ≤ 1000000 - w.Now
  · have h2 : ¬ 1000000 < v := by omega
    simp [dr, n7, eb, ea, h, h2]
  · simp [dr, n7, h]
 have e1 : ea w 1 n v = ⟨w.Now + (if 1000000 < v then 1000000 else v), w.Posts, w.Shocks, w.Next, w.Archived⟩ := by simp [ea]
 rw [e2]
 rw [e1] at hgood ⊢
 simp only [ab.v] at hgood
 refine Ctr.intro Tryz.mixed Tryz.func243 rfl Tryz.ug ?_
 simp -implicitDefEqProofs -dsimp only [go_sem, Tryz.ntmps243, Tryz.results243]
 simp -implicitDefEqProofs -dsimp only [go_sem, ab.v]
 (have ct := c7 w (by omega) (by omega); (first | refine al.at ct ⟨bh, trivial⟩ ?_ | refine ak.at ct ⟨bh, trivial⟩ ?_); clear ct)
 (repeat ((repeat1' (first | simp -implicitDefEqProofs -dsimp only [go_sem, ab.o, hw1, hw2] | simp -dsimp (disch := omega) only [wrap_i64])); repeat (with_reducible refine ah ?_)))
 refine ax.bq (fun g => ?_) (fun g => ?_) <;> (repeat ((repeat1' (first | simp -implicitDefEqProofs -dsimp only [go_sem, g] | simp -dsimp (disch := omega) only [wrap_i64])); repeat (with_reducible refine ah ?_)))
 · skip
   (first | refine al.at (hgood) ⟨bh, trivial⟩ ?_ | refine ak.at (hgood) ⟨bh, trivial⟩ ?_)
   (repeat ((repeat1' (first | simp -implicitDefEqProofs -dsimp only [go_sem, g] | simp -dsimp (disch := omega) only [wrap_i64])); repeat (with_reducible refine ah ?_)))
   refine aj.pick [3, 4] (by decide) (fun j hj => by omega) (.inl ?_) ?_
   · first | rfl | (simp [ren, bf, posOf, ab.o, g]; done)
   · simp only [bb, List.map_cons, List.map_nil, bj, List.getElem?_cons_zero, List.getElem?_cons_succ, ae]
 · skip
   refine aj.pick [3, 4] (by decide) (fun j hj => by omega) (.inl ?_) ?_
   · first | rfl | (simp [ren, bf, posOf, ab.o, g]; done)
   · simp only [bb, List.map_cons, List.map_nil, bj, List.getElem?_cons_zero, List.getElem?_cons_succ, ae]
theorem alg (w : ab) (k n v : Int) (hk : k = 2 ∨ k = 3) (hw : wB w = true) (hs : df w k n v = true) : Ctr Tryz.prog 243 [w.v, .agg [.int .i64 k, .int .i64 n, .int .i64 v]] [] (.tup [(ea w k n v).o 0 1, .bool (dr w k n v)]) [some (rows ay.cs (ea w k n v).Posts), some (rows ai.cs w.Shocks)] := by
 have W := dt hw
 have pl := W.plen
 have sl := W.slen
 obtain ⟨i, hi, hix, hin⟩ : ∃ i, ∃ h : i < w.Posts.length, iw (j2 n) w.Posts = (i : Int) ∧ j2 n w.Posts[i] = true := by
  have : decide (0 ≤ iw (j2 n) w.Posts) = true := by
   rcases hk with rfl | rfl <;> simp [df] at hs <;> simp [hs.1]
  exact rz this
 have hst : w.Posts[i].Station = n := by simpa [j2] using hin
 have hp : pAt w n = i := by simp [pAt, hix]
 have e1 : ea w k n v = ⟨w.Now, w.Posts.set i ⟨n, decide (k = 3), w.Now⟩, w.Shocks, w.Next, w.Archived⟩ := by
  rcases hk with rfl | rfl <;> simp [ea, eb, hp]
 have e2 : dr w k n v = (w.Posts[i].Up != decide (k = 3) && wB ⟨w.Now, w.Posts.set i ⟨n, decide (k = 3), w.Now⟩, w.Shocks, w.Next, w.Archived⟩) := by
  rcases hk with rfl | rfl <;> simp [dr, n7, eb, hp, ah0 hi]
 have hr := bu ay.csl hi
 have hlen : ∀ p, (w.Posts.set i p).length = w.Posts.length := fun p => by simp
 have s1 : ∀ b, ck (rows ay.cs w.Posts) (i * 3 + 1) [.bool b] = rows ay.cs (w.Posts.set i ⟨n, b, w.Posts[i].Since⟩) := fun b => qf (cs := ay.cs) ay.csl hi (by omega) (by rw [ay.cs, hst.symm]; rfl)
 have s2 : ∀ b, ck (rows ay.cs (w.Posts.set i ⟨n, b, w.Posts[i].Since⟩)) (i * 3 + 2) [.int .i64 w.Now] = rows ay.cs (w.Posts.set i ⟨n, b, w.Now⟩) := fun b => by
  have h := qf (cs := ay.cs) ay.csl (L := w.Posts.set i ⟨n, b, w.Posts[i].Since⟩) (j := i) (f := 2) (v := .int .i64 w.Now) (x := ⟨n, b, w.Now⟩) (by simpa using hi) (by omega) (by simp; rfl)
  rwa [List.set_set] at h
 have hrl : ∀ L : List ay, (rows ay.cs L).length = L.length * 3 := fun L => jk ay.csl L
 have hgood := dj ⟨w.Now, w.Posts.set i ⟨n, decide (k = 3), w.Now⟩, w.Shocks, w.Next, w.Archived⟩ (by simp; omega) (by simp; omega)
 have hroom : i * 3 + 3 ≤ w.Posts.length * 3 := by omega
 rw [e1, e2]
 simp only [ab.v, hlen] at hgood
 simp only [ab.o, hlen]
 rcases hk with rfl | rfl
 · have hd : decide ((2 : Int) = 3) = false := rfl
   rw [hd] at hgood ⊢
   refine Ctr.intro Tryz.mixed Tryz.func243 rfl Tryz.ug ?_
   simp -implicitDefEqProofs -dsimp only [go_sem, Tryz.ntmps243, Tryz.results243]
   simp -implicitDefEqProofs -dsimp only [go_sem, ab.v]
   (have ct := c7 w (by omega) (by omega); (first | refine al.at ct ⟨bh, trivial⟩ ?_ | refine ak.at ct ⟨bh, trivial⟩ ?_); clear ct)
   (repeat ((repeat1' (first | simp -implicitDefEqProofs -dsimp only [go_sem, ab.o] | simp -dsimp (disch := omega) only [wrap_i64])); repeat (with_reducible refine ah ?_)))
   (have ct := o5 w n (by omega); (first | refine al.at ct ⟨bh, bh, trivial⟩ ?_ | refine ak.at ct ⟨bh, bh, trivial⟩ ?_); clear ct)
   rw [hix]
   (repeat ((repeat1' (first | simp -implicitDefEqProofs -dsimp only [go_sem, hr, ay.cs] | simp -dsimp (disch := omega) only [wrap_i64])); repeat (with_reducible refine ah ?_)))
   refine n8.path [true, true, true, true, true, true, true, true, true, true, true, true, true, false, false, false, false] [false, false, false, false, false, true, false, false, false, true, true, false, false, false, false, false, false] 1 [3] (by kernel_rfl) ?_
   (repeat ((repeat1' (first | simp -implicitDefEqProofs -dsimp only [go_sem, hr, ay.cs, s1, s2, hrl, hlen, Int.toNat_natCast] | simp -dsimp (disch := omega) only [wrap_i64])); repeat (with_reducible refine ah ?_)))
   refine ax.bq (fun g => ?_) (fun g => ?_) <;> (repeat ((repeat1' (first | simp -implicitDefEqProofs -dsimp only [go_sem, g, s1, s2] | simp -dsimp (disch := omega) only [wrap_i64])); repeat (with_reducible refine ah ?_)))
   · skip
     (first | refine al.at (hgood) ⟨bh, trivial⟩ ?_ | refine ak.at (hgood) ⟨bh, trivial⟩ ?_)
     (repeat ((repeat1' (first | simp -implicitDefEqProofs -dsimp only [go_sem, g] | simp -dsimp (disch := omega) only [wrap_i64])); repeat (with_reducible refine ah ?_)))
     simp at g
     refine aj.pick [3, 4] (by decide) (fun j hj => by omega) (.inl ?_) ?_
     · first | rfl | (simp [ren, bf, posOf, ab.o, g]; done)
     · simp only [bb, List.map_cons, List.map_nil, bj, List.getElem?_cons_zero, List.getElem?_cons_succ, ae]
   · skip
     simp at g
     refine aj.pick [3, 4] (by decide) (fun j hj => by omega) (.inl ?_) ?_
     · first | rfl | (simp [ren, bf, posOf, ab.o, g]; done)
     · simp only [bb, List.map_cons, List.map_nil, bj, List.getElem?_cons_zero, List.getElem?_cons_succ, ae]
 · have hd : decide ((3 : Int) = 3) = true := rfl
   rw [hd] at hgood ⊢
   refine Ctr.intro Tryz.mixed Tryz.func243 rfl Tryz.ug ?_
   simp -implicitDefEqProofs -dsimp only [go_sem, Tryz.ntmps243, Tryz.results243]
   simp -implicitDefEqProofs -dsimp only [go_sem, ab.v]
   (have ct := c7 w (by omega) (by omega); (first | refine al.at ct ⟨bh, trivial⟩ ?_ | refine ak.at ct ⟨bh, trivial⟩ ?_); clear ct)
   (repeat ((repeat1' (first | simp -implicitDefEqProofs -dsimp only [go_sem, ab.o] | simp -dsimp (disch := omega) only [wrap_i64])); repeat (with_reducible refine ah ?_)))
   (have ct := o5 w n (by omega); (first | refine al.at ct ⟨bh, bh, trivial⟩ ?_ | refine ak.at ct ⟨bh, bh, trivial⟩ ?_); clear ct)
   rw [hix]
   (repeat ((repeat1' (first | simp -implicitDefEqProofs -dsimp only [go_sem, hr, ay.cs] | simp -dsimp (disch := omega) only [wrap_i64])); repeat (with_reducible refine ah ?_)))
   refine n8.path [true, true, true, true, true, true, true, true, true, true, true, true, true, false, false, false, false] [false, false, false, false, false, true, false, false, false, true, true, false, false, false, false, false, false] 1 [3] (by kernel_rfl) ?_
   (repeat ((repeat1' (first | simp -implicitDefEqProofs -dsimp only [go_sem, hr, ay.cs, s1, s2, hrl, hlen, Int.toNat_natCast] | simp -dsimp (disch := omega) only [wrap_i64])); repeat (with_reducible refine ah ?_)))
   refine ax.bq (fun g => ?_) (fun g => ?_) <;> (repeat ((repeat1' (first | simp -implicitDefEqProofs -dsimp only [go_sem, g, s1, s2] | simp -dsimp (disch := omega) only [wrap_i64])); repeat (with_reducible refine ah ?_)))
   · skip
     (first | refine al.at (hgood) ⟨bh, trivial⟩ ?_ | refine ak.at (hgood) ⟨bh, trivial⟩ ?_)
     (repeat ((repeat1' (first | simp -implicitDefEqProofs -dsimp only [go_sem, g] | simp -dsimp (disch := omega) only [wrap_i64])); repeat (with_reducible refine ah ?_)))
     simp at g
     refine aj.pick [3, 4] (by decide) (fun j hj => by omega) (.inl ?_) ?_
     · first | rfl | (simp [ren, bf, posOf, ab.o, g]; done)
     · simp only [bb, List.map_cons, List.map_nil, bj, List.getElem?_cons_zero, List.getElem?_cons_succ, ae]
   · skip
     simp at g
     refine aj.pick [3, 4] (by decide) (fun j hj => by omega) (.inl ?_) ?_
     · first | rfl | (simp [ren, bf, posOf, ab.o, g]; done)
     · simp only [bb, List.map_cons, List.map_nil, bj, List.getElem?_cons_zero, List.getElem?_cons_succ, ae]
theorem aoe (w : ab) : (q9 w.Posts w.Posts.length).length = upN w w.Posts.length := by simp [q9, upN]
theorem alp (w : ab) (n v : Int) (hw : wB w = true) : Ctr Tryz.prog 243 [w.v, .agg [.int .i64 4, .int .i64 n, .int .i64 v]] [] (.tup [(ea w 4 n v).o 0 1, .bool (dr w 4 n v)]) [some (rows ay.cs w.Posts), some (rows ai.cs (ea w 4 n v).Shocks)] := by
 have W := dt hw
 have pl := W.plen
 have sl := W.slen
 have wn := W.next
 have hwn : IntKind.i64.wrap (w.Next + 1) = w.Next + 1 := wrap_i64 (by omega) (by omega)
 obtain ⟨x, hx⟩ : ∃ x : ai, x = ⟨w.Next, 0, (upN w w.Posts.length : Int), 0, w.Now⟩ := ⟨_, rfl⟩
 have e1 : ea w 4 n v = ⟨w.Now, w.Posts, w.Shocks ++ [x], w.Next + 1, w.Archived⟩ := by simp [ea, eb, hx]
 have e2 : dr w 4 n v = wB ⟨w.Now, w.Posts, w.Shocks ++ [x], w.Next + 1, w.Archived⟩ := by simp [dr, n7, eb, hx]
 have hsn : rows ai.cs w.Shocks ++ [.int .i64 w.Next, .int .i64 0, .int .i64 (upN w w.Posts.length : Int), .int .i64 0, .int .i64 w.Now] = rows ai.cs (w.Shocks ++ [x]) := by
  rw [hx]
  exact eg (cs := ai.cs) w.Shocks ⟨w.Next, 0, (upN w w.Posts.length : Int), 0, w.Now⟩
 have hln : w.Shocks.length + 1 = (w.Shocks ++ [x]).length := by simp
 have hup := sr w (by omega)
 rw [aoe] at hup
 have hgood := dj ⟨w.Now, w.Posts, w.Shocks ++ [x], w.Next + 1, w.Archived⟩ (by simp; omega) (by simp; omega)
 rw [e1, e2]
 refine Ctr.intro Tryz.mixed Tryz.func243 rfl Tryz.ug ?_
 simp -implicitDefEqProofs -dsimp only [go_sem, Tryz.ntmps243, Tryz.results243]
 simp -implicitDefEqProofs -dsimp only [go_sem, ab.v]
 (have ct := c7 w (by omega) (by omega); (first | refine al.at ct ⟨bh, trivial⟩ ?_ | refine ak.at ct ⟨bh, trivial⟩ ?_); clear ct)
 (repeat ((repeat1' (first | simp -implicitDefEqProofs -dsimp only [go_sem, ab.o] | simp -dsimp (disch := omega) only [wrap_i64])); repeat (with_reducible refine ah ?_)))
 (first | refine al.at (hup) ⟨bh, trivial⟩ ?_ | refine ak.at (hup) ⟨bh, trivial⟩ ?_)
 (repeat ((repeat1' (first | simp -implicitDefEqProofs -dsimp only [go_sem, hwn, hsn, hln] | simp -dsimp (disch := omega) only [wrap_i64])); repeat (with_reducible refine ah ?_)))
 (first | refine al.at (hgood) ⟨bh, trivial⟩ ?_ | refine ak.at (hgood) ⟨bh, trivial⟩ ?_)
 (repeat ((repeat1' (first | simp -implicitDefEqProofs -dsimp only [go_sem, hsn] | simp -dsimp (disch := omega) only [wrap_i64])); repeat (with_reducible refine ah ?_)))
 refine aj.pick [3, 4] (by decide) (fun j hj => by omega) (.inl ?_) ?_
 · first | rfl | (simp [ren, bf, posOf, ab.o]; done)
 · simp only [bb, List.map_cons, List.map_nil, bj, List.getElem?_cons_zero, List.getElem?_cons_succ, ae]
theorem alv (w : ab) (k n v : Int) (hk : k = 5 ∨ k = 6 ∨ k = 7) (hw : wB w = true) (hs : df w k n v = true) (hv : -100 ≤ v ∧ v ≤ 100) : Ctr Tryz.prog 243 [w.v, .agg [.int .i64 k, .int .i64 n, .int .i64 v]] [] (.tup [(ea w k n v).o 0 1, .bool (dr w k n v)]) [some (rows ay.cs w.Posts), some (rows ai.cs (ea w k n v).Shocks)] := by
 have W := dt hw
 have pl := W.plen
 have sl := W.slen
 obtain ⟨i, hi, hix, hin⟩ : ∃ i, ∃ h : i < w.Shocks.length, iw (dh n) w.Shocks = (i : Int) ∧ dh n w.Shocks[i] = true := by
  have : decide (0 ≤ iw (dh n) w.Shocks) = true := by
   rcases hk with rfl | rfl | rfl <;> simp [df] at hs <;> simp [hs]
  exact rz this
 have hp : sAt w n = i := by simp [sAt, hix]
 have hsh := xi hi
 have e1 : ea w k n v = ⟨w.Now, w.Posts, w.Shocks.set i (uo w.Shocks[i] k v), w.Next, w.Archived⟩ := by
  rcases hk with rfl | rfl | rfl <;> simp [ea, eb, hp, hsh]
 have e2 : dr w k n v = (yf w.Shocks[i] k && wB ⟨w.Now, w.Posts, w.Shocks.set i (uo w.Shocks[i] k v), w.Next, w.Archived⟩) := by
  rcases hk with rfl | rfl | rfl <;> simp [dr, n7, eb, hp, hsh]
 have htr := alf w i k n v hk hw hi hv
 have hlen : ∀ p, (w.Shocks.set i p).length = w.Shocks.length := fun p => by simp
 have hgood := dj ⟨w.Now, w.Posts, w.Shocks.set i (uo w.Shocks[i] k v), w.Next, w.Archived⟩ (by simp; omega) (by simp; omega)
 generalize uo w.Shocks[i] k v = y at e1 e2 htr hgood
 have hg : grown [some (w.oc 1 2), some (rows ay.cs w.Posts), some (rows ai.cs w.Shocks)] [some (w.oc 1 2), some (rows ay.cs w.Posts), some (rows ai.cs (w.Shocks.set i y))] := by
  refine ⟨⟨rfl, rfl⟩, ⟨rfl, rfl⟩, ⟨by rw [fm, fm, hlen], by rw [lh, lh]⟩, trivial⟩
 rw [e1, e2]
 clear e1 e2
 simp only [ab.v, hlen] at hgood
 simp only [ab.o, hlen]
 generalize yf w.Shocks[i] k = b at *
 rcases hk with rfl | rfl | rfl
 · skip
   refine Ctr.intro Tryz.mixed Tryz.func243 rfl Tryz.ug ?_
   simp -implicitDefEqProofs -dsimp only [go_sem, Tryz.ntmps243, Tryz.results243]
   simp -implicitDefEqProofs -dsimp only [go_sem, ab.v]
   (have ct := c7 w (by omega) (by omega); (first | refine al.at ct ⟨bh, trivial⟩ ?_ | refine ak.at ct ⟨bh, trivial⟩ ?_); clear ct)
   (repeat ((repeat1' (first | simp -implicitDefEqProofs -dsimp only [go_sem, ab.o] | simp -dsimp (disch := omega) only [wrap_i64])); repeat (with_reducible refine ah ?_)))
   (have ct := je w n (by omega); (first | refine al.at ct ⟨bh, bh, trivial⟩ ?_ | refine ak.at ct ⟨bh, bh, trivial⟩ ?_); clear ct)
   rw [hix]
   (repeat ((repeat1' (first | simp -implicitDefEqProofs -dsimp only [go_sem] | simp -dsimp (disch := omega) only [wrap_i64])); repeat (with_reducible refine ah ?_)))
   refine ak.tj [5, 3, 4] false htr (by decide) ⟨.inl rfl, .inl rfl, .inl rfl, trivial⟩ (by simp [bb, bj, ren, bf, posOf, ae, ab.oc]) hg (.inl rfl) ?_
   (repeat ((repeat1' (first | simp -implicitDefEqProofs -dsimp only [go_sem, ab.oc] | simp -dsimp (disch := omega) only [wrap_i64])); repeat (with_reducible refine ah ?_)))
   refine ax.bq (fun g => ?_) (fun g => ?_) <;> (repeat ((repeat1' (first | simp -implicitDefEqProofs -dsimp only [go_sem, g] | simp -dsimp (disch := omega) only [wrap_i64])); repeat (with_reducible refine ah ?_)))
   · skip
     (first | refine al.at (hgood) ⟨bh, trivial⟩ ?_ | refine ak.at (hgood) ⟨bh, trivial⟩ ?_)
     (repeat ((repeat1' (first | simp -implicitDefEqProofs -dsimp only [go_sem, g] | simp -dsimp (disch := omega) only [wrap_i64])); repeat (with_reducible refine ah ?_)))
     refine aj.pick [3, 4] (by decide) (fun j hj => by omega) (.inl ?_) ?_
     · first | rfl | (simp [ren, bf, posOf, ab.o, g]; done)
     · simp only [bb, List.map_cons, List.map_nil, bj, List.getElem?_cons_zero, List.getElem?_cons_succ, ae]
   · skip
     refine aj.pick [3, 4] (by decide) (fun j hj => by omega) (.inl ?_) ?_
     · first | rfl | (simp [ren, bf, posOf, ab.o, g]; done)
     · simp only [bb, List.map_cons, List.map_nil, bj, List.getElem?_cons_zero, List.getElem?_cons_succ, ae]
 · skip
   refine Ctr.intro Tryz.mixed Tryz.func243 rfl Tryz.ug ?_
   simp -implicitDefEqProofs -dsimp only [go_sem, Tryz.ntmps243, Tryz.results243]
   simp -implicitDefEqProofs -dsimp only [go_sem, ab.v]
   (have ct := c7 w (by omega) (by omega); (first | refine al.at ct ⟨bh, trivial⟩ ?_ | refine ak.at ct ⟨bh, trivial⟩ ?_); clear ct)
   (repeat ((repeat1' (first | simp -implicitDefEqProofs -dsimp only [go_sem, ab.o] | simp -dsimp (disch := omega) only [wrap_i64])); repeat (with_reducible refine ah ?_)))
   (have ct := je w n (by omega); (first | refine al.at ct ⟨bh, bh, trivial⟩ ?_ | refine ak.at ct ⟨bh, bh, trivial⟩ ?_); clear ct)
   rw [hix]
   (repeat ((repeat1' (first | simp -implicitDefEqProofs -dsimp only [go_sem] | simp -dsimp (disch := omega) only [wrap_i64])); repeat (with_reducible refine ah ?_)))
   refine ak.tj [5, 3, 4] false htr (by decide) ⟨.inl rfl, .inl rfl, .inl rfl, trivial⟩ (by simp [bb, bj, ren, bf, posOf, ae, ab.oc]) hg (.inl rfl) ?_
   (repeat ((repeat1' (first | simp -implicitDefEqProofs -dsimp only [go_sem, ab.oc] | simp -dsimp (disch := omega) only [wrap_i64])); repeat (with_reducible refine ah ?_)))
   refine ax.bq (fun g => ?_) (fun g => ?_) <;> (repeat ((repeat1' (first | simp -implicitDefEqProofs -dsimp only [go_sem, g] | simp -dsimp (disch := omega) only [wrap_i64])); repeat (with_reducible refine ah ?_)))
   · skip
     (first | refine al.at (hgood) ⟨bh, trivial⟩ ?_ | refine ak.at (hgood) ⟨bh, trivial⟩ ?_)
     (repeat ((repeat1' (first | simp -implicitDefEqProofs -dsimp only [go_sem, g] | simp -dsimp (disch := omega) only [wrap_i64])); repeat (with_reducible refine ah ?_)))
     refine aj.pick [3, 4] (by decide) (fun j hj => by omega) (.inl ?_) ?_
     · first | rfl | (simp [ren, bf, posOf, ab.o, g]; done)
     · simp only [bb, List.map_cons, List.map_nil, bj, List.getElem?_cons_zero, List.getElem?_cons_succ, ae]
   · skip
     refine aj.pick [3, 4] (by decide) (fun j hj => by omega) (.inl ?_) ?_
     · first | rfl | (simp [ren, bf, posOf, ab.o, g]; done)
     · simp only [bb, List.map_cons, List.map_nil, bj, List.getElem?_cons_zero, List.getElem?_cons_succ, ae]
 · skip
   refine Ctr.intro Tryz.mixed Tryz.func243 rfl Tryz.ug ?_
   simp -implicitDefEqProofs -dsimp only [go_sem, Tryz.ntmps243, Tryz.results243]
   simp -implicitDefEqProofs -dsimp only [go_sem, ab.v]
   (have ct := c7 w (by omega) (by omega); (first | refine al.at ct ⟨bh, trivial⟩ ?_ | refine ak.at ct ⟨bh, trivial⟩ ?_); clear ct)
   (repeat ((repeat1' (first | simp -implicitDefEqProofs -dsimp only [go_sem, ab.o] | simp -dsimp (disch := omega) only [wrap_i64])); repeat (with_reducible refine ah ?_)))
   (have ct := je w n (by omega); (first | refine al.at ct ⟨bh, bh, trivial⟩ ?_ | refine ak.at ct ⟨bh, bh, trivial⟩ ?_); clear ct)
   rw [hix]
   (repeat ((repeat1' (first | simp -implicitDefEqProofs -dsimp only [go_sem] | simp -dsimp (disch := omega) only [wrap_i64])); repeat (with_reducible refine ah ?_)))
   refine ak.tj [5, 3, 4] false htr (by decide) ⟨.inl rfl, .inl rfl, .inl rfl, trivial⟩ (by simp [bb, bj, ren, bf, posOf, ae, ab.oc]) hg (.inl rfl) ?_
   (repeat ((repeat1' (first | simp -implicitDefEqProofs -dsimp only [go_sem, ab.oc] | simp -dsimp (disch := omega) only [wrap_i64])); repeat (with_reducible refine ah ?_)))
   refine ax.bq (fun g => ?_) (fun g => ?_) <;> (repeat ((repeat1' (first | simp -implicitDefEqProofs -dsimp only [go_sem, g] | simp -dsimp (disch := omega) only [wrap_i64])); repeat (with_reducible refine ah ?_)))
   · skip
     (first | refine al.at (hgood) ⟨bh, trivial⟩ ?_ | refine ak.at (hgood) ⟨bh, trivial⟩ ?_)
     (repeat ((repeat1' (first | simp -implicitDefEqProofs -dsimp only [go_sem, g] | simp -dsimp (disch := omega) only [wrap_i64])); repeat (with_reducible refine ah ?_)))
     refine aj.pick [3, 4] (by decide) (fun j hj => by omega) (.inl ?_) ?_
     · first | rfl | (simp [ren, bf, posOf, ab.o, g]; done)
     · simp only [bb, List.map_cons, List.map_nil, bj, List.getElem?_cons_zero, List.getElem?_cons_succ, ae]
   · skip
     refine aj.pick [3, 4] (by decide) (fun j hj => by omega) (.inl ?_) ?_
     · first | rfl | (simp [ren, bf, posOf, ab.o, g]; done)
     · simp only [bb, List.map_cons, List.map_nil, bj, List.getElem?_cons_zero, List.getElem?_cons_succ, ae]
theorem ak0 (w : ab) (n v : Int) (hw : wB w = true) (hs : df w 8 n v = true) : Ctr Tryz.prog 243 [w.v, .agg [.int .i64 8, .int .i64 n, .int .i64 v]] [] (.tup [(ea w 8 n v).o 0 1, .bool (dr w 8 n v)]) [some (rows ay.cs w.Posts), some (rows ai.cs (ea w 8 n v).Shocks)] := by
 have W := dt hw
 have pl := W.plen
 have sl := W.slen
 obtain ⟨i, hi, hix, hin⟩ : ∃ i, ∃ h : i < w.Shocks.length, iw (dh n) w.Shocks = (i : Int) ∧ dh n w.Shocks[i] = true := by
  have : decide (0 ≤ iw (dh n) w.Shocks) = true := by
   simp [df] at hs
   simp [hs.1]
  exact rz this
 have hp : sAt w n = i := by simp [sAt, hix]
 have hsh := xi hi
 have e1 : ea w 8 n v = im w i := by simp [ea, eb, im, hp]
 have e2 : dr w 8 n v = (abi w w.Shocks[i] && wB (im w i)) := by simp [dr, n7, eb, im, hp, hsh]
 have hgood := dj (im w i) (by simp [im]; omega) (by simp [im]; omega)
 have htr := aln w i n v hw hi
 have e3 : (im w i).Shocks = w.Shocks.take i ++ w.Shocks.drop (i + 1) := rfl
 have hall : (rows ai.cs (w.Shocks.take i ++ w.Shocks.drop (i + 1)) ++ z5).all bp = true := by
  rw [List.all_append, a8]; rfl
 have e : (w.Shocks.take i ++ w.Shocks.drop (i + 1)).length = w.Shocks.length - 1 := by simp; omega
 have hg : grown [some (w.oc 1 2), some (rows ay.cs w.Posts), some (rows ai.cs w.Shocks)] [some ((im w i).oc 1 2), some (rows ay.cs w.Posts), some (rows ai.cs (w.Shocks.take i ++ w.Shocks.drop (i + 1)) ++ z5)] := by
  refine ⟨⟨rfl, rfl⟩, ⟨rfl, rfl⟩, ⟨?_, by rw [ph hall, lh]⟩, trivial⟩
  rw [List.length_append, fm, fm, e]
  show _ = (w.Shocks.length - 1) * 5 + 5
  omega
 rw [e1, e2, e3]
 refine Ctr.intro Tryz.mixed Tryz.func243 rfl Tryz.ug ?_
 simp -implicitDefEqProofs -dsimp only [go_sem, Tryz.ntmps243, Tryz.results243]
 simp -implicitDefEqProofs -dsimp only [go_sem, ab.v]
 (have ct := c7 w (by omega) (by omega); (first | refine al.at ct ⟨bh, trivial⟩ ?_ | refine ak.at ct ⟨bh, trivial⟩ ?_); clear ct)
 (repeat ((repeat1' (first | simp -implicitDefEqProofs -dsimp only [go_sem, ab.o] | simp -dsimp (disch := omega) only [wrap_i64])); repeat (with_reducible refine ah ?_)))
 (have ct := je w n (by omega); (first | refine al.at ct ⟨bh, bh, trivial⟩ ?_ | refine ak.at ct ⟨bh, bh, trivial⟩ ?_); clear ct)
 rw [hix]
 (repeat ((repeat1' (first | simp -implicitDefEqProofs -dsimp only [go_sem] | simp -dsimp (disch := omega) only [wrap_i64])); repeat (with_reducible refine ah ?_)))
 refine ak.tj [5, 3, 4] false htr (by decide) ⟨.inl rfl, .inl rfl, .inl rfl, trivial⟩ (by simp [bb, bj, ren, bf, posOf, ae, ab.oc]) hg (.inl rfl) ?_
 (repeat ((repeat1' (first | simp -implicitDefEqProofs -dsimp only [go_sem, ab.oc, z5] | simp -dsimp (disch := omega) only [wrap_i64])); repeat (with_reducible refine ah ?_)))
 clear hall hg
 have htk : ∀ y : List V, (rows ai.cs (w.Shocks.take i ++ w.Shocks.drop (i + 1)) ++ y).take ((im w i).Shocks.length * 5) = rows ai.cs (w.Shocks.take i ++ w.Shocks.drop (i + 1)) := fun y => List.take_left' (by rw [fm]; rfl)
 refine ax.bq (fun g => ?_) (fun g => ?_) <;> (repeat ((repeat1' (first | simp -implicitDefEqProofs -dsimp only [go_sem, g] | simp -dsimp (disch := omega) only [wrap_i64])); repeat (with_reducible refine ah ?_)))
 · skip
   (first | refine al.at (hgood) ⟨bh, trivial⟩ ?_ | refine ak.at (hgood) ⟨bh, trivial⟩ ?_)
   (repeat ((repeat1' (first | simp -implicitDefEqProofs -dsimp only [go_sem, g] | simp -dsimp (disch := omega) only [wrap_i64])); repeat (with_reducible refine ah ?_)))
   refine aj.trim 4 ((im w i).Shocks.length * 5) rfl (by omega) (by simp only [List.length_append, fm, e3, List.length_cons, List.length_nil]; omega) (ph (by simp [a8, bp])) (by rw [htk]; exact lh _) ?_ ?_ ?_
   · simp [fits]
   · simp [fits, aee, List.all_append]
   · skip
     simp only [htk, List.set_cons_zero, List.set_cons_succ]
     refine aj.pick [3, 4] (by decide) (fun j hj => by omega) (.inl ?_) ?_
     · first | rfl | (simp [ren, bf, posOf, ab.o, g]; done)
     · simp only [bb, List.map_cons, List.map_nil, bj, List.getElem?_cons_zero, List.getElem?_cons_succ, ae]
 · skip
   refine aj.trim 4 ((im w i).Shocks.length * 5) rfl (by omega) (by simp only [List.length_append, fm, e3, List.length_cons, List.length_nil]; omega) (ph (by simp [a8, bp])) (by rw [htk]; exact lh _) ?_ ?_ ?_
   · simp [fits]
   · simp [fits, aee, List.all_append]
   · skip
     simp only [htk, List.set_cons_zero, List.set_cons_succ]
     refine aj.pick [3, 4] (by decide) (fun j hj => by omega) (.inl ?_) ?_
     · first | rfl | (simp [ren, bf, posOf, ab.o, g]; done)
     · simp only [bb, List.map_cons, List.map_nil, bj, List.getElem?_cons_zero, List.getElem?_cons_succ, ae]
theorem am9 (w : ab) (k n v : Int) (hw : wB w = true) (hs : df w k n v = true) : Ctr Tryz.prog 243 [w.v, .agg [.int .i64 k, .int .i64 n, .int .i64 v]] [] (.tup [(ea w k n v).o 0 1, .bool (dr w k n v)]) [some (rows ay.cs (ea w k n v).Posts), some (rows ai.cs (ea w k n v).Shocks)] := by
 rcases ob hs with ⟨rfl, h1⟩ | hk | rfl | rfl | ⟨hk, h1⟩
 · have e : (ea w 1 n v).Posts = w.Posts ∧ (ea w 1 n v).Shocks = w.Shocks := by simp [ea]
   rw [e.1, e.2]
   exact ak2 w n v hw h1
 · have e : (ea w k n v).Shocks = w.Shocks := by rcases hk with rfl | rfl <;> simp [ea, eb]
   rw [e]
   exact alg w k n v hk hw hs
 · have e : (ea w 4 n v).Posts = w.Posts := by simp [ea, eb]
   rw [e]
   exact alp w n v hw
 · have e : (ea w 8 n v).Posts = w.Posts := by simp [ea, eb]
   rw [e]
   exact ak0 w n v hw hs
 · have e : (ea w k n v).Posts = w.Posts := by rcases hk with rfl | rfl | rfl <;> simp [ea, eb]
   rw [e]
   exact alv w k n v hk hw hs h1
theorem ail {w : ab} {k n v : Int} (hw : wB w = true) (h : dr w k n v = true) : ea w k n v = eb w k n v := by
 unfold ea
 split
 · rename_i h1
   subst h1
   have := (dt hw).now
   have h2 : v ≤ 1000000 - w.Now := by
    simp only [dr, n7, if_true, Bool.and_eq_true, decide_eq_true_eq] at h
    exact h.1
   have h3 : ¬ 1000000 < v := by omega
   simp [eb, h3]
 · rfl
theorem vr (w : ab) (k n v : Int) (hp : w.Posts.length ≤ 16777216) (hs : w.Shocks.length ≤ 16777216) : Ctr Tryz.prog 200 [w.v, .agg [.int .i64 k, .int .i64 n, .int .i64 v]] [] (ac1 (ey w k n v)) (ac8 (ey w k n v)) := by
 refine Ctr.intro Tryz.mixed Tryz.func200 rfl Tryz.ayy ?_
 simp -implicitDefEqProofs -dsimp only [go_sem, Tryz.ntmps200, Tryz.results200]
 simp -implicitDefEqProofs -dsimp only [go_sem, ab.v]
 (have ct := dj w (by omega) (by omega); (first | refine al.at ct ⟨bh, trivial⟩ ?_ | refine ak.at ct ⟨bh, trivial⟩ ?_); clear ct)
 have no : ey w k n v = none → ∀ h : Hp, aj 0 (.tup [.agg [.int .i64 0, .nilsl, .nilsl, .int .i64 0, .int .i64 0], .bool false]) h (ac1 (ey w k n v)) (ac8 (ey w k n v)) := by
  intro e h
  rw [e]
  exact aj.au rfl (by rfl)
 cases hw : wB w with
 | false =>
  (repeat ((repeat1' (first | simp -implicitDefEqProofs -dsimp only [go_sem] | simp -dsimp (disch := omega) only [wrap_i64])); repeat (with_reducible refine ah ?_)))
  exact no (by simp [ey, hw]) _
 | true =>
  (repeat ((repeat1' (first | simp -implicitDefEqProofs -dsimp only [go_sem] | simp -dsimp (disch := omega) only [wrap_i64])); repeat (with_reducible refine ah ?_)))
  (have ct := alo w k n v hp hs; (first | refine al.at ct ⟨bh, bh, trivial⟩ ?_ | refine ak.at ct ⟨bh, bh, trivial⟩ ?_); clear ct)
  cases hst : df w k n v with
  | false =>
   (repeat ((repeat1' (first | simp -implicitDefEqProofs -dsimp only [go_sem] | simp -dsimp (disch := omega) only [wrap_i64])); repeat (with_reducible refine ah ?_)))
   exact no (by simp [ey, hst]) _
  | true =>
   (repeat ((repeat1' (first | simp -implicitDefEqProofs -dsimp only [go_sem] | simp -dsimp (disch := omega) only [wrap_i64])); repeat (with_reducible refine ah ?_)))
   have hm := am9 w k n v hw hst
   cases hd : dr w k n v with
   | false =>
    rw [hd] at hm
    (first | refine al.at (hm) ⟨bh, bh, trivial⟩ ?_ | refine ak.at (hm) ⟨bh, bh, trivial⟩ ?_)
    (repeat ((repeat1' (first | simp -implicitDefEqProofs -dsimp only [go_sem, ab.o] | simp -dsimp (disch := omega) only [wrap_i64])); repeat (with_reducible refine ah ?_)))
    exact no (by simp [ey, hd]) _
   | true =>
    rw [hd] at hm
    (first | refine al.at (hm) ⟨bh, bh, trivial⟩ ?_ | refine ak.at (hm) ⟨bh, bh, trivial⟩ ?_)
    (repeat ((repeat1' (first | simp -implicitDefEqProofs -dsimp only [go_sem, ab.o] | simp -dsimp (disch := omega) only [wrap_i64])); repeat (with_reducible refine ah ?_)))
    have e : ey w k n v = some (eb w k n v) := by simp [ey, hw, hst, hd]
    have e2 := ail hw hd
    rw [e, ← e2, ac1, ac8]
    refine aj.pick [3, 4] (by decide) (fun j hj => by omega) (.inl ?_) ?_
    · first | rfl | (simp [ren, bf, posOf, ab.o]; done)
    · simp only [bb, List.map_cons, List.map_nil, bj, List.getElem?_cons_zero, List.getElem?_cons_succ, ae]
end Go.Proofs
end
section
namespace Go.Lv
variable {α : Type}
def ab7 (lt : α → α → Bool) (S : List α) (x : α) : Nat → Nat
 | 0 => 0
 | k + 1 => match S[k]? with
  | some y => if lt x y then ab7 lt S x k else k + 1
  | none => k + 1
theorem adh {lt : α → α → Bool} {S : List α} {x : α} {k : Nat} (hk : k < S.length) (h : lt x S[k] = true) : ab7 lt S x (k + 1) = ab7 lt S x k := by
 simp [ab7, hk, h]
theorem adx {lt : α → α → Bool} {S : List α} {x : α} {k : Nat} (hk : k < S.length) (h : lt x S[k] = false) : ab7 lt S x (k + 1) = k + 1 := by
 simp [ab7, hk, h]
def putAt (S : List α) (x : α) (j : Nat) : List α := S.take j ++ x :: S.drop j
theorem adb (S : List α) (x : α) (j : Nat) : (putAt S x j).length = S.length + 1 := by
 simp [putAt]; omega
theorem alk (S : List α) (x : α) : putAt S x S.length = S ++ [x] := by simp [putAt]
def ins (lt : α → α → Bool) (S : List α) (x : α) : List α := putAt S x (ab7 lt S x S.length)
def cg (lt : α → α → Bool) (L : List α) : List α := L.foldl (ins lt) []
theorem ar0 (lt : α → α → Bool) (S : List α) (x : α) : (ins lt S x).length = S.length + 1 := adb _ _ _
theorem ae3 (lt : α → α → Bool) (L : List α) (x : α) : cg lt (L ++ [x]) = ins lt (cg lt L) x := by simp [cg]
theorem xg {lt : α → α → Bool} {L : List α} {i : Nat} (hi : i < L.length) : cg lt (L.take (i + 1)) = ins lt (cg lt (L.take i)) L[i] := by
 rw [List.take_succ_eq_append_getElem hi, ae3]
theorem ij (lt : α → α → Bool) (L : List α) : (cg lt L).length = L.length := by
 have key : ∀ (L S : List α), (L.foldl (ins lt) S).length = S.length + L.length := by
  intro L
  induction L with
  | nil => intro S; simp
  | cons a L ih => intro S; rw [List.foldl_cons, ih, ar0]; simp; omega
 have := key L []
 simpa [cg] using this
theorem ahm (lt : α → α → Bool) (L : List α) (h : L.length ≤ 1) : cg lt L = L := by
 match L, h with
 | [], _ => rfl
 | [a], _ => rfl
def oq (S R : List α) (x : α) (j : Nat) : List α := putAt S x j ++ R
theorem aml (S R : List α) (x : α) (j : Nat) : (oq S R x j).length = S.length + 1 + R.length := by simp [oq, adb]
theorem ani {S R : List α} {x : α} {j : Nat} (hj : j ≤ S.length) (h : j < (oq S R x j).length) : (oq S R x j)[j] = x := by
 have : (oq S R x j)[j]? = some x := by
  rw [oq, putAt, List.append_assoc, List.getElem?_append_right (by simp; omega)]
  simp [Nat.min_eq_left hj]
 rw [List.getElem?_eq_getElem h] at this
 exact Option.some.inj this
theorem aa6 {S R : List α} {x : α} {j : Nat} (hj : j < S.length) (h : j < (oq S R x (j + 1)).length) : (oq S R x (j + 1))[j] = S[j] := by
 have : (oq S R x (j + 1))[j]? = some S[j] := by
  rw [oq, putAt, List.append_assoc, List.getElem?_append_left (by simp; omega), List.getElem?_take_of_lt (by omega), List.getElem?_eq_getElem hj]
 rw [List.getElem?_eq_getElem h] at this
 exact Option.some.inj this
theorem ak9 {S R : List α} {x : α} {j : Nat} (hj : j < S.length) : ((oq S R x (j + 1)).set (j + 1) S[j]).set j x = oq S R x j := by
 have hd : S.drop j = S[j] :: S.drop (j + 1) := List.drop_eq_getElem_cons hj
 have ht : S.take (j + 1) = S.take j ++ [S[j]] := List.take_succ_eq_append_getElem hj
 have hl : (S.take j).length = j := by simp; omega
 simp only [oq, putAt, ht, hd, List.append_assoc, List.cons_append, List.nil_append, List.singleton_append]
 rw [List.set_append_right _ _ (by omega), hl, List.set_append_right _ _ (by omega), hl]
 simp
def aet (lt : α → α → Bool) (L : List α) (i : Nat) : List α := cg lt (L.take i) ++ L.drop i
theorem aow (lt : α → α → Bool) (L : List α) : aet lt L 1 = L := by
 rw [aet, ahm lt _ (by simp; omega), List.take_append_drop]
theorem anf (lt : α → α → Bool) (L : List α) {i : Nat} (h : L.length ≤ i) : aet lt L i = cg lt L := by
 simp [aet, List.take_of_length_le h, List.drop_eq_nil_of_le h]
theorem amq {lt : α → α → Bool} {L : List α} {i : Nat} (hi : i < L.length) : aet lt L i = oq (cg lt (L.take i)) (L.drop (i + 1)) L[i] i := by
 have hl : (cg lt (L.take i)).length = i := by rw [ij]; simp; omega
 rw [aet, List.drop_eq_getElem_cons hi, oq]
 have := alk (cg lt (L.take i)) L[i]
 rw [hl] at this
 rw [this]; simp
theorem aeg {lt : α → α → Bool} {L : List α} {i j : Nat} (hi : i < L.length) (h : ab7 lt (cg lt (L.take i)) L[i] i = j) : oq (cg lt (L.take i)) (L.drop (i + 1)) L[i] j = aet lt L (i + 1) := by
 have hl : (cg lt (L.take i)).length = i := by rw [ij]; simp; omega
 rw [aet, xg hi, ins, hl, h, oq]
end Go.Lv
end
section
set_option maxRecDepth 100000
set_option maxHeartbeats 1000000
namespace Go.Proofs
open Go.Lv
theorem x5 (L : List ai) (c : ai → ai → Int) (fc : Nat) (hv : ∀ x y, Ctr Tryz.prog fc [ai.v x, ai.v y] [] (.int .i64 (c x y)) []) (hl : L.length ≤ 19) :
 Ctr Tryz.prog 285 [.osl 0 0 L.length 5, .int .i64 0, .int .i64 L.length, .fn (.func fc) [] []] [some (rows ai.cs L)] (.tup []) [some (rows ai.cs (cg (fun x y => decide (c x y < 0)) L))] := by
 generalize hlt : (fun x y => decide (c x y < 0)) = lt
 have ltv : ∀ x y, lt x y = decide (c x y < 0) := fun x y => by rw [← hlt]
 refine Ctr.intro Tryz.mixed Tryz.func285 rfl Tryz.axs ?_
 simp -implicitDefEqProofs -dsimp only [go_sem, Tryz.ntmps285, Tryz.results285]
 refine de.intro (fun i : Nat => 1 ≤ i ∧ (i ≤ 1 ∨ i ≤ L.length)) (fun i => ⟨[.osl 0 0 L.length 5, .int .i64 0, .int .i64 L.length, .fn (.func fc) [] [], .undef, .undef, .undef, .undef, .int .i64 i, .undef, .undef, .undef, .undef, .undef, .undef, .undef, .undef, .undef, .undef, .undef, .undef, .undef, .undef, .undef, .undef, .undef, .undef, .undef, .undef, .undef, .undef, .undef, .undef, .undef, .undef, .undef, .undef, .undef, .undef, .undef, .undef, .undef, .undef, .undef, .undef, .undef, .undef, .undef, .undef, .undef, .undef, .undef, .undef], [some (rows ai.cs (aet lt L i))], 1⟩) (fun i => L.length - i) 1 ⟨Nat.le_refl _, .inl (Nat.le_refl _)⟩ ?_ (fun i hi => ?_)
 · refine bt.cut (1) (by simp) (by simp) ?_ ?_
   · (simp [LeC, LeV, ren, br]; rfl)
   · rw [aow]; simp [cd, dd, ae]
 simp -implicitDefEqProofs -dsimp only [go_sem]
 refine bc.split (fun h1 => ?_) (fun h1 => ?_)
 · simp -implicitDefEqProofs -dsimp only [go_sem, h1]
   have hi' : i < L.length := by simpa using h1
   have hS : (cg lt (L.take i)).length = i := by rw [ij]; simp; omega
   rw [amq hi']
   refine de.intro (fun j : Nat => j ≤ i ∧ ab7 lt (cg lt (L.take i)) L[i] i = ab7 lt (cg lt (L.take i)) L[i] j) (fun j => ⟨[.osl 0 0 L.length 5, .int .i64 0, .int .i64 L.length, .fn (.func fc) [] [], .undef, .undef, .undef, .undef, .int .i64 i, .int .i64 j, .undef, .undef, .undef, .undef, .undef, .undef, .undef, .undef, .undef, .undef, .undef, .undef, .undef, .undef, .undef, .undef, .undef, .undef, .undef, .undef, .undef, .undef, .undef, .undef, .undef, .undef, .undef, .undef, .undef, .undef, .undef, .undef, .undef, .undef, .undef, .undef, .undef, .undef, .undef, .undef, .undef, .undef, .undef], [some (rows ai.cs (oq (cg lt (L.take i)) (L.drop (i + 1)) L[i] j))], 1⟩) (fun j => j) i ⟨Nat.le_refl _, rfl⟩ ?_ (fun j hj => ?_)
   · refine bt.cut (1) (by simp) (by simp) ?_ ?_
     · simp [LeC, LeV, ren, br]
     · simp [cd, dd, ae]
   have hml : ∀ j, (oq (cg lt (L.take i)) (L.drop (i + 1)) L[i] j).length = L.length := fun j => by rw [aml, hS, List.length_drop]; omega
   simp -implicitDefEqProofs -dsimp only [go_sem]
   refine ⟨by kernel_rfl, ?_⟩
   cases j with
   | zero =>
    have hz : ((0 : Nat) : Int) = 0 := rfl
    (repeat ((repeat1' (first | simp -implicitDefEqProofs -dsimp only [go_sem, hz] | simp -dsimp (disch := omega) only [wrap_i64])); repeat (with_reducible refine ah ?_)))
    refine ⟨i + 1, ⟨by omega, .inr hi'⟩, ?_, by omega⟩
    refine bt.cut (1) (by simp) (by simp) ?_ ?_
    · simp [LeC, LeV, ren, br]
    · rw [aeg (j := 0) hi' hj.2]
      simp [cd, dd, ae]
   | succ j =>
    have hjS : j < (cg lt (L.take i)).length := by rw [hS]; omega
    have hg : decide ((0 : Int) < ((j + 1 : Nat) : Int)) = true := decide_eq_true (by omega)
    have hw1 : IntKind.i64.wrap (((j + 1 : Nat) : Int) - 1) = (j : Int) := by rw [wrap_i64 (by omega) (by omega)]; omega
    have hk1 : j + 1 < (oq (cg lt (L.take i)) (L.drop (i + 1)) L[i] (j + 1)).length := by rw [hml]; omega
    have hk0 : j < (oq (cg lt (L.take i)) (L.drop (i + 1)) L[i] (j + 1)).length := by rw [hml]; omega
    have g1 := ani (S := cg lt (L.take i)) (R := L.drop (i + 1)) (x := L[i]) (j := j + 1) (by omega) hk1
    have g0 := aa6 (R := L.drop (i + 1)) (x := L[i]) hjS hk0
    have hr1 := bu ai.csl hk1
    have hr0 := bu ai.csl hk0
    have hlr := jk (w := 5) ai.csl (oq (cg lt (L.take i)) (L.drop (i + 1)) L[i] (j + 1))
    rw [g1] at hr1
    rw [g0] at hr0
    rw [hml] at hlr
    (repeat ((repeat1' (first | simp -implicitDefEqProofs -dsimp only [go_sem, hg, hw1, hr1, hr0, hlr, ai.cs] | simp -dsimp (disch := omega) only [wrap_i64])); repeat (with_reducible refine ah ?_)))
    (have ct := hv L[i] (cg lt (L.take i))[j]; (first | refine al.at ct ⟨leA, leA, trivial⟩ ?_ | refine ak.at ct ⟨leA, leA, trivial⟩ ?_); clear ct)
    simp -implicitDefEqProofs -dsimp only [go_sem]
    have hlx := ltv L[i] (cg lt (L.take i))[j]
    rw [← hlx]
    refine bc.split (fun h2 => ?_) (fun h2 => ?_)
    · have s1 := mi ai.csl hk1 (cg lt (L.take i))[j]
      have s2 := mi (L := (oq (cg lt (L.take i)) (L.drop (i + 1)) L[i] (j + 1)).set (j + 1) (cg lt (L.take i))[j]) ai.csl (by rw [List.length_set]; exact hk0) L[i]
      rw [ak9 hjS] at s2
      simp only [ai.cs] at s1 s2
      (repeat ((repeat1' (first | simp -implicitDefEqProofs -dsimp only [go_sem, h2, hw1, hr1, hr0, hlr, ai.cs] | simp -dsimp (disch := omega) only [wrap_i64])); repeat (with_reducible refine ah ?_)))
      have hl2 : (rows ai.cs ((oq (cg lt (L.take i)) (L.drop (i + 1)) L[i] (j + 1)).set (j + 1) (cg lt (L.take i))[j])).length = L.length * 5 := by rw [jk (w := 5) ai.csl, List.length_set, hml]
      rw [s1, s2]
      refine ⟨by rw [hl2]; omega, j, ⟨by omega, hj.2.trans (adh hjS h2)⟩, ?_, by omega⟩
      refine bt.cut (1) (by simp) (by simp) ?_ ?_
      · simp [LeC, LeV, ren, br]
      · simp [cd, dd, ae]
    · simp -implicitDefEqProofs -dsimp only [go_sem, h2]
      have hp := adx hjS h2
      refine ⟨i + 1, ⟨by omega, .inr hi'⟩, ?_, by omega⟩
      refine bt.cut (1) (by simp) (by simp) ?_ ?_
      · rw [wrap_i64 (by omega) (by omega)]; simp [LeC, LeV, ren, br]
      · rw [aeg hi' (hj.2.trans hp)]
        simp [cd, dd, ae]
 · simp -implicitDefEqProofs -dsimp only [go_sem, h1]
   have h1' : L.length ≤ i := by simp at h1; omega
   rw [anf lt L h1']
   exact aj.refl _ _ _
theorem aca (L : List ai) (c : ai → ai → Int) (fc : Nat) (hv : ∀ x y, Ctr Tryz.prog fc [ai.v x, ai.v y] [] (.int .i64 (c x y)) []) (hl : L.length ≤ 19) :
 Ctr Tryz.prog 273 [.osl 0 0 L.length 5, .int .i64 L.length, .fn (.func fc) [] []] [some (rows ai.cs L)] (.tup []) [some (rows ai.cs (cg (fun x y => decide (c x y < 0)) L))] := by
 refine Ctr.intro Tryz.mixed Tryz.func273 rfl Tryz.auy ?_
 simp -implicitDefEqProofs -dsimp only [go_sem, Tryz.ntmps273, Tryz.results273]
 have c0 : decide ((20 : Int) ≤ L.length) = false := decide_eq_false (by omega)
 have c1 : decide ((20 : Int) < L.length) = false := decide_eq_false (by omega)
 refine de.intro (fun _ : Unit => True) (fun _ => ⟨[.osl 0 0 L.length 5, .int .i64 L.length, .fn (.func fc) [] [], .undef, .undef, .undef, .int .i64 20, .int .i64 0, .int .i64 20, .undef, .undef, .undef, .undef, .undef, .undef, .undef, .undef, .undef, .undef, .undef, .undef, .undef, .undef, .undef, .undef, .undef, .undef, .undef, .undef, .undef, .undef, .undef, .undef, .undef, .undef, .undef, .undef, .undef, .undef, .undef, .undef, .undef, .undef, .undef, .undef, .undef, .undef, .undef, .undef, .undef, .undef, .undef, .undef, .undef, .undef, .undef, .undef, .undef, .undef, .undef, .undef, .undef, .undef], [some (rows ai.cs L)], 1⟩) (fun _ => 0) () trivial ?_ (fun _ _ => ?_)
 · refine bt.cut (1) (by simp) (by simp) ?_ ?_
   · simp [LeC, LeV, ren, br]
   · simp [cd, dd, ae]
 simp -implicitDefEqProofs -dsimp only [go_sem, c0]
 refine ak.tj [0] false ( x5 L c fc hv hl) (by decide) ⟨leO, leO, leO, leO, trivial⟩ xh ( mq (by simp [aw, ij])) (.inl rfl) ?_
 simp -implicitDefEqProofs -dsimp only [go_sem]
 refine de.intro (fun _ : Unit => True) (fun _ => ⟨[.osl 0 0 L.length 5, .int .i64 L.length, .fn (.func fc) [] [], .undef, .undef, .undef, .int .i64 20, .undef, .undef, .undef, .undef, .undef, .undef, .undef, .undef, .undef, .undef, .undef, .undef, .undef, .undef, .undef, .undef, .undef, .undef, .undef, .undef, .undef, .undef, .undef, .undef, .undef, .undef, .undef, .undef, .undef, .undef, .undef, .undef, .undef, .undef, .undef, .undef, .undef, .undef, .undef, .undef, .undef, .undef, .undef, .undef, .undef, .undef, .undef, .undef, .undef, .undef, .undef, .undef, .undef, .undef, .undef, .undef], [some (rows ai.cs (cg (fun x y => decide (c x y < 0)) L))], 1⟩) (fun _ => 0) () trivial ?_ (fun _ _ => ?_)
 · refine bt.cut (1) (by simp) (by simp) ?_ ?_
   · simp [LeC, LeV, ren, br]
   · simp [cd, dd, ae]
 simp -implicitDefEqProofs -dsimp only [go_sem, c1]
 exact aj.refl _ _ _
theorem wk (L : List ai) (c : ai → ai → Int) (fc : Nat) (hv : ∀ x y, Ctr Tryz.prog fc [ai.v x, ai.v y] [] (.int .i64 (c x y)) []) (hl : L.length ≤ 19) :
 Ctr Tryz.prog 249 [.osl 0 0 L.length 5, .fn (.func fc) [] []] [some (rows ai.cs L)] (.tup []) [some (rows ai.cs (cg (fun x y => decide (c x y < 0)) L))] := by
 refine Ctr.intro Tryz.mixed Tryz.func249 rfl Tryz.avk ?_
 simp -implicitDefEqProofs -dsimp only [go_sem, Tryz.ntmps249, Tryz.results249]
 refine ak.tj [0] false ( aca L c fc hv hl) (by decide) ⟨leO, leO, leO, trivial⟩ xh ( mq (by simp [aw, ij])) (.inl rfl) ?_
 simp -implicitDefEqProofs -dsimp only [go_sem]
 exact aj.refl _ _ _
end Go.Proofs
end
section
namespace Go.Lv
variable {α : Type}
theorem abl {lt : α → α → Bool} {A B : List α} {x : α} (hB : ∀ b ∈ B, lt x b = true) (hA : ∀ a ∈ A, lt x a = false) : ∀ k, k ≤ B.length → ab7 lt (A ++ B) x (A.length + k) = A.length
 | 0, _ => by
  cases h : A.length with
  | zero => rfl
  | succ m =>
   have hm : m < (A ++ B).length := by rw [List.length_append]; omega
   have e : (A ++ B)[m] = A[m]'(by omega) := List.getElem_append_left (by omega)
   exact adx hm (by rw [e]; exact hA _ (List.getElem_mem _))
 | k + 1, hk => by
  have hm : A.length + k < (A ++ B).length := by rw [List.length_append]; omega
  have e : (A ++ B)[A.length + k] = B[k]'(by omega) := by
   rw [List.getElem_append_right (by omega)]
   congr 1; omega
  rw [← Nat.add_assoc, adh hm (by rw [e]; exact hB _ (List.getElem_mem _))]
  exact abl hB hA k (by omega)
theorem akq {lt : α → α → Bool} {A B : List α} {x : α} (hB : ∀ b ∈ B, lt x b = true) (hA : ∀ a ∈ A, lt x a = false) : ins lt (A ++ B) x = A ++ x :: B := by
 rw [ins, List.length_append, abl hB hA _ (Nat.le_refl _), putAt]
 simp
def il (f : α → Int) (c : Int) (L : List α) (J : List Nat) : List α := J.flatMap fun (j : Nat) => L.filter fun x => f x == c - (j : Int)
theorem rv (f : α → Int) (c : Int) (L : List α) (J K : List Nat) : il f c L (J ++ K) = il f c L J ++ il f c L K := by simp [il]
theorem yl {f : α → Int} {c : Int} {L : List α} {J : List Nat} {x : α} (h : x ∈ il f c L J) : ∃ j ∈ J, f x = c - (j : Int) := by
 simp only [il, List.mem_flatMap, List.mem_filter, beq_iff_eq] at h
 obtain ⟨j, hj, _, e⟩ := h
 exact ⟨j, hj, e⟩
theorem aay {f : α → Int} {c : Int} {L : List α} {J : List Nat} {x : α} (h : ∀ j ∈ J, f x ≠ c - (j : Int)) : il f c (L ++ [x]) J = il f c L J := by
 induction J with
 | nil => rfl
 | cons j J ih =>
  have h1 : f x ≠ c - (j : Int) := h j (by simp)
  have h2 := ih (fun k hk => h k (by simp [hk]))
  simp only [il, List.flatMap_cons] at h2 ⊢
  rw [h2, List.filter_append]
  simp [h1]
theorem ada {f : α → Int} {c : Int} {n : Nat} : ∀ {L : List α}, (∀ x ∈ L, c - n < f x ∧ f x ≤ c) → cg (fun x y => decide (f y < f x)) L = il f c L (List.range n) := by
 intro L hL
 have key : ∀ i, i ≤ L.length → cg (fun x y => decide (f y < f x)) (L.take i) = il f c (L.take i) (List.range n) := by
  intro i
  induction i with
  | zero => intro _; simp [cg, il]
  | succ i ih =>
   intro hi
   have hi' : i < L.length := hi
   have hx := hL L[i] (List.getElem_mem hi')
   rw [xg hi', ih (by omega), List.take_succ_eq_append_getElem hi']
   obtain ⟨j, m, e1, e2⟩ : ∃ j m : Nat, f L[i] = c - (j : Int) ∧ n = j + (m + 1) := ⟨(c - f L[i]).toNat, n - 1 - (c - f L[i]).toNat, by omega, by omega⟩
   have hr : List.range n = List.range j ++ ([j] ++ (List.range m).map (fun k => j + (k + 1))) := by
    rw [e2, List.range_add, List.range_succ_eq_map]
    simp
   rw [hr, rv, rv, rv, rv]
   rw [aay (J := List.range j) (by intro k hk; have := List.mem_range.1 hk; omega)]
   rw [aay (J := (List.range m).map (fun k => j + (k + 1))) (by
    intro k hk
    obtain ⟨k, _, rfl⟩ := List.mem_map.1 hk
    omega)]
   have hone : il f c (L.take i ++ [L[i]]) [j] = il f c (L.take i) [j] ++ [L[i]] := by
    simp only [il, List.flatMap_cons, List.flatMap_nil, List.append_nil, List.filter_append]
    simp [e1]
   rw [hone, ← List.append_assoc]
   rw [akq (A := il f c (L.take i) (List.range j) ++ il f c (L.take i) [j]) (B := il f c (L.take i) ((List.range m).map (fun k => j + (k + 1))))]
   · simp
   · intro b hb
     obtain ⟨k, hk, e⟩ := yl hb
     obtain ⟨k, _, rfl⟩ := List.mem_map.1 hk
     simp; omega
   · intro a ha
     rcases List.mem_append.1 ha with h | h
     · obtain ⟨k, hk, e⟩ := yl h
       have := List.mem_range.1 hk
       simp; omega
     · obtain ⟨k, hk, e⟩ := yl h
       simp at hk; subst hk
       simp; omega
 have := key L.length (Nat.le_refl _)
 simpa using this
end Go.Lv
end
section
set_option maxRecDepth 100000
set_option maxHeartbeats 1000000
namespace Go.Proofs
open Go.Lv
def aiy (a b : Int) : Int := if a < b then -1 else if b < a then 1 else 0
theorem ao0 (a b : Int) : decide (aiy a b < 0) = decide (a < b) := by
 unfold aiy
 split
 · rename_i h; simp [h]
 · rename_i h; split <;> simp [h]
theorem qp (a : Int) : Ctr Tryz.prog 274 [.int .i64 a] [] (.bool false) [] := by
 refine Ctr.intro Tryz.mixed Tryz.func274 rfl Tryz.au8 ?_
 simp -implicitDefEqProofs -dsimp only [go_sem, Tryz.ntmps274, Tryz.results274]
 exact aj.au (by simp) (by rfl)
theorem ac3 (a b : Int) : Ctr Tryz.prog 251 [.int .i64 a, .int .i64 b] [] (.int .i64 (aiy a b)) [] := by
 refine Ctr.intro Tryz.mixed Tryz.func251 rfl Tryz.avl ?_
 simp -implicitDefEqProofs -dsimp only [go_sem, Tryz.ntmps251, Tryz.results251]
 (first | refine al.at (qp a) ⟨leA, trivial⟩ ?_ | refine ak.at (qp a) ⟨leA, trivial⟩ ?_)
 simp -implicitDefEqProofs -dsimp only [go_sem]
 (first | refine al.at (qp b) ⟨leA, trivial⟩ ?_ | refine ak.at (qp b) ⟨leA, trivial⟩ ?_)
 simp -implicitDefEqProofs -dsimp only [go_sem]
 refine bc.split (fun h1 => ?_) (fun h1 => ?_) <;> simp -implicitDefEqProofs -dsimp only [go_sem, h1]
 · exact aj.au (by rw [aiy, if_pos (of_decide_eq_true h1)]) (by rfl)
 · refine bc.split (fun h2 => ?_) (fun h2 => ?_) <;> simp -implicitDefEqProofs -dsimp only [go_sem, h2]
   · exact aj.au (by rw [aiy, if_neg (of_decide_eq_false h1), if_pos (of_decide_eq_true h2)]) (by rfl)
   · exact aj.au (by rw [aiy, if_neg (of_decide_eq_false h1), if_neg (of_decide_eq_false h2)]) (by rfl)
def j4 (x : ai) : Bool := x.State == 1
def agi (x y : ai) : Int := aiy y.Size x.Size
def np (w : ab) : List ai := cg (fun x y => decide (agi x y < 0)) (w.Shocks.filter j4)
theorem ai5 {w : ab} (hw : wB w = true) : np w = il ai.Size 95 (w.Shocks.filter j4) (List.range 116) := by
 have h : (fun x y : ai => decide (agi x y < 0)) = fun x y => decide (y.Size < x.Size) := by
  funext x y
  exact ao0 _ _
 rw [np, h]
 refine ada (fun x hx => ?_)
 have := gj.1 ((dt hw).shocks x (List.mem_filter.1 hx).1)
 omega
theorem ah4 {w : ab} (hw : wB w = true) : ∃ G : Nat → List ai, G 0 = [] ∧ (∀ j : Nat, G (j + 1) = G j ++ (w.Shocks.filter fun x => j4 x && x.Size == 95 - (j : Int))) ∧ (∀ j, (G j).length ≤ 6 * j) ∧ np w = G 116 := by
 have hlen := (dt hw).slen
 have GS : ∀ j : Nat, il ai.Size 95 (w.Shocks.filter j4) (List.range (j + 1)) = il ai.Size 95 (w.Shocks.filter j4) (List.range j) ++ (w.Shocks.filter fun x => j4 x && x.Size == 95 - (j : Int)) := by
  intro j
  rw [List.range_succ, rv]
  congr 1
  simp only [il, List.flatMap_cons, List.flatMap_nil, List.append_nil, List.filter_filter]
  congr 1
  funext x
  exact Bool.and_comm _ _
 refine ⟨fun j => il ai.Size 95 (w.Shocks.filter j4) (List.range j), rfl, GS, fun j => ?_, ai5 hw⟩
 induction j with
 | zero => simp [il]
 | succ j ih =>
  show (il ai.Size 95 (w.Shocks.filter j4) (List.range (j + 1))).length ≤ _
  rw [GS, List.length_append]
  have := List.length_filter_le (fun x => j4 x && x.Size == 95 - (j : Int)) w.Shocks
  have ih' : (il ai.Size 95 (w.Shocks.filter j4) (List.range j)).length ≤ 6 * j := ih
  omega
def jv (w : ab) : Option (List Int) := if wB w = true then some ((np w).map ai.Number) else none
theorem ahs (x : ai) : Ctr Tryz.prog 248 [x.v] [] (.bool (j4 x)) [] := by
 refine Ctr.intro Tryz.mixed Tryz.func248 rfl Tryz.axm ?_
 simp -implicitDefEqProofs -dsimp only [go_sem, Tryz.ntmps248, Tryz.results248]
 simp -implicitDefEqProofs -dsimp only [go_sem, ai.v]
 exact aj.au rfl (by rfl)
theorem akp (x y : ai) : Ctr Tryz.prog 250 [x.v, y.v] [] (.int .i64 (agi x y)) [] := by
 refine Ctr.intro Tryz.mixed Tryz.func250 rfl Tryz.ax9 ?_
 simp -implicitDefEqProofs -dsimp only [go_sem, Tryz.ntmps250, Tryz.results250]
 simp -implicitDefEqProofs -dsimp only [go_sem, ai.v]
 (have ct := ac3 y.Size x.Size; (first | refine al.at ct ⟨leA, leA, trivial⟩ ?_ | refine ak.at ct ⟨leA, leA, trivial⟩ ?_); clear ct)
 simp -implicitDefEqProofs -dsimp only [go_sem]
 exact aj.au rfl (by rfl)
theorem afd (w : ab) (hp : w.Posts.length ≤ 16777216) (hs : w.Shocks.length ≤ 16777216) : Ctr Tryz.prog 206 [w.v] [] (tz 1 (jv w)) (nr IntS.cs (jv w)) := by
 refine Ctr.intro Tryz.mixed Tryz.func206 rfl Tryz.aug ?_
 simp -implicitDefEqProofs -dsimp only [go_sem, Tryz.ntmps206, Tryz.results206]
 simp -implicitDefEqProofs -dsimp only [go_sem, ab.v]
 (have ct := dj w (by omega) (by omega); (first | refine al.at ct ⟨leA, trivial⟩ ?_ | refine ak.at ct ⟨leA, trivial⟩ ?_); clear ct)
 cases h : wB w with
 | false =>
  simp -implicitDefEqProofs -dsimp only [go_sem]
  have e : jv w = none := by simp [jv, h]
  rw [e]
  exact aj.au rfl (by rfl)
 | true =>
  have e : jv w = some ((np w).map ai.Number) := by simp [jv, h]
  rw [e]
  have hw := dt h
  have hlen := hw.slen
  have hfl : (w.Shocks.filter j4).length ≤ 6 := Nat.le_trans (List.length_filter_le _ _) hlen
  have hrl : (np w).length = (w.Shocks.filter j4).length := ij _ _
  simp -implicitDefEqProofs -dsimp only [go_sem]
  (first | refine al.at (um w.Shocks j4 _ [] (fun _ => rfl) ahs hs) ⟨leA, leA, trivial⟩ ?_ | refine ak.at (um w.Shocks j4 _ [] (fun _ => rfl) ahs hs) ⟨leA, leA, trivial⟩ ?_)
  simp -implicitDefEqProofs -dsimp only [go_sem]
  refine ak.tj [1] false ( wk (w.Shocks.filter j4) agi _ akp (by omega)) (by decide) ⟨leO, leO, trivial⟩ xh ( mq (by simp [aw, ij])) (.inl rfl) ?_
  have hr0 : cg (fun x y => decide (agi x y < 0)) (w.Shocks.filter j4) = np w := rfl
  rw [hr0]
  simp -implicitDefEqProofs -dsimp only [go_sem]
  rw [← hrl]
  refine de.intro (fun i : Nat => i ≤ (np w).length) (fun i => ⟨[.undef, .undef, .undef, .undef, .undef, .osl 2 0 i 1, .undef, .undef, .undef, .undef, .undef, .undef, .undef, .undef, .undef, .undef, .undef, .osl 1 0 (np w).length 5, .int .i64 (np w).length, .int .i64 i, .undef, .undef, .undef, .undef, .undef, .undef, .undef, .undef, .undef, .undef], [some w.cs, some (rows ai.cs (np w)), some (rows IntS.cs (((np w).take i).map ai.Number))], 0⟩) (fun i => (np w).length - i) 0 (Nat.zero_le _) ?_ (fun i hi => ?_)
  · refine bt.cut (3) (by simp) (by simp) ?_ ?_
    · simp [LeC, LeV, ren, br]
    · (simp [cd, dd, ren, ae, ab.cs]; try rfl)
  simp -implicitDefEqProofs -dsimp only [go_sem]
  refine bc.split (fun h1 => ?_) (fun h1 => ?_)
  · simp -implicitDefEqProofs -dsimp only [go_sem, h1]
    have hi' : i < (np w).length := by simpa using h1
    have h5 := ai.csl (np w)[i]
    have hr := bu ai.csl hi'
    (repeat ((repeat1' (first | simp -implicitDefEqProofs -dsimp only [go_sem, hr, ai.cs, aw, a8, Nat.mul_one, List.length_map, List.length_take] | simp -dsimp (disch := omega) only [wrap_i64])); repeat (with_reducible refine ah ?_)))
    refine ⟨i + 1, hi', ?_, by omega⟩
    refine bt.cut (3) (by simp) (by simp) ?_ ?_
    · simp [LeC, LeV, ren, br]
    · rw [List.take_succ_eq_append_getElem hi', List.map_append, List.map_singleton, ← eg]
      simp [cd, dd, ren, br, ae, cz, mc, ab.cs, IntS.cs]
  · simp -implicitDefEqProofs -dsimp only [go_sem, h1]
    have hi' : i = (np w).length := by simp at h1; omega
    subst hi'
    rw [List.take_length]
    have hml : ((np w).map ai.Number).length = (np w).length := List.length_map _
    simp only [tz, nr, hml]
    refine aj.pick [2] (by decide) (fun j hj => by omega) (.inl ?_) ?_
    · first | rfl | (simp [ren, bf, posOf]; done)
    · simp only [bb, List.map_cons, List.map_nil, bj, List.getElem?_cons_zero, List.getElem?_cons_succ, ae]
theorem afo (w : ab) (hp : w.Posts.length ≤ 16777216) (hs : w.Shocks.length ≤ 16777216) : Ctr Tryz.prog 214 [w.v] [] (aar 1 (jv w)) (va IntS.cs (jv w)) := by
 refine Ctr.intro Tryz.mixed Tryz.func214 rfl Tryz.av1 ?_
 simp -implicitDefEqProofs -dsimp only [go_sem, Tryz.ntmps214, Tryz.results214]
 simp -implicitDefEqProofs -dsimp only [go_sem, ab.v]
 (have ct := du w (by omega) (by omega); (first | refine al.at ct ⟨leA, trivial⟩ ?_ | refine ak.at ct ⟨leA, trivial⟩ ?_); clear ct)
 cases h : wB w with
 | false =>
  simp -implicitDefEqProofs -dsimp only [go_sem]
  have e : jv w = none := by simp [jv, h]
  rw [e]
  simp only [aar, va]
  refine aj.pick [1] (by decide) (fun j hj => by omega) (.inl ?_) ?_
  · first | rfl | (simp [ren, bf, posOf]; done)
  · simp only [bb, List.map_cons, List.map_nil, bj, List.getElem?_cons_zero, List.getElem?_cons_succ, ae]
 | true =>
  have e : jv w = some ((np w).map ai.Number) := by simp [jv, h]
  obtain ⟨G, G0, GS, GL, hend⟩ := ah4 h
  rw [e, hend]
  clear e hend
  have hw := dt h
  have hlen := hw.slen
  have hfl : (w.Shocks.filter j4).length ≤ 6 := Nat.le_trans (List.length_filter_le _ _) hlen
  simp -implicitDefEqProofs -dsimp only [go_sem]
  refine de.intro (fun j : Nat => j ≤ 116) (fun j => ⟨[.undef, .ptr 0 0, .undef, .undef, .osl 1 0 (G j).length 1, .int .i64 (95 - (j : Int)), .undef, .undef, .undef, .undef, .undef, .undef, .undef, .undef, .undef, .undef, .undef, .undef, .undef, .undef, .undef, .undef, .undef, .undef, .undef, .undef, .undef, .undef, .undef, .undef, .undef, .undef, .undef, .undef, .undef, .undef, .undef, .undef, .undef, .undef, .undef, .undef, .undef, .undef], [some w.cs, some (rows IntS.cs ((G j).map ai.Number))], 0⟩) (fun j => 116 - j) 0 (Nat.zero_le _) ?_ (fun j hj => ?_)
  · refine bt.cut (2) (by simp) (by simp) ?_ ?_
    · simp [LeC, LeV, ren, br, G0]
    · (simp [cd, dd, ren, ae, ab.cs, G0]; try rfl)
  simp -implicitDefEqProofs -dsimp only [go_sem]
  refine bc.split (fun h1 => ?_) (fun h1 => ?_)
  · simp -implicitDefEqProofs -dsimp only [go_sem, h1]
    have hj' : j < 116 := by simp at h1; omega
    have hstep : ∀ {i : Nat} (hi : i < w.Shocks.length), (w.Shocks.take (i + 1)).filter (fun x => j4 x && x.Size == 95 - (j : Int)) = (w.Shocks.take i).filter (fun x => j4 x && x.Size == 95 - (j : Int)) ++ if (j4 w.Shocks[i] && w.Shocks[i].Size == 95 - (j : Int)) = true then [w.Shocks[i]] else [] := fun {i} hi => by
     rw [List.take_succ_eq_append_getElem hi, List.filter_append]
     congr 1
     cases h : (j4 w.Shocks[i] && w.Shocks[i].Size == 95 - (j : Int)) <;> simp [h]
    generalize hF : (fun i : Nat => G j ++ (w.Shocks.take i).filter (fun x => j4 x && x.Size == 95 - (j : Int))) = F
    have F0 : F 0 = G j := by rw [← hF]; simp
    have FS1 : ∀ {i : Nat} (hi : i < w.Shocks.length), (j4 w.Shocks[i] && w.Shocks[i].Size == 95 - (j : Int)) = true → F (i + 1) = F i ++ [w.Shocks[i]] := by
     intro i hi hc
     rw [← hF]
     simp only [hstep hi, hc, if_true, List.append_assoc]
    have FS0 : ∀ {i : Nat} (hi : i < w.Shocks.length), (j4 w.Shocks[i] && w.Shocks[i].Size == 95 - (j : Int)) = false → F (i + 1) = F i := by
     intro i hi hc
     rw [← hF]
     simp only [hstep hi, hc, if_false, List.append_nil, Bool.false_eq_true]
    have FE : F w.Shocks.length = G (j + 1) := by rw [← hF, GS]; simp
    have FL : ∀ i, (F i).length ≤ 6 * j + 6 := by
     intro i
     rw [← hF]
     simp only [List.length_append]
     have h2 := List.length_filter_le (fun x => j4 x && x.Size == 95 - (j : Int)) (w.Shocks.take i)
     have h3 := GL j
     rw [List.length_take] at h2
     omega
    clear hF hstep
    refine de.intro (fun i : Nat => i ≤ w.Shocks.length) (fun i => ⟨[.undef, .ptr 0 0, .undef, .undef, .osl 1 0 (F i).length 1, .int .i64 (95 - (j : Int)), .int .i64 i, .undef, .undef, .undef, .undef, .undef, .undef, .undef, .undef, .undef, .undef, .undef, .undef, .undef, .undef, .undef, .undef, .undef, .undef, .undef, .undef, .undef, .undef, .undef, .undef, .undef, .undef, .undef, .undef, .undef, .undef, .undef, .undef, .undef, .undef, .undef, .undef, .undef], [some w.cs, some (rows IntS.cs ((F i).map ai.Number))], 0⟩) (fun i => w.Shocks.length - i) 0 (Nat.zero_le _) ?_ (fun i hi => ?_)
    · refine bt.cut (2) (by simp) (by simp) ?_ ?_
      · simp [LeC, LeV, ren, br, F0]
      · simp [cd, dd, ren, ae, ab.cs, F0]
    simp -implicitDefEqProofs -dsimp only [go_sem, ab.cs]
    refine bc.split (fun h2 => ?_) (fun h2 => ?_)
    · simp -implicitDefEqProofs -dsimp only [go_sem, h2]
      have hi' : i < w.Shocks.length := by simpa using h2
      have h5 := ai.csl w.Shocks[i]
      have hr := bu ai.csl hi'
      have hFl := FL i
      (repeat ((repeat1' (first | simp -implicitDefEqProofs -dsimp only [go_sem, hr, ai.cs, ab.cs] | simp -dsimp (disch := omega) only [wrap_i64])); repeat (with_reducible refine ah ?_)))
      refine ax.bq (fun h3 => ?_) (fun h3 => ?_) <;> simp -implicitDefEqProofs -dsimp only [go_sem, h3]
      · refine bc.split (fun h4 => ?_) (fun h4 => ?_) <;> simp -implicitDefEqProofs -dsimp only [go_sem, h4]
        · (repeat ((repeat1' (first | simp -implicitDefEqProofs -dsimp only [go_sem, hr, ai.cs, ab.cs, aw, a8, Nat.mul_one, List.length_map] | simp -dsimp (disch := omega) only [wrap_i64])); repeat (with_reducible refine ah ?_)))
          have hc : (j4 w.Shocks[i] && w.Shocks[i].Size == 95 - (j : Int)) = true := by rw [j4, h3, h4]; rfl
          refine ⟨i + 1, hi', ?_, by omega⟩
          refine bt.cut (2) (by simp) (by simp) ?_ ?_
          · rw [FS1 hi' hc]; simp [LeC, LeV, ren, br]
          · rw [FS1 hi' hc, List.map_append, List.map_singleton, ← eg]
            simp [cd, dd, ren, br, ae, cz, mc, ab.cs, IntS.cs]
        · try (repeat1' (first | simp -implicitDefEqProofs -dsimp only [go_sem] | simp -dsimp (disch := omega) only [wrap_i64]))
          have hc : (j4 w.Shocks[i] && w.Shocks[i].Size == 95 - (j : Int)) = false := by rw [j4, h3, h4]; rfl
          refine ⟨i + 1, hi', ?_, by omega⟩
          refine bt.cut (2) (by simp) (by simp) ?_ ?_
          · rw [FS0 hi' hc]; simp [LeC, LeV, ren, br]
          · rw [FS0 hi' hc]; simp [cd, dd, ren, ae, ab.cs]
      · try (repeat1' (first | simp -implicitDefEqProofs -dsimp only [go_sem] | simp -dsimp (disch := omega) only [wrap_i64]))
        have hc : (j4 w.Shocks[i] && w.Shocks[i].Size == 95 - (j : Int)) = false := by rw [j4, h3]; rfl
        refine ⟨i + 1, hi', ?_, by omega⟩
        refine bt.cut (2) (by simp) (by simp) ?_ ?_
        · rw [FS0 hi' hc]; simp [LeC, LeV, ren, br]
        · rw [FS0 hi' hc]; simp [cd, dd, ren, ae, ab.cs]
    · simp -implicitDefEqProofs -dsimp only [go_sem, h2]
      have hi' : i = w.Shocks.length := by simp at h2; omega
      subst hi'
      try (repeat1' (first | simp -implicitDefEqProofs -dsimp only [go_sem] | simp -dsimp (disch := omega) only [wrap_i64]))
      refine ⟨j + 1, by omega, ?_, by omega⟩
      refine bt.cut (2) (by simp) (by simp) ?_ ?_
      · rw [FE]; (simp [LeC, LeV, ren, br]; try omega)
      · rw [FE]; simp [cd, dd, ren, ae, ab.cs]
  · simp -implicitDefEqProofs -dsimp only [go_sem, h1]
    have hj' : j = 116 := by simp at h1; omega
    subst hj'
    have hml : ((G 116).map ai.Number).length = (G 116).length := List.length_map _
    simp only [aar, va, hml]
    refine aj.pick [1] (by decide) (fun j hj => by omega) (.inl ?_) ?_
    · first | rfl | (simp [ren, bf, posOf]; done)
    · simp only [bb, List.map_cons, List.map_nil, bj, List.getElem?_cons_zero, List.getElem?_cons_succ, ae]
end Go.Proofs
end
section
set_option maxRecDepth 100000
set_option maxHeartbeats 1000000
namespace Go.Proofs
open Go.Lv
def ldP (L : List ay) (o : Option Nat) (p : ay) : Bool := match o with
 | none => true
 | some b => match L[b]? with
  | some q => decide (p.Since < q.Since)
  | none => true
def ld (L : List ay) : Nat → Option Nat
 | 0 => none
 | i + 1 => match L[i]? with
  | none => ld L i
  | some p => if p.Up = false ∧ ldP L (ld L i) p = true then some i else ld L i
theorem aat {L : List ay} : ∀ {i b : Nat}, ld L i = some b → b < i ∧ b < L.length
 | 0, _, h => by simp [ld] at h
 | i + 1, b, h => by
  unfold ld at h
  split at h
  · have := aat h; omega
  · rename_i r hr
    split at h
    · simp at h; subst h
      exact ⟨by omega, (List.getElem?_eq_some_iff.1 hr).1⟩
    · have := aat h; omega
theorem r9 {L : List ay} {i : Nat} (hi : i < L.length) : ld L (i + 1) = if L[i].Up = false ∧ ldP L (ld L i) L[i] = true then some i else ld L i := by
 rw [ld, List.getElem?_eq_getElem hi]
def ldI (o : Option Nat) : Int := match o with
 | none => -1
 | some b => b
def mf (w : ab) : List V := if wB w = true then
 match ld w.Posts w.Posts.length with
 | none => [.int .i64 0, .int .i64 0, .bool false]
 | some b => match w.Posts[b]? with
  | some p => [.int .i64 p.Station, .int .i64 (w.Now - p.Since), .bool true]
  | none => [.int .i64 0, .int .i64 0, .bool false]
 else [.int .i64 0, .int .i64 0, .bool false]
theorem ahl {w : ab} (h : ld w.Posts w.Posts.length = none) : V.tup [.int .i64 0, .int .i64 0, .bool false] = .tup (mf w) := by
 unfold mf; rw [h]; split <;> rfl
theorem abp {w : ab} (hw : wB w = true) {b : Nat} (hb : b < w.Posts.length) (h : ld w.Posts w.Posts.length = some b) : V.tup [.int .i64 w.Posts[b].Station, .int .i64 (w.Now - w.Posts[b].Since), .bool true] = .tup (mf w) := by
 unfold mf; rw [h, if_pos hw]; simp [hb]
def ak6 (L : List ay) (o : Option Nat) : Int := match o with
 | none => 0
 | some b => match L[b]? with
  | some p => p.Station
  | none => 0
def s5 (w : ab) (o : Option Nat) : Int := match o with
 | none => -1
 | some b => match w.Posts[b]? with
  | some p => w.Now - p.Since
  | none => -1
theorem aaa (w : ab) (hp : w.Posts.length ≤ 16777216) (hs : w.Shocks.length ≤ 16777216) : Ctr Tryz.prog 208 [w.v] [] (.tup (mf w)) [] := by
 refine Ctr.intro Tryz.mixed Tryz.func208 rfl Tryz.awh ?_
 simp -implicitDefEqProofs -dsimp only [go_sem, Tryz.ntmps208, Tryz.results208]
 simp -implicitDefEqProofs -dsimp only [go_sem, ab.v]
 cases h : wB w with
 | false => repeat' (first | exact aj.refl _ _ _ | (refine aj.au ?_ (by rfl); first | rfl | (simp [h, mf, *]; done)) | ((have ct := dj w (by omega) (by omega); (first | refine al.at ct ⟨leA, trivial⟩ ?_ | refine ak.at ct ⟨leA, trivial⟩ ?_); clear ct); simp -implicitDefEqProofs -dsimp only [go_sem, h, mf, *]) | (refine ax.bq (fun _ => ?_) (fun _ => ?_) <;> simp -implicitDefEqProofs -dsimp only [go_sem, h, mf, *]) | (refine ax.ch (fun _ => ?_) (fun _ => ?_) <;> simp -implicitDefEqProofs -dsimp only [go_sem, h, mf, *]) | (refine bc.split (fun _ => ?_) (fun _ => ?_) <;> simp -implicitDefEqProofs -dsimp only [go_sem, h, mf, *]) | (exfalso; simp_all; done))
 | true =>
  have ok := dt h
  have hnow := ok.now
  repeat (first | ((have ct := dj w (by omega) (by omega); (first | refine al.at ct ⟨leA, trivial⟩ ?_ | refine ak.at ct ⟨leA, trivial⟩ ?_); clear ct); simp -implicitDefEqProofs -dsimp only [go_sem, h]) | (with_reducible refine And.intro (by first | omega | (show bo _ = true; kernel_rfl)) ?_; try (repeat1' (first | simp -implicitDefEqProofs -dsimp only [go_sem, h] | simp -dsimp (disch := omega) only [wrap_i64]))))
  refine de.intro (fun i : Nat => i ≤ w.Posts.length) (fun i => ⟨[.undef, .ptr 0 0, .undef, .undef, .undef, .int .i64 (ak6 w.Posts (ld w.Posts i)), .int .i64 (s5 w (ld w.Posts i)), .undef, .undef, .undef, .undef, .undef, .undef, .undef, ay.sl w.Posts, .int .i64 w.Posts.length, .int .i64 i, .undef, .undef, .undef, .undef, .undef, .undef, .undef, .undef, .undef, .undef, .undef, .undef, .undef, .undef, .undef, .undef, .undef, .undef, .undef, .undef, .undef, .undef, .undef, .undef], [some w.cs], 0⟩) (fun i => w.Posts.length - i) 0 (Nat.zero_le _) ?_ (fun i hi => ?_)
  · refine bt.cut (1) (by simp) (by simp) ?_ ?_
    · simp [LeC, LeV, ren, br, ld, ak6, s5]
    · simp [cd, dd, ren, ab.cs]
  simp -implicitDefEqProofs -dsimp only [go_sem, ab.cs]
  refine bc.split (fun h1 => ?_) (fun h1 => ?_)
  · simp -implicitDefEqProofs -dsimp only [go_sem, h1]
    have hi' : i < w.Posts.length := by simpa using h1
    have h5 := ay.csl w.Posts[i]
    have hr := bu ay.csl hi'
    have hvi := o7.1 (ok.posts _ (List.getElem_mem hi'))
    (repeat ((repeat1' (first | simp -implicitDefEqProofs -dsimp only [go_sem, hr, ay.cs, ab.cs] | simp -dsimp (disch := omega) only [wrap_i64])); repeat (with_reducible refine ah ?_)))
    have step : ∀ o, ld w.Posts (i + 1) = o → True := fun _ _ => trivial
    refine ax.bq (fun h2 => ?_) (fun h2 => ?_) <;> (repeat ((repeat1' (first | simp -implicitDefEqProofs -dsimp only [go_sem, h2, ay.cs, ab.cs] | simp -dsimp (disch := omega) only [wrap_i64])); repeat (with_reducible refine ah ?_)))
    · have hup : w.Posts[i].Up = false := by simpa using h2
      refine bc.split (fun h3 => ?_) (fun h3 => ?_) <;> (repeat ((repeat1' (first | simp -implicitDefEqProofs -dsimp only [go_sem, h3, ay.cs, ab.cs] | simp -dsimp (disch := omega) only [wrap_i64])); repeat (with_reducible refine ah ?_)))
      · have e : ld w.Posts (i + 1) = some i := by
         rw [r9 hi', if_pos]
         refine ⟨hup, ?_⟩
         simp at h3
         cases ho : ld w.Posts i with
         | none => rfl
         | some b =>
          have hb := aat ho
          rw [ho] at h3
          simp [s5, hb.2] at h3
          simp [ldP, hb.2]; omega
        refine ⟨i + 1, hi', ?_, by omega⟩
        refine bt.cut (1) (by simp) (by simp) ?_ ?_
        · rw [e]
          simp [LeC, LeV, ren, br, ak6, s5, hi']
        · simp [cd, dd, ren, ab.cs]
      · have e : ld w.Posts (i + 1) = ld w.Posts i := by
         rw [r9 hi', if_neg]
         rintro ⟨_, hq⟩
         simp at h3
         cases ho : ld w.Posts i with
         | none => rw [ho] at h3; simp [s5] at h3; omega
         | some b =>
          have hb := aat ho
          rw [ho] at h3 hq
          simp [s5, hb.2] at h3
          simp [ldP, hb.2] at hq; omega
        refine ⟨i + 1, hi', ?_, by omega⟩
        refine bt.cut (1) (by simp) (by simp) ?_ ?_
        · rw [e]
          simp [LeC, LeV, ren, br]
        · simp [cd, dd, ren, ab.cs]
    · have e : ld w.Posts (i + 1) = ld w.Posts i := by
       rw [r9 hi', if_neg]
       rintro ⟨hq, _⟩
       simp [hq] at h2
      refine ⟨i + 1, hi', ?_, by omega⟩
      refine bt.cut (1) (by simp) (by simp) ?_ ?_
      · rw [e]
        simp [LeC, LeV, ren, br]
      · simp [cd, dd, ren, ab.cs]
  · simp -implicitDefEqProofs -dsimp only [go_sem, h1]
    have hi' : i = w.Posts.length := by simp at h1; omega
    subst hi'
    cases ho : ld w.Posts w.Posts.length with
    | none =>
     simp -implicitDefEqProofs -dsimp only [go_sem, s5, ak6]
     exact aj.au (ahl ho) (by rfl)
    | some b =>
     have hb := (aat ho).2
     have hvi := o7.1 (ok.posts _ (List.getElem_mem hb))
     have e1 : s5 w (some b) = w.Now - w.Posts[b].Since := by simp [s5, hb]
     have e2 : ak6 w.Posts (some b) = w.Posts[b].Station := by simp [ak6, hb]
     have e3 : decide (w.Now - w.Posts[b].Since < 0) = false := decide_eq_false (by omega)
     simp -implicitDefEqProofs -dsimp only [go_sem, e1, e2, e3]
     exact aj.au (abp h hb ho) (by rfl)
theorem aac (w : ab) (hp : w.Posts.length ≤ 16777216) (hs : w.Shocks.length ≤ 16777216) : Ctr Tryz.prog 217 [w.v] [] (.tup (mf w)) [] := by
 refine Ctr.intro Tryz.mixed Tryz.func217 rfl Tryz.ayz ?_
 simp -implicitDefEqProofs -dsimp only [go_sem, Tryz.ntmps217, Tryz.results217]
 simp -implicitDefEqProofs -dsimp only [go_sem, ab.v]
 cases h : wB w with
 | false => repeat' (first | exact aj.refl _ _ _ | (refine aj.au ?_ (by rfl); first | rfl | (simp [h, mf, *]; done)) | ((have ct := du w (by omega) (by omega); (first | refine al.at ct ⟨leA, trivial⟩ ?_ | refine ak.at ct ⟨leA, trivial⟩ ?_); clear ct); simp -implicitDefEqProofs -dsimp only [go_sem, h, mf, *]) | (refine ax.bq (fun _ => ?_) (fun _ => ?_) <;> simp -implicitDefEqProofs -dsimp only [go_sem, h, mf, *]) | (refine ax.ch (fun _ => ?_) (fun _ => ?_) <;> simp -implicitDefEqProofs -dsimp only [go_sem, h, mf, *]) | (refine bc.split (fun _ => ?_) (fun _ => ?_) <;> simp -implicitDefEqProofs -dsimp only [go_sem, h, mf, *]) | (exfalso; simp_all; done))
 | true =>
  have ok := dt h
  have hnow := ok.now
  repeat (first | ((have ct := du w (by omega) (by omega); (first | refine al.at ct ⟨leA, trivial⟩ ?_ | refine ak.at ct ⟨leA, trivial⟩ ?_); clear ct); simp -implicitDefEqProofs -dsimp only [go_sem, h]) | (with_reducible refine And.intro (by first | omega | (show bo _ = true; kernel_rfl)) ?_; try (repeat1' (first | simp -implicitDefEqProofs -dsimp only [go_sem, h] | simp -dsimp (disch := omega) only [wrap_i64]))))
  refine de.intro (fun i : Nat => i ≤ w.Posts.length) (fun i => ⟨[.undef, .ptr 0 0, .undef, .undef, .undef, .int .i64 (ldI (ld w.Posts i)), .int .i64 i, .undef, .undef, .undef, .undef, .undef, .undef, .undef, .undef, .undef, .undef, .undef, .undef, .undef, .undef, .undef, .undef, .undef, .undef, .undef, .undef, .undef, .undef, .undef, .undef, .undef, .undef, .undef, .undef, .undef, .undef, .undef, .undef, .undef, .undef, .undef, .undef, .undef, .undef, .undef, .undef, .undef, .undef, .undef, .undef, .undef, .undef, .undef, .undef, .undef, .undef, .undef, .undef, .undef, .undef], [some w.cs], 0⟩) (fun i => w.Posts.length - i) 0 (Nat.zero_le _) ?_ (fun i hi => ?_)
  · refine bt.cut (1) (by simp) (by simp) ?_ ?_
    · simp [LeC, LeV, ren, br, ld, ldI]
    · simp [cd, dd, ren, ab.cs]
  simp -implicitDefEqProofs -dsimp only [go_sem, ab.cs]
  refine bc.split (fun h1 => ?_) (fun h1 => ?_)
  · simp -implicitDefEqProofs -dsimp only [go_sem, h1]
    have hi' : i < w.Posts.length := by simpa using h1
    have h5 := ay.csl w.Posts[i]
    have hr := bu ay.csl hi'
    have keep : w.Posts[i].Up = true → ld w.Posts (i + 1) = ld w.Posts i := by
     intro hq
     rw [r9 hi', if_neg]
     rintro ⟨h, _⟩
     simp [hq] at h
    cases ho : ld w.Posts i with
    | none =>
     have e0 : ldI none = -1 := rfl
     rw [e0]
     (repeat ((repeat1' (first | simp -implicitDefEqProofs -dsimp only [go_sem, hr, ay.cs, ab.cs] | simp -dsimp (disch := omega) only [wrap_i64])); repeat (with_reducible refine ah ?_)))
     refine ax.bq (fun h2 => ?_) (fun h2 => ?_) <;> (repeat ((repeat1' (first | simp -implicitDefEqProofs -dsimp only [go_sem, h2, hr, ay.cs, ab.cs] | simp -dsimp (disch := omega) only [wrap_i64])); repeat (with_reducible refine ah ?_)))
     · have hup : w.Posts[i].Up = false := by simpa using h2
       have e : ld w.Posts (i + 1) = some i := by
        rw [r9 hi', if_pos]
        exact ⟨hup, by rw [ho]; rfl⟩
       refine ⟨i + 1, hi', ?_, by omega⟩
       refine bt.cut (1) (by simp) (by simp) ?_ ?_
       · rw [e]
         simp [LeC, LeV, ren, br, ldI]
       · simp [cd, dd, ren, ab.cs]
     · have e : ld w.Posts (i + 1) = none := by rw [keep (by simpa using h2), ho]
       refine ⟨i + 1, hi', ?_, by omega⟩
       refine bt.cut (1) (by simp) (by simp) ?_ ?_
       · rw [e]
         simp [LeC, LeV, ren, br, ldI]
       · simp [cd, dd, ren, ab.cs]
    | some b =>
     have hb := aat ho
     have hrb := bu ay.csl hb.2
     have h6 := ay.csl w.Posts[b]
     have e0 : ldI (some b) = (b : Int) := rfl
     have e3 : decide ((b : Int) < 0) = false := decide_eq_false (by omega)
     rw [e0]
     (repeat ((repeat1' (first | simp -implicitDefEqProofs -dsimp only [go_sem, hr, ay.cs, ab.cs] | simp -dsimp (disch := omega) only [wrap_i64])); repeat (with_reducible refine ah ?_)))
     refine ax.bq (fun h2 => ?_) (fun h2 => ?_) <;> (repeat ((repeat1' (first | simp -implicitDefEqProofs -dsimp only [go_sem, h2, e3, hr, hrb, ay.cs, ab.cs] | simp -dsimp (disch := omega) only [wrap_i64])); repeat (with_reducible refine ah ?_)))
     · have hup : w.Posts[i].Up = false := by simpa using h2
       refine bc.split (fun h3 => ?_) (fun h3 => ?_) <;> (repeat ((repeat1' (first | simp -implicitDefEqProofs -dsimp only [go_sem, h3, hr, hrb, ay.cs, ab.cs] | simp -dsimp (disch := omega) only [wrap_i64])); repeat (with_reducible refine ah ?_)))
       · have e : ld w.Posts (i + 1) = some i := by
          rw [r9 hi', if_pos]
          exact ⟨hup, by rw [ho]; simpa [ldP, hb.2] using h3⟩
         refine ⟨i + 1, hi', ?_, by omega⟩
         refine bt.cut (1) (by simp) (by simp) ?_ ?_
         · rw [e]
           simp [LeC, LeV, ren, br, ldI]
         · simp [cd, dd, ren, ab.cs]
       · have e : ld w.Posts (i + 1) = some b := by
          rw [r9 hi', if_neg, ho]
          rintro ⟨_, hq⟩
          rw [ho] at hq
          simp [ldP, hb.2] at hq
          simp at h3
          omega
         refine ⟨i + 1, hi', ?_, by omega⟩
         refine bt.cut (1) (by simp) (by simp) ?_ ?_
         · rw [e]
           simp [LeC, LeV, ren, br, ldI]
         · simp [cd, dd, ren, ab.cs]
     · have e : ld w.Posts (i + 1) = some b := by rw [keep (by simpa using h2), ho]
       refine ⟨i + 1, hi', ?_, by omega⟩
       refine bt.cut (1) (by simp) (by simp) ?_ ?_
       · rw [e]
         simp [LeC, LeV, ren, br, ldI]
       · simp [cd, dd, ren, ab.cs]
  · simp -implicitDefEqProofs -dsimp only [go_sem, h1]
    have hi' : i = w.Posts.length := by simp at h1; omega
    subst hi'
    cases ho : ld w.Posts w.Posts.length with
    | none =>
     have e0 : ldI none = -1 := rfl
     rw [e0]
     simp -implicitDefEqProofs -dsimp only [go_sem]
     exact aj.au (ahl ho) (by rfl)
    | some b =>
     have hb := (aat ho).2
     have hvi := o7.1 (ok.posts _ (List.getElem_mem hb))
     have hrb := bu ay.csl hb
     have h6 := ay.csl w.Posts[b]
     have e3 : decide ((b : Int) < 0) = false := decide_eq_false (by omega)
     have e0 : ldI (some b) = (b : Int) := rfl
     rw [e0]
     (repeat ((repeat1' (first | simp -implicitDefEqProofs -dsimp only [go_sem, e3, hrb, ay.cs, ab.cs] | simp -dsimp (disch := omega) only [wrap_i64])); repeat (with_reducible refine ah ?_)))
     exact aj.au (abp h hb ho) (by rfl)
end Go.Proofs
end
section
set_option maxRecDepth 100000
set_option maxHeartbeats 2000000
namespace Go.Proofs
open Go.Lv
def aag (l : Log) (e : az) : List V := if qx l = true ∧ ix e = true then (if l.Count = 60 then [l.v, .int .i64 2] else [.agg [.str l.Durable, .str (l.Pending ++ gm l.Count e), .int .i64 (l.Count + 1)], .int .i64 0]) else [l.v, .int .i64 1]
theorem aav {l : Log} (h : qx l = true) : 0 ≤ l.Count ∧ l.Count ≤ 60 := by
 simp [qx] at h
 have := (xf (l.Durable ++ l.Pending)).2.2.2
 omega
theorem zd (l : Log) (e : az) (hd : l.Durable.size ≤ 4194304) (hp : l.Pending.size ≤ 4194304) (hc : e.Command.size ≤ 4194304) (hr : e.Reply.size ≤ 4194304) : Ctr Tryz.prog 96 [l.v, e.v] [] (.tup (aag l e)) [] := by
 refine Ctr.intro Tryz.mixed Tryz.func96 rfl Tryz.a17 ?_
 simp -implicitDefEqProofs -dsimp only [go_sem, Tryz.ntmps96, Tryz.results96]
 simp -implicitDefEqProofs -dsimp only [go_sem, Log.v, az.v]
 repeat (with_reducible refine And.intro ?_ ?_; focus (first | omega | with_reducible rfl | (show bo _ = true; kernel_rfl) | (simp only [aw, a8, List.length_append, List.length_cons, List.length_nil, List.all_append, List.all_cons, List.all_nil, bp, Nat.mul_one, Nat.one_mul, Bool.and_self]; first | done | omega) | (simp only [ByteArray.size_append, bm, List.size_toArray, List.length_cons, List.length_nil]; omega)))
 (have ct := ud l hd hp; (first | refine al.at ct ⟨leA, trivial⟩ ?_ | refine ak.at ct ⟨leA, trivial⟩ ?_); clear ct)
 simp -implicitDefEqProofs -dsimp only [go_sem]
 refine ax.ch (fun g1 => ?_) (fun g1 => ?_) <;> (repeat ((repeat1' (first | simp -implicitDefEqProofs -dsimp only [go_sem, g1] | simp -dsimp (disch := omega) only [wrap_i64])); repeat (with_reducible refine And.intro ?_ ?_; focus (first | omega | with_reducible rfl | (show bo _ = true; kernel_rfl) | (simp only [aw, a8, List.length_append, List.length_cons, List.length_nil, List.all_append, List.all_cons, List.all_nil, bp, Nat.mul_one, Nat.one_mul, Bool.and_self]; first | done | omega) | (simp only [ByteArray.size_append, bm, List.size_toArray, List.length_cons, List.length_nil]; omega)))))
 rotate_left
 · exact aj.au (by rw [aag, if_neg (by simp at g1; simp [g1])]; rfl) (by rfl)
 (have ct := ln e (by omega) (by omega); (first | refine al.at ct ⟨leA, trivial⟩ ?_ | refine ak.at ct ⟨leA, trivial⟩ ?_); clear ct)
 simp -implicitDefEqProofs -dsimp only [go_sem]
 refine bc.split (fun g2 => ?_) (fun g2 => ?_) <;> (repeat ((repeat1' (first | simp -implicitDefEqProofs -dsimp only [go_sem, g2] | simp -dsimp (disch := omega) only [wrap_i64])); repeat (with_reducible refine And.intro ?_ ?_; focus (first | omega | with_reducible rfl | (show bo _ = true; kernel_rfl) | (simp only [aw, a8, List.length_append, List.length_cons, List.length_nil, List.all_append, List.all_cons, List.all_nil, bp, Nat.mul_one, Nat.one_mul, Bool.and_self]; first | done | omega) | (simp only [ByteArray.size_append, bm, List.size_toArray, List.length_cons, List.length_nil]; omega)))))
 · exact aj.au (by rw [aag, if_neg (by simp at g2; simp [g2])]; rfl) (by rfl)
 have hL : qx l = true := by simpa using g1
 have hE : ix e = true := by simpa using g2
 have hb := aav hL
 refine bc.split (fun g3 => ?_) (fun g3 => ?_) <;> (repeat ((repeat1' (first | simp -implicitDefEqProofs -dsimp only [go_sem, g3] | simp -dsimp (disch := omega) only [wrap_i64])); repeat (with_reducible refine And.intro ?_ ?_; focus (first | omega | with_reducible rfl | (show bo _ = true; kernel_rfl) | (simp only [aw, a8, List.length_append, List.length_cons, List.length_nil, List.all_append, List.all_cons, List.all_nil, bp, Nat.mul_one, Nat.one_mul, Bool.and_self]; first | done | omega) | (simp only [ByteArray.size_append, bm, List.size_toArray, List.length_cons, List.length_nil]; omega)))))
 · exact aj.au (by rw [aag, if_pos ⟨hL, hE⟩, if_pos (by simpa using g3)]; rfl) (by rfl)
 have g3' : ¬ l.Count = 60 := by simpa using g3
 have hk : 0 ≤ l.Count ∧ l.Count ≤ 59 := by omega
 have z1 := gr hk hE
 have z2 := iv (di l.Count e)
 have z3 : (gm l.Count e).size = (nt (di l.Count e)).size + 1 := by rw [gm, ByteArray.size_append]; rfl
 have hi := rl l.Count e (by omega) (by omega)
 rw [ajb, if_pos ⟨fe.2 hk, hE⟩] at hi
 (first | refine al.at (hi) ⟨leA, leA, trivial⟩ ?_ | refine ak.at (hi) ⟨leA, leA, trivial⟩ ?_)
 (repeat ((repeat1' (first | simp -implicitDefEqProofs -dsimp only [go_sem] | simp -dsimp (disch := omega) only [wrap_i64])); repeat (with_reducible refine And.intro ?_ ?_; focus (first | omega | with_reducible rfl | (show bo _ = true; kernel_rfl) | (simp only [aw, a8, List.length_append, List.length_cons, List.length_nil, List.all_append, List.all_cons, List.all_nil, bp, Nat.mul_one, Nat.one_mul, Bool.and_self]; first | done | omega) | (simp only [ByteArray.size_append, bm, List.size_toArray, List.length_cons, List.length_nil]; omega)))))
 exact aj.au (by rw [aag, if_pos ⟨hL, hE⟩, if_neg g3']) (by rfl)
theorem yy (l : Log) (e : az) (hd : l.Durable.size ≤ 4194304) (hp : l.Pending.size ≤ 4194304) (hc : e.Command.size ≤ 4194304) (hr : e.Reply.size ≤ 4194304) : Ctr Tryz.prog 91 [l.v, e.v] [] (.tup (aag l e)) [] := by
 refine Ctr.intro Tryz.mixed Tryz.func91 rfl Tryz.a6v ?_
 simp -implicitDefEqProofs -dsimp only [go_sem, Tryz.ntmps91, Tryz.results91]
 simp -implicitDefEqProofs -dsimp only [go_sem, Log.v, az.v]
 repeat (with_reducible refine And.intro ?_ ?_; focus (first | omega | with_reducible rfl | (show bo _ = true; kernel_rfl) | (simp only [aw, a8, List.length_append, List.length_cons, List.length_nil, List.all_append, List.all_cons, List.all_nil, bp, Nat.mul_one, Nat.one_mul, Bool.and_self]; first | done | omega) | (simp only [ByteArray.size_append, bm, List.size_toArray, List.length_cons, List.length_nil]; omega)))
 (have ct := ad5 l hd hp; (first | refine al.at ct ⟨leA, trivial⟩ ?_ | refine ak.at ct ⟨leA, trivial⟩ ?_); clear ct)
 simp -implicitDefEqProofs -dsimp only [go_sem]
 refine ax.ch (fun g1 => ?_) (fun g1 => ?_) <;> (repeat ((repeat1' (first | simp -implicitDefEqProofs -dsimp only [go_sem, g1] | simp -dsimp (disch := omega) only [wrap_i64])); repeat (with_reducible refine And.intro ?_ ?_; focus (first | omega | with_reducible rfl | (show bo _ = true; kernel_rfl) | (simp only [aw, a8, List.length_append, List.length_cons, List.length_nil, List.all_append, List.all_cons, List.all_nil, bp, Nat.mul_one, Nat.one_mul, Bool.and_self]; first | done | omega) | (simp only [ByteArray.size_append, bm, List.size_toArray, List.length_cons, List.length_nil]; omega)))))
 rotate_left
 · exact aj.au (by rw [aag, if_neg (by simp at g1; simp [g1])]; rfl) (by rfl)
 (have ct := s9 e (by omega) (by omega); (first | refine al.at ct ⟨leA, trivial⟩ ?_ | refine ak.at ct ⟨leA, trivial⟩ ?_); clear ct)
 simp -implicitDefEqProofs -dsimp only [go_sem]
 refine bc.split (fun g2 => ?_) (fun g2 => ?_) <;> (repeat ((repeat1' (first | simp -implicitDefEqProofs -dsimp only [go_sem, g2] | simp -dsimp (disch := omega) only [wrap_i64])); repeat (with_reducible refine And.intro ?_ ?_; focus (first | omega | with_reducible rfl | (show bo _ = true; kernel_rfl) | (simp only [aw, a8, List.length_append, List.length_cons, List.length_nil, List.all_append, List.all_cons, List.all_nil, bp, Nat.mul_one, Nat.one_mul, Bool.and_self]; first | done | omega) | (simp only [ByteArray.size_append, bm, List.size_toArray, List.length_cons, List.length_nil]; omega)))))
 · exact aj.au (by rw [aag, if_neg (by simp at g2; simp [g2])]; rfl) (by rfl)
 have hL : qx l = true := by simpa using g1
 have hE : ix e = true := by simpa using g2
 have hb := aav hL
 refine bc.split (fun g3 => ?_) (fun g3 => ?_) <;> (repeat ((repeat1' (first | simp -implicitDefEqProofs -dsimp only [go_sem, g3] | simp -dsimp (disch := omega) only [wrap_i64])); repeat (with_reducible refine And.intro ?_ ?_; focus (first | omega | with_reducible rfl | (show bo _ = true; kernel_rfl) | (simp only [aw, a8, List.length_append, List.length_cons, List.length_nil, List.all_append, List.all_cons, List.all_nil, bp, Nat.mul_one, Nat.one_mul, Bool.and_self]; first | done | omega) | (simp only [ByteArray.size_append, bm, List.size_toArray, List.length_cons, List.length_nil]; omega)))))
 · exact aj.au (by rw [aag, if_pos ⟨hL, hE⟩, if_pos (by simpa using g3)]; rfl) (by rfl)
 have g3' : ¬ l.Count = 60 := by simpa using g3
 have hk : 0 ≤ l.Count ∧ l.Count ≤ 59 := by omega
 have z1 := gr hk hE
 have z2 := iv (di l.Count e)
 have z3 : (gm l.Count e).size = (nt (di l.Count e)).size + 1 := by rw [gm, ByteArray.size_append]; rfl
 (have ct := abo l.Count e hk hE; (first | refine al.at ct ⟨leA, leA, trivial⟩ ?_ | refine ak.at ct ⟨leA, leA, trivial⟩ ?_); clear ct)
 (repeat ((repeat1' (first | simp -implicitDefEqProofs -dsimp only [go_sem] | simp -dsimp (disch := omega) only [wrap_i64])); repeat (with_reducible refine And.intro ?_ ?_; focus (first | omega | with_reducible rfl | (show bo _ = true; kernel_rfl) | (simp only [aw, a8, List.length_append, List.length_cons, List.length_nil, List.all_append, List.all_cons, List.all_nil, bp, Nat.mul_one, Nat.one_mul, Bool.and_self]; first | done | omega) | (simp only [ByteArray.size_append, bm, List.size_toArray, List.length_cons, List.length_nil]; omega)))))
 exact aj.au (by rw [aag, if_pos ⟨hL, hE⟩, if_neg g3']) (by rfl)
end Go.Proofs
end
section
set_option maxRecDepth 100000
set_option maxHeartbeats 2000000
namespace Go.Proofs
open Go.Lv
def kwl : List ByteArray := [⟨#[119, 97, 105, 116]⟩, ⟨#[115, 104, 111, 99, 107]⟩, ⟨#[100, 111, 119, 110]⟩, ⟨#[117, 112]⟩, ⟨#[112, 117, 98, 108, 105, 115, 104]⟩, ⟨#[97, 114, 99, 104, 105, 118, 101]⟩, ⟨#[108, 111, 99, 97, 116, 101]⟩, ⟨#[114, 101, 118, 105, 101, 119]⟩, ⟨#[116, 101, 120, 116]⟩, ⟨#[110, 111, 119]⟩, ⟨#[112, 111, 115, 116, 115]⟩, ⟨#[116, 111, 100, 111]⟩, ⟨#[115, 116, 97, 116, 101, 115]⟩, ⟨#[108, 111, 110, 103, 101, 115, 116]⟩]
def kwd (h : ByteArray) : Nat := match kwl.findIdx? (fun x => decide (x = h)) with
 | some i => i + 1
 | none => 0
theorem ale : kwl.Nodup := of_decide_eq_true (by kernel_rfl)
theorem lj {h : ByteArray} {i : Nat} (hi : i < kwl.length) : h = kwl[i] ↔ kwd h = i + 1 := by
 constructor
 · intro e
   have h1 : kwl.findIdx? (fun x => decide (x = h)) = some i := by
    rw [List.findIdx?_eq_some_iff_getElem]
    refine ⟨hi, by simp [e], fun j hj => ?_⟩
    have := List.pairwise_iff_getElem.1 ale j i (by omega) hi hj
    simp [e, this]
   rw [kwd, h1]
 · intro e
   unfold kwd at e
   split at e
   · rename_i j hj
     rw [List.findIdx?_eq_some_iff_getElem] at hj
     obtain ⟨g1, g2, _⟩ := hj
     have : j = i := by omega
     subst this
     simpa using (of_decide_eq_true g2).symm
   · omega
theorem aur (h : ByteArray) : kwd h ≤ 14 := by
 unfold kwd
 split
 · rename_i j hj
   rw [List.findIdx?_eq_some_iff_getElem] at hj
   obtain ⟨g1, _⟩ := hj
   have : kwl.length = 14 := rfl
   omega
 · omega
theorem kw1 {h : ByteArray} : h = (⟨#[119, 97, 105, 116]⟩ : ByteArray) ↔ kwd h = 1 := lj (i := 0) (by decide)
theorem kwb1 (h : ByteArray) : (h.toList == (⟨#[119, 97, 105, 116]⟩ : ByteArray).toList) = decide (kwd h = 1) := by rw [gp]; exact decide_eq_decide.2 kw1
theorem kw2 {h : ByteArray} : h = (⟨#[115, 104, 111, 99, 107]⟩ : ByteArray) ↔ kwd h = 2 := lj (i := 1) (by decide)
theorem kwb2 (h : ByteArray) : (h.toList == (⟨#[115, 104, 111, 99, 107]⟩ : ByteArray).toList) = decide (kwd h = 2) := by rw [gp]; exact decide_eq_decide.2 kw2
theorem kw3 {h : ByteArray} : h = (⟨#[100, 111, 119, 110]⟩ : ByteArray) ↔ kwd h = 3 := lj (i := 2) (by decide)
theorem kwb3 (h : ByteArray) : (h.toList == (⟨#[100, 111, 119, 110]⟩ : ByteArray).toList) = decide (kwd h = 3) := by rw [gp]; exact decide_eq_decide.2 kw3
theorem kw4 {h : ByteArray} : h = (⟨#[117, 112]⟩ : ByteArray) ↔ kwd h = 4 := lj (i := 3) (by decide)
theorem kwb4 (h : ByteArray) : (h.toList == (⟨#[117, 112]⟩ : ByteArray).toList) = decide (kwd h = 4) := by rw [gp]; exact decide_eq_decide.2 kw4
theorem kw5 {h : ByteArray} : h = (⟨#[112, 117, 98, 108, 105, 115, 104]⟩ : ByteArray) ↔ kwd h = 5 := lj (i := 4) (by decide)
theorem kwb5 (h : ByteArray) : (h.toList == (⟨#[112, 117, 98, 108, 105, 115, 104]⟩ : ByteArray).toList) = decide (kwd h = 5) := by rw [gp]; exact decide_eq_decide.2 kw5
theorem kw6 {h : ByteArray} : h = (⟨#[97, 114, 99, 104, 105, 118, 101]⟩ : ByteArray) ↔ kwd h = 6 := lj (i := 5) (by decide)
theorem kwb6 (h : ByteArray) : (h.toList == (⟨#[97, 114, 99, 104, 105, 118, 101]⟩ : ByteArray).toList) = decide (kwd h = 6) := by rw [gp]; exact decide_eq_decide.2 kw6
theorem kw7 {h : ByteArray} : h = (⟨#[108, 111, 99, 97, 116, 101]⟩ : ByteArray) ↔ kwd h = 7 := lj (i := 6) (by decide)
theorem kwb7 (h : ByteArray) : (h.toList == (⟨#[108, 111, 99, 97, 116, 101]⟩ : ByteArray).toList) = decide (kwd h = 7) := by rw [gp]; exact decide_eq_decide.2 kw7
theorem kw8 {h : ByteArray} : h = (⟨#[114, 101, 118, 105, 101, 119]⟩ : ByteArray) ↔ kwd h = 8 := lj (i := 7) (by decide)
theorem kwb8 (h : ByteArray) : (h.toList == (⟨#[114, 101, 118, 105, 101, 119]⟩ : ByteArray).toList) = decide (kwd h = 8) := by rw [gp]; exact decide_eq_decide.2 kw8
theorem kw9 {h : ByteArray} : h = (⟨#[116, 101, 120, 116]⟩ : ByteArray) ↔ kwd h = 9 := lj (i := 8) (by decide)
theorem kwb9 (h : ByteArray) : (h.toList == (⟨#[116, 101, 120, 116]⟩ : ByteArray).toList) = decide (kwd h = 9) := by rw [gp]; exact decide_eq_decide.2 kw9
theorem kw10 {h : ByteArray} : h = (⟨#[110, 111, 119]⟩ : ByteArray) ↔ kwd h = 10 := lj (i := 9) (by decide)
theorem aso (h : ByteArray) : (h.toList == (⟨#[110, 111, 119]⟩ : ByteArray).toList) = decide (kwd h = 10) := by rw [gp]; exact decide_eq_decide.2 kw10
theorem kw11 {h : ByteArray} : h = (⟨#[112, 111, 115, 116, 115]⟩ : ByteArray) ↔ kwd h = 11 := lj (i := 10) (by decide)
theorem atq (h : ByteArray) : (h.toList == (⟨#[112, 111, 115, 116, 115]⟩ : ByteArray).toList) = decide (kwd h = 11) := by rw [gp]; exact decide_eq_decide.2 kw11
theorem kw12 {h : ByteArray} : h = (⟨#[116, 111, 100, 111]⟩ : ByteArray) ↔ kwd h = 12 := lj (i := 11) (by decide)
theorem at6 (h : ByteArray) : (h.toList == (⟨#[116, 111, 100, 111]⟩ : ByteArray).toList) = decide (kwd h = 12) := by rw [gp]; exact decide_eq_decide.2 kw12
theorem kw13 {h : ByteArray} : h = (⟨#[115, 116, 97, 116, 101, 115]⟩ : ByteArray) ↔ kwd h = 13 := lj (i := 12) (by decide)
theorem asn (h : ByteArray) : (h.toList == (⟨#[115, 116, 97, 116, 101, 115]⟩ : ByteArray).toList) = decide (kwd h = 13) := by rw [gp]; exact decide_eq_decide.2 kw13
theorem kw14 {h : ByteArray} : h = (⟨#[108, 111, 110, 103, 101, 115, 116]⟩ : ByteArray) ↔ kwd h = 14 := lj (i := 13) (by decide)
theorem atl (h : ByteArray) : (h.toList == (⟨#[108, 111, 110, 103, 101, 115, 116]⟩ : ByteArray).toList) = decide (kwd h = 14) := by rw [gp]; exact decide_eq_decide.2 kw14
def iq (q : Nat) (ns : List Int) : Option (Int × Int × Int) := match ns with
 | [] => if q = 2 then some (4, 0, 0) else none
 | [n] => if q = 1 then some (1, 0, n) else if q = 3 then some (2, n, 0) else if q = 4 then some (3, n, 0) else if q = 5 then some (7, n, 0) else if q = 6 then some (8, n, 0) else none
 | [n, v] => if q = 7 then some (5, n, v) else if q = 8 then some (6, n, v) else none
 | _ => none
def ups (w : ab) : List Int := q9 w.Posts w.Posts.length
def aad (w : ab) (n : Int) : Option ByteArray := (w.Shocks.find? (dh n)).map o9
def lgO (w : ab) : Option (Int × Int) := match ld w.Posts w.Posts.length with
 | none => none
 | some b => match w.Posts[b]? with
  | some p => some (p.Station, w.Now - p.Since)
  | none => none
def j8 (w : ab) (k n : Int) : Option ByteArray :=
 if k = 1 then some (num w.Now) else if k = 2 ∨ k = 3 then some (l7 (ups w)) else if k = 4 then some (num (w.Next - 1)) else if k = 8 then some (num w.Archived) else aad w n
def wi (w : ab) (q : Nat) : Option ByteArray :=
 if q = 10 then some (num w.Now) else if q = 11 then some (l7 (ups w)) else if q = 12 then some (l7 ((np w).map ai.Number)) else if q = 13 then some (l7 (cm w.Shocks)) else if q = 14 then (lgO w).map fun p => l7 [p.1, p.2] else none
noncomputable def sg (L : List ByteArray) : Option (List Int) := if L.all (fun s => (cq s).isSome) = true then some (L.map fun s => (cq s).getD 0) else none
def lb (w : ab) (k n v : Int) : ab × ByteArray := match ey w k n v with
 | none => (w, wQ)
 | some b => (b, (j8 b k n).getD wQ)
noncomputable def l9 (w : ab) (q : Nat) (ns : List Int) : ab × ByteArray := match iq q ns with
 | some (k, n, v) => lb w k n v
 | none => match ns with
  | [] => (w, (wi w q).getD wQ)
  | [n] => (w, if q = 9 then (aad w n).getD wQ else wQ)
  | _ => (w, wQ)
noncomputable def e9 (w : ab) (line : ByteArray) : ab × ByteArray := match sg (iz 32 line).tail with
 | none => (w, wQ)
 | some ns => l9 w (kwd ((iz 32 line).headD ⟨#[]⟩)) ns
theorem ye {w : ab} (h : wB w = true) (n : Int) : gx w n = .tup [.str ((aad w n).getD ByteArray.empty), .bool (aad w n).isSome] := by
 rw [gx, if_pos h, aad]
 cases w.Shocks.find? (dh n) <;> rfl
theorem ahb {w : ab} (h : wB w = true) : mf w = [.int .i64 ((lgO w).map Prod.fst |>.getD 0), .int .i64 ((lgO w).map Prod.snd |>.getD 0), .bool (lgO w).isSome] := by
 rw [mf, if_pos h, lgO]
 cases ld w.Posts w.Posts.length with
 | none => rfl
 | some b =>
  dsimp only
  cases w.Posts[b]? <;> rfl
theorem amc {w : ab} (h : wB w = true) : upR w = some (ups w) := if_pos h
theorem acq {w : ab} (h : wB w = true) : jv w = some ((np w).map ai.Number) := if_pos h
theorem abq {w : ab} (h : wB w = true) : ou w = some (cm w.Shocks) := if_pos h
theorem an5 {s : ByteArray} : -999999 ≤ (cq s).getD 0 ∧ (cq s).getD 0 ≤ 999999 := by
 cases h : cq s with
 | none => exact ⟨by decide, by decide⟩
 | some n => exact ⟨(wa h).1, (wa h).2.1⟩
theorem y4 {L : List ByteArray} {ns : List Int} (h : sg L = some ns) : ∀ n ∈ ns, -999999 ≤ n ∧ n ≤ 999999 := by
 unfold sg at h
 split at h
 · simp only [Option.some.injEq] at h
   subst h
   intro n hn
   obtain ⟨s, _, rfl⟩ := List.mem_map.1 hn
   exact an5
 · cases h
theorem aox {c : UInt8} {s x : ByteArray} (h : iz c s = [x]) : x = s := by
 obtain ⟨l, h1, h2⟩ := rn c s
 rw [h1] at h
 injection h with h3 h4
 have h5 := h2.1 h4
 rw [← h3, bef, if_neg (by rw [fnd] at h5; simpa using h5)]
theorem yx (c : UInt8) (s : ByteArray) : ∃ x l, iz c s = x :: l := by
 obtain ⟨l, h1, _⟩ := rn c s
 exact ⟨_, _, h1⟩
theorem abx (c : UInt8) (s : ByteArray) : (iz c s).length ≤ s.size + 1 := by
 have := (abc c s s.size (Nat.le_refl _)).2
 rw [iz, List.length_append]
 simp only [List.length_cons, List.length_nil]; omega
theorem sj (c : UInt8) (s : ByteArray) : ∀ (i : Nat) (x : ByteArray), x ∈ (ff c s i).1 → x.size ≤ s.size
 | 0, x, h => by simp [ff] at h
 | i + 1, x, h => by
  by_cases hi : i < s.size
  · cases hc : (s[i]'hi == c) with
    | true =>
     rw [o6 hi hc] at h
     rcases List.mem_append.1 h with h | h
     · exact sj c s i x h
     · simp only [List.mem_singleton] at h
       subst h
       rw [ByteArray.size_extract]; omega
    | false =>
     rw [r8 hi hc] at h
     exact sj c s i x h
  · rw [ff, dif_neg hi] at h
    exact sj c s i x h
theorem yn (c : UInt8) (s : ByteArray) {x : ByteArray} (h : x ∈ iz c s) : x.size ≤ s.size := by
 rw [iz] at h
 rcases List.mem_append.1 h with h | h
 · exact sj c s _ x h
 · simp only [List.mem_singleton] at h
   subst h
   rw [ByteArray.size_extract]; omega
theorem yz {L : List ByteArray} {i : Nat} (hi : i < L.length) (h : (cq L[i]).isSome = false) : sg L = none := by
 rw [sg, if_neg]
 intro h2
 have := List.all_eq_true.1 h2 _ (List.getElem_mem hi)
 rw [h] at this; cases this
theorem v8 {L : List ByteArray} (h : (L.take L.length).all (fun s => (cq s).isSome) = true) : sg L = some (L.map fun s => (cq s).getD 0) := by
 rw [List.take_length] at h
 rw [sg, if_pos h]
end Go.Proofs
end
section
set_option maxRecDepth 100000
set_option maxHeartbeats 4000000
namespace Go.Proofs
open Go.Lv
theorem tw (L : List Int) (hL : ∀ n ∈ L, gz n) (hl : L.length ≤ 100000) : Ctr Tryz.prog 201 [IntS.sl L] [] (.str (l7 L)) [] := by
 by_cases he : L = []
 · have c0 : ((L.length : Int) == 0) = true := by rw [he]; rfl
   refine Ctr.intro Tryz.mixed Tryz.func201 rfl Tryz.aop ?_
   simp -implicitDefEqProofs -dsimp only [go_sem, Tryz.ntmps201, Tryz.results201]
   (repeat ((repeat1' (first | simp -implicitDefEqProofs -dsimp only [go_sem, c0] | simp -dsimp (disch := omega) only [wrap_i64])); repeat (with_reducible refine ah ?_)))
   exact aj.au (by rw [l7, if_pos he]; rfl) (by rfl)
 have hpos : 0 < L.length := List.length_pos_iff.2 he
 have c0 : ((L.length : Int) == 0) = false := by simp; omega
 refine Ctr.intro Tryz.mixed Tryz.func201 rfl Tryz.aop ?_
 simp -implicitDefEqProofs -dsimp only [go_sem, Tryz.ntmps201, Tryz.results201]
 (repeat ((repeat1' (first | simp -implicitDefEqProofs -dsimp only [go_sem, c0] | simp -dsimp (disch := omega) only [wrap_i64])); repeat (with_reducible refine ah ?_)))
 refine de.intro (fun i : Nat => i ≤ L.length) (fun i => ⟨[.undef, .undef, .undef, .osl 0 0 i 1, .undef, .undef, .undef, .undef, .undef, .undef, IntS.sl L, .int .i64 L.length, .int .i64 i, .undef, .undef, .undef, .undef, .undef, .undef, .undef, .undef, .undef, .undef, .undef], [some (rows StringS.cs ((L.take i).map num))], 0⟩) (fun i => L.length - i) 0 (Nat.zero_le _) ?_ (fun i hi => ?_)
 · refine bt.cut (1) (by simp) (by simp) ?_ ?_
   · simp [LeC, LeV, ren, br]
   · rfl
 simp -implicitDefEqProofs -dsimp only [go_sem]
 refine bc.split (fun h1 => ?_) (fun h1 => ?_)
 · have hi' : i < L.length := by have := of_decide_eq_true h1; omega
   have hr := bu IntS.csl hi'
   have hst : (L.take (i + 1)).map num = (L.take i).map num ++ [num L[i]] := by rw [List.take_succ_eq_append_getElem hi', List.map_append]; rfl
   have hlen : ((L.take i).map num).length = i := by simp; omega
   (repeat ((repeat1' (first | simp -implicitDefEqProofs -dsimp only [go_sem, h1, hr, IntS.cs] | simp -dsimp (disch := omega) only [wrap_i64])); repeat (with_reducible refine ah ?_)))
   (first | refine al.at (qh L[i] (hL _ (List.getElem_mem hi'))) ⟨leA, trivial⟩ ?_ | refine ak.at (qh L[i] (hL _ (List.getElem_mem hi'))) ⟨leA, trivial⟩ ?_)
   (repeat ((repeat1' (first | simp -implicitDefEqProofs -dsimp only [go_sem, aw, a8, Nat.mul_one, hlen] | simp -dsimp (disch := omega) only [wrap_i64])); repeat (with_reducible refine ah ?_)))
   refine ⟨i + 1, hi', ?_, by omega⟩
   refine bt.cut (1) (by simp) (by simp) ?_ ?_
   · simp [LeC, LeV, ren, br]
   · rw [hst, ← eg]
     simp [cd, dd, ren, br, ae, cz, StringS.cs]
 · have hi' : i = L.length := by have := of_decide_eq_false h1; omega
   subst hi'
   have hsz := we L hL
   have hjl := adv L
   (repeat ((repeat1' (first | simp -implicitDefEqProofs -dsimp only [go_sem, h1, List.take_length] | simp -dsimp (disch := omega) only [wrap_i64])); repeat (with_reducible refine ah ?_)))
   (have ct := arb (L.map num) (by rw [← hjl, ew]; omega) (by simp; omega); (first | refine al.at ct ⟨leA, leA, trivial⟩ ?_ | refine ak.at ct ⟨leA, leA, trivial⟩ ?_); clear ct)
   (repeat ((repeat1' (first | simp -implicitDefEqProofs -dsimp only [go_sem] | simp -dsimp (disch := omega) only [wrap_i64])); repeat (with_reducible refine ah ?_)))
   refine aj.au ?_ (by rfl)
   rw [l7, if_neg he, ← hjl]
def zf (o : Option (Int × Int × Int)) : V := .agg [.int .i64 ((o.map fun p => p.1).getD 0), .int .i64 ((o.map fun p => p.2.1).getD 0), .int .i64 ((o.map fun p => p.2.2).getD 0)]
def M1 : List (Value × Value) := [(.string ⟨#[100, 111, 119, 110]⟩, .int .i64 2), (.string ⟨#[117, 112]⟩, .int .i64 3), (.string ⟨#[112, 117, 98, 108, 105, 115, 104]⟩, .int .i64 7), (.string ⟨#[97, 114, 99, 104, 105, 118, 101]⟩, .int .i64 8)]
def M2 : List (Value × Value) := [(.string ⟨#[108, 111, 99, 97, 116, 101]⟩, .int .i64 5), (.string ⟨#[114, 101, 118, 105, 101, 119]⟩, .int .i64 6)]
theorem avz (a b : ByteArray) : (a == b) = decide (a = b) := by
 by_cases e : a = b
 · subst e; simp only [decide_true]; exact (Go.MapKept.bytes_beq a a).2 rfl
 · rw [decide_eq_false e]
   cases h : (a == b)
   · rfl
   · exact absurd ((Go.MapKept.bytes_beq a b).1 h) e
theorem yt {a b : ByteArray} (h : ¬ a = b) : (a == b) = false := by rw [avz]; exact decide_eq_false h
theorem a2o (h : ByteArray) : ju .string (.string h) M1 0 = some (if kwd h = 3 then some (0, .int .i64 2) else if kwd h = 4 then some (1, .int .i64 3) else if kwd h = 5 then some (2, .int .i64 7) else if kwd h = 6 then some (3, .int .i64 8) else none) := by
 by_cases c3 : kwd h = 3
 · rw [if_pos c3]; have := kw3.2 c3; subst this; rfl
 by_cases c4 : kwd h = 4
 · rw [if_neg c3, if_pos c4]; have := kw4.2 c4; subst this; rfl
 by_cases c5 : kwd h = 5
 · rw [if_neg c3, if_neg c4, if_pos c5]; have := kw5.2 c5; subst this; rfl
 by_cases c6 : kwd h = 6
 · rw [if_neg c3, if_neg c4, if_neg c5, if_pos c6]; have := kw6.2 c6; subst this; rfl
 rw [if_neg c3, if_neg c4, if_neg c5, if_neg c6]
 simp only [M1, ju, Instr.sameNow, yt (fun e => c3 (kw3.1 e)), yt (fun e => c4 (kw4.1 e)), yt (fun e => c5 (kw5.1 e)), yt (fun e => c6 (kw6.1 e))]
theorem a3j (h : ByteArray) : ju .string (.string h) M2 0 = some (if kwd h = 7 then some (0, .int .i64 5) else if kwd h = 8 then some (1, .int .i64 6) else none) := by
 by_cases c3 : kwd h = 7
 · rw [if_pos c3]; have := kw7.2 c3; subst this; rfl
 by_cases c4 : kwd h = 8
 · rw [if_neg c3, if_pos c4]; have := kw8.2 c4; subst this; rfl
 rw [if_neg c3, if_neg c4]
 simp only [M2, ju, Instr.sameNow, yt (fun e => c3 (kw7.1 e)), yt (fun e => c4 (kw8.1 e))]
theorem ad3 (h : ByteArray) (ns : List Int) (hl : ns.length ≤ 100000) : Ctr Tryz.prog 147 [.str h, IntS.sl ns] [] (.tup [zf (iq (kwd h) ns), .bool (iq (kwd h) ns).isSome]) [] := by
 have f1 : ju .string (.string ⟨#[100, 111, 119, 110]⟩) [] 0 = some none := rfl
 have f2 : ju .string (.string ⟨#[117, 112]⟩) [(.string ⟨#[100, 111, 119, 110]⟩, .int .i64 2)] 0 = some none := by kernel_rfl
 have f3 : ju .string (.string ⟨#[112, 117, 98, 108, 105, 115, 104]⟩) [(.string ⟨#[100, 111, 119, 110]⟩, .int .i64 2), (.string ⟨#[117, 112]⟩, .int .i64 3)] 0 = some none := by kernel_rfl
 have f4 : ju .string (.string ⟨#[97, 114, 99, 104, 105, 118, 101]⟩) [(.string ⟨#[100, 111, 119, 110]⟩, .int .i64 2), (.string ⟨#[117, 112]⟩, .int .i64 3), (.string ⟨#[112, 117, 98, 108, 105, 115, 104]⟩, .int .i64 7)] 0 = some none := by kernel_rfl
 have f5 : ju .string (.string ⟨#[108, 111, 99, 97, 116, 101]⟩) [] 0 = some none := rfl
 have f6 : ju .string (.string ⟨#[114, 101, 118, 105, 101, 119]⟩) [(.string ⟨#[108, 111, 99, 97, 116, 101]⟩, .int .i64 5)] 0 = some none := by kernel_rfl
 have k1 := a2o h
 have k2 := a3j h
 have hb1 := kwb1 h
 have hb2 := kwb2 h
 have hq14 := aur h
 generalize kwd h = q at *
 have hM1 : [(Value.string ⟨#[100, 111, 119, 110]⟩, Value.int .i64 2), (.string ⟨#[117, 112]⟩, .int .i64 3), (.string ⟨#[112, 117, 98, 108, 105, 115, 104]⟩, .int .i64 7), (.string ⟨#[97, 114, 99, 104, 105, 118, 101]⟩, .int .i64 8)] = M1 := rfl
 have hM2 : [(Value.string ⟨#[108, 111, 99, 97, 116, 101]⟩, Value.int .i64 5), (.string ⟨#[114, 101, 118, 105, 101, 119]⟩, .int .i64 6)] = M2 := rfl
 have hq : q = 0 ∨ q = 1 ∨ q = 2 ∨ q = 3 ∨ q = 4 ∨ q = 5 ∨ q = 6 ∨ q = 7 ∨ q = 8 ∨ 9 ≤ q := by omega
 have z00 : (((0 : Nat) : Int) == 0) = true := rfl
 have z01 : (((0 : Nat) : Int) == 1) = false := rfl
 have z02 : (((0 : Nat) : Int) == 2) = false := rfl
 have z10 : (((1 : Nat) : Int) == 0) = false := rfl
 have z11 : (((1 : Nat) : Int) == 1) = true := rfl
 have z12 : (((1 : Nat) : Int) == 2) = false := rfl
 have z20 : (((2 : Nat) : Int) == 0) = false := rfl
 have z21 : (((2 : Nat) : Int) == 1) = false := rfl
 have z22 : (((2 : Nat) : Int) == 2) = true := rfl
 rcases ns with _ | ⟨n1, _ | ⟨n2, _ | ⟨n3, L⟩⟩⟩
 · have c0 : ((([] : List Int).length : Int) == 0) = true := rfl
   have c1 : ((([] : List Int).length : Int) == 1) = false := rfl
   have c2 : ((([] : List Int).length : Int) == 2) = false := rfl
   rcases hq with rfl | rfl | rfl | rfl | rfl | rfl | rfl | rfl | rfl | hq
   all_goals (try simp only [Nat.reduceEqDiff, if_false, if_true] at k1 k2)
   case inr.inr.inr.inr.inr.inr.inr.inr.inr =>
    rw [if_neg (by omega), if_neg (by omega), if_neg (by omega), if_neg (by omega)] at k1
    rw [if_neg (by omega), if_neg (by omega)] at k2
    have d1 : decide (q = 1) = false := decide_eq_false (by omega)
    have d2 : decide (q = 2) = false := decide_eq_false (by omega)
    have e : iq q ([] : List Int) = none := by simp only [iq]; (repeat rw [if_neg (by omega)])
    rw [e]
    refine Ctr.intro Tryz.mixed Tryz.func147 rfl Tryz.ur ?_
    simp -implicitDefEqProofs -dsimp only [go_sem, Tryz.ntmps147, Tryz.results147]
    (repeat ((repeat1' (first | simp -implicitDefEqProofs -dsimp only [go_sem, f1, f2, f3, f4, f5, f6, tf, List.nil_append, List.cons_append, hM1, hM2, hb1, hb2, d1, d2, c0, c1, c2, z00, z01, z02, z10, z11, z12, z20, z21, z22, k1, k2] | simp -dsimp (disch := omega) only [wrap_i64])); repeat (with_reducible refine ah ?_)))
    exact aj.au rfl (by rfl)
   all_goals
    refine Ctr.intro Tryz.mixed Tryz.func147 rfl Tryz.ur ?_
    simp -implicitDefEqProofs -dsimp only [go_sem, Tryz.ntmps147, Tryz.results147]
    (repeat ((repeat1' (first | simp -implicitDefEqProofs -dsimp only [go_sem, f1, f2, f3, f4, f5, f6, tf, List.nil_append, List.cons_append, hM1, hM2, hb1, hb2, c0, c1, c2, z00, z01, z02, z10, z11, z12, z20, z21, z22, k1, k2, c0] | simp -dsimp (disch := omega) only [wrap_i64])); repeat (with_reducible refine ah ?_)))
    first | exact aj.au rfl (by rfl) | skip
 · have c0 : ((([n1] : List Int).length : Int) == 0) = false := rfl
   have c1 : ((([n1] : List Int).length : Int) == 1) = true := rfl
   have c2 : ((([n1] : List Int).length : Int) == 2) = false := rfl
   have hr0 : rows IntS.cs [n1] = [.int .i64 n1] := rfl
   rcases hq with rfl | rfl | rfl | rfl | rfl | rfl | rfl | rfl | rfl | hq
   all_goals (try simp only [Nat.reduceEqDiff, if_false, if_true] at k1 k2)
   case inr.inr.inr.inr.inr.inr.inr.inr.inr =>
    rw [if_neg (by omega), if_neg (by omega), if_neg (by omega), if_neg (by omega)] at k1
    rw [if_neg (by omega), if_neg (by omega)] at k2
    have d1 : decide (q = 1) = false := decide_eq_false (by omega)
    have d2 : decide (q = 2) = false := decide_eq_false (by omega)
    have e : iq q [n1] = none := by simp only [iq]; (repeat rw [if_neg (by omega)])
    rw [e]
    refine Ctr.intro Tryz.mixed Tryz.func147 rfl Tryz.ur ?_
    simp -implicitDefEqProofs -dsimp only [go_sem, Tryz.ntmps147, Tryz.results147]
    (repeat ((repeat1' (first | simp -implicitDefEqProofs -dsimp only [go_sem, f1, f2, f3, f4, f5, f6, tf, List.nil_append, List.cons_append, hM1, hM2, hb1, hb2, d1, d2, c0, c1, c2, z00, z01, z02, z10, z11, z12, z20, z21, z22, k1, k2] | simp -dsimp (disch := omega) only [wrap_i64])); repeat (with_reducible refine ah ?_)))
    exact aj.au rfl (by rfl)
   all_goals
    refine Ctr.intro Tryz.mixed Tryz.func147 rfl Tryz.ur ?_
    simp -implicitDefEqProofs -dsimp only [go_sem, Tryz.ntmps147, Tryz.results147]
    (repeat ((repeat1' (first | simp -implicitDefEqProofs -dsimp only [go_sem, f1, f2, f3, f4, f5, f6, tf, List.nil_append, List.cons_append, hM1, hM2, hb1, hb2, c0, c1, c2, z00, z01, z02, z10, z11, z12, z20, z21, z22, k1, k2, hr0] | simp -dsimp (disch := omega) only [wrap_i64])); repeat (with_reducible refine ah ?_)))
    first | exact aj.au rfl (by rfl) | skip
 · have c0 : ((([n1, n2] : List Int).length : Int) == 0) = false := rfl
   have c1 : ((([n1, n2] : List Int).length : Int) == 1) = false := rfl
   have c2 : ((([n1, n2] : List Int).length : Int) == 2) = true := rfl
   have hr0 : rows IntS.cs [n1, n2] = [.int .i64 n1, .int .i64 n2] := rfl
   rcases hq with rfl | rfl | rfl | rfl | rfl | rfl | rfl | rfl | rfl | hq
   all_goals (try simp only [Nat.reduceEqDiff, if_false, if_true] at k1 k2)
   case inr.inr.inr.inr.inr.inr.inr.inr.inr =>
    rw [if_neg (by omega), if_neg (by omega), if_neg (by omega), if_neg (by omega)] at k1
    rw [if_neg (by omega), if_neg (by omega)] at k2
    have d1 : decide (q = 1) = false := decide_eq_false (by omega)
    have d2 : decide (q = 2) = false := decide_eq_false (by omega)
    have e : iq q [n1, n2] = none := by simp only [iq]; (repeat rw [if_neg (by omega)])
    rw [e]
    refine Ctr.intro Tryz.mixed Tryz.func147 rfl Tryz.ur ?_
    simp -implicitDefEqProofs -dsimp only [go_sem, Tryz.ntmps147, Tryz.results147]
    (repeat ((repeat1' (first | simp -implicitDefEqProofs -dsimp only [go_sem, f1, f2, f3, f4, f5, f6, tf, List.nil_append, List.cons_append, hM1, hM2, hb1, hb2, d1, d2, c0, c1, c2, z00, z01, z02, z10, z11, z12, z20, z21, z22, k1, k2] | simp -dsimp (disch := omega) only [wrap_i64])); repeat (with_reducible refine ah ?_)))
    exact aj.au rfl (by rfl)
   all_goals
    refine Ctr.intro Tryz.mixed Tryz.func147 rfl Tryz.ur ?_
    simp -implicitDefEqProofs -dsimp only [go_sem, Tryz.ntmps147, Tryz.results147]
    (repeat ((repeat1' (first | simp -implicitDefEqProofs -dsimp only [go_sem, f1, f2, f3, f4, f5, f6, tf, List.nil_append, List.cons_append, hM1, hM2, hb1, hb2, c0, c1, c2, z00, z01, z02, z10, z11, z12, z20, z21, z22, k1, k2, hr0] | simp -dsimp (disch := omega) only [wrap_i64])); repeat (with_reducible refine ah ?_)))
    first | exact aj.au rfl (by rfl) | skip
 · have c1 : (((n1 :: n2 :: n3 :: L).length : Int) == 1) = false := by simp; omega
   have c2 : (((n1 :: n2 :: n3 :: L).length : Int) == 2) = false := by simp; omega
   have c0 : (((n1 :: n2 :: n3 :: L).length : Int) == 0) = false := by simp; omega
   have e : iq q (n1 :: n2 :: n3 :: L) = none := rfl
   rw [e]
   clear e
   generalize n1 :: n2 :: n3 :: L = ns at *
   rcases hq with rfl | rfl | rfl | rfl | rfl | rfl | rfl | rfl | rfl | hq
   all_goals (try simp only [Nat.reduceEqDiff, if_false, if_true] at k1 k2)
   case inr.inr.inr.inr.inr.inr.inr.inr.inr =>
    rw [if_neg (by omega), if_neg (by omega), if_neg (by omega), if_neg (by omega)] at k1
    rw [if_neg (by omega), if_neg (by omega)] at k2
    have d1 : decide (q = 1) = false := decide_eq_false (by omega)
    have d2 : decide (q = 2) = false := decide_eq_false (by omega)
    refine Ctr.intro Tryz.mixed Tryz.func147 rfl Tryz.ur ?_
    simp -implicitDefEqProofs -dsimp only [go_sem, Tryz.ntmps147, Tryz.results147]
    (repeat ((repeat1' (first | simp -implicitDefEqProofs -dsimp only [go_sem, f1, f2, f3, f4, f5, f6, tf, List.nil_append, List.cons_append, hM1, hM2, hb1, hb2, d1, d2, c0, c1, c2, z00, z01, z02, z10, z11, z12, z20, z21, z22, k1, k2] | simp -dsimp (disch := omega) only [wrap_i64])); repeat (with_reducible refine ah ?_)))
    exact aj.au rfl (by rfl)
   all_goals
    refine Ctr.intro Tryz.mixed Tryz.func147 rfl Tryz.ur ?_
    simp -implicitDefEqProofs -dsimp only [go_sem, Tryz.ntmps147, Tryz.results147]
    (repeat ((repeat1' (first | simp -implicitDefEqProofs -dsimp only [go_sem, f1, f2, f3, f4, f5, f6, tf, List.nil_append, List.cons_append, hM1, hM2, hb1, hb2, c0, c1, c2, z00, z01, z02, z10, z11, z12, z20, z21, z22, k1, k2, c0] | simp -dsimp (disch := omega) only [wrap_i64])); repeat (with_reducible refine ah ?_)))
    first | exact aj.au rfl (by rfl) | skip
end Go.Proofs
end
section
set_option maxRecDepth 100000
set_option maxHeartbeats 4000000
namespace Go.Proofs
open Go.Lv
def an.oc (c : an) (i j : Nat) : List V := [.int .i64 c.ab.Now, .osl i 0 c.ab.Posts.length 3, .osl j 0 c.ab.Shocks.length 5, .int .i64 c.ab.Next, .int .i64 c.ab.Archived, .str c.Log.Durable, .str c.Log.Pending, .int .i64 c.Log.Count]
def cW (c : an) (b : ab) : an := ⟨b, c.Log⟩
theorem alq (c : an) (k n v : Int) (hw : wB c.ab = true) (hs : ey c.ab k n v = none) : Ctr Tryz.prog 148 [.ptr 0 0, .agg [.int .i64 k, .int .i64 n, .int .i64 v]] [some (c.oc 1 2), some (rows ay.cs c.ab.Posts), some (rows ai.cs c.ab.Shocks)] (.tup [.str ⟨#[]⟩, .bool false]) [some (c.oc 1 2), some (rows ay.cs c.ab.Posts), some (rows ai.cs c.ab.Shocks)] := by
 have W := dt hw
 have pl := W.plen
 have sl := W.slen
 have iS := vr c.ab k n v (by omega) (by omega)
 rw [hs] at iS
 simp only [ac1, ac8] at iS
 refine Ctr.intro Tryz.mixed Tryz.func148 rfl Tryz.ta ?_
 simp -implicitDefEqProofs -dsimp only [go_sem, Tryz.ntmps148, Tryz.results148]
 (repeat ((repeat1' (first | simp -implicitDefEqProofs -dsimp only [go_sem, an.oc] | simp -dsimp (disch := omega) only [wrap_i64])); repeat (with_reducible refine ah ?_)))
 (first | refine al.at (iS) ⟨leA, leA, trivial⟩ ?_ | refine ak.at (iS) ⟨leA, leA, trivial⟩ ?_)
 (repeat ((repeat1' (first | simp -implicitDefEqProofs -dsimp only [go_sem, asr] | simp -dsimp (disch := omega) only [wrap_i64])); repeat (with_reducible refine ah ?_)))
 refine aj.pick [0, 1, 2] (by decide) (by decide) (.inl rfl) ?_
 simp [bb, bj, ren, bf, posOf, ae, an.oc]
theorem ah8 (c : an) (b : ab) (k n v : Int) (hs : ey c.ab k n v = some b) : Ctr Tryz.prog 148 [.ptr 0 0, .agg [.int .i64 k, .int .i64 n, .int .i64 v]] [some (c.oc 1 2), some (rows ay.cs c.ab.Posts), some (rows ai.cs c.ab.Shocks)] (.tup [.str ((j8 b k n).getD ⟨#[]⟩), .bool (j8 b k n).isSome]) [some ((cW c b).oc 3 4), some (rows ay.cs c.ab.Posts), some (rows ai.cs c.ab.Shocks), some (rows ay.cs b.Posts), some (rows ai.cs b.Shocks)] := by
 obtain ⟨hw, hst, _, _, hb⟩ := wq hs
 have W := dt hw
 have pl := W.plen
 have sl := W.slen
 have B := dt hb
 have bl := B.plen
 have bs := B.slen
 have bn := B.now
 have bx := B.next
 have ba := B.arch
 have iS := vr c.ab k n v (by omega) (by omega)
 rw [hs] at iS
 simp only [ac1, ac8] at iS
 have hup := sr b (by omega)
 have hlt := tw (ups b) (fun x hx => by
  obtain ⟨p, hp, rfl⟩ := List.mem_map.1 hx
  have := (o7.1 (B.posts p (List.mem_of_mem_take (List.mem_filter.1 hp).1))).1
  exact ⟨by omega, by omega⟩) (by have := xq b.Posts b.Posts.length; rw [ups]; omega)
 rcases ob hst with ⟨rfl, h1⟩ | hk | rfl | rfl | ⟨hk, h1⟩
 · have e : j8 b 1 n = some (num b.Now) := rfl
   rw [e]
   refine Ctr.intro Tryz.mixed Tryz.func148 rfl Tryz.ta ?_
   simp -implicitDefEqProofs -dsimp only [go_sem, Tryz.ntmps148, Tryz.results148]
   (repeat ((repeat1' (first | simp -implicitDefEqProofs -dsimp only [go_sem, an.oc] | simp -dsimp (disch := omega) only [wrap_i64])); repeat (with_reducible refine ah ?_)))
   (first | refine al.at (iS) ⟨leA, leA, trivial⟩ ?_ | refine ak.at (iS) ⟨leA, leA, trivial⟩ ?_)
   (repeat ((repeat1' (first | simp -implicitDefEqProofs -dsimp only [go_sem, ab.o, an.oc] | simp -dsimp (disch := omega) only [wrap_i64])); repeat (with_reducible refine ah ?_)))
   (have ct := qh b.Now ⟨by omega, by omega⟩; (first | refine al.at ct ⟨leA, trivial⟩ ?_ | refine ak.at ct ⟨leA, trivial⟩ ?_); clear ct)
   (repeat ((repeat1' (first | simp -implicitDefEqProofs -dsimp only [go_sem, an.oc] | simp -dsimp (disch := omega) only [wrap_i64])); repeat (with_reducible refine ah ?_)))
   refine aj.pick [0, 1, 2, 4, 5] (by decide) (by decide) (.inl rfl) ?_
   simp [bb, bj, ren, bf, posOf, ae, an.oc, cW]
 · have e : j8 b k n = some (l7 (ups b)) := by rcases hk with rfl | rfl <;> rfl
   rw [e]
   rcases hk with rfl | rfl
   · skip
     refine Ctr.intro Tryz.mixed Tryz.func148 rfl Tryz.ta ?_
     simp -implicitDefEqProofs -dsimp only [go_sem, Tryz.ntmps148, Tryz.results148]
     (repeat ((repeat1' (first | simp -implicitDefEqProofs -dsimp only [go_sem, an.oc] | simp -dsimp (disch := omega) only [wrap_i64])); repeat (with_reducible refine ah ?_)))
     (first | refine al.at (iS) ⟨leA, leA, trivial⟩ ?_ | refine ak.at (iS) ⟨leA, leA, trivial⟩ ?_)
     (repeat ((repeat1' (first | simp -implicitDefEqProofs -dsimp only [go_sem, ab.o, an.oc] | simp -dsimp (disch := omega) only [wrap_i64])); repeat (with_reducible refine ah ?_)))
     (first | refine al.at (hup) ⟨leA, trivial⟩ ?_ | refine ak.at (hup) ⟨leA, trivial⟩ ?_)
     (repeat ((repeat1' (first | simp -implicitDefEqProofs -dsimp only [go_sem, an.oc] | simp -dsimp (disch := omega) only [wrap_i64])); repeat (with_reducible refine ah ?_)))
     (first | refine al.at (hlt) ⟨leA, trivial⟩ ?_ | refine ak.at (hlt) ⟨leA, trivial⟩ ?_)
     (repeat ((repeat1' (first | simp -implicitDefEqProofs -dsimp only [go_sem, an.oc] | simp -dsimp (disch := omega) only [wrap_i64])); repeat (with_reducible refine ah ?_)))
     refine aj.pick [0, 1, 2, 4, 5] (by decide) (by decide) (.inl rfl) ?_
     simp [bb, bj, ren, bf, posOf, ae, an.oc, cW]
   · skip
     refine Ctr.intro Tryz.mixed Tryz.func148 rfl Tryz.ta ?_
     simp -implicitDefEqProofs -dsimp only [go_sem, Tryz.ntmps148, Tryz.results148]
     (repeat ((repeat1' (first | simp -implicitDefEqProofs -dsimp only [go_sem, an.oc] | simp -dsimp (disch := omega) only [wrap_i64])); repeat (with_reducible refine ah ?_)))
     (first | refine al.at (iS) ⟨leA, leA, trivial⟩ ?_ | refine ak.at (iS) ⟨leA, leA, trivial⟩ ?_)
     (repeat ((repeat1' (first | simp -implicitDefEqProofs -dsimp only [go_sem, ab.o, an.oc] | simp -dsimp (disch := omega) only [wrap_i64])); repeat (with_reducible refine ah ?_)))
     (first | refine al.at (hup) ⟨leA, trivial⟩ ?_ | refine ak.at (hup) ⟨leA, trivial⟩ ?_)
     (repeat ((repeat1' (first | simp -implicitDefEqProofs -dsimp only [go_sem, an.oc] | simp -dsimp (disch := omega) only [wrap_i64])); repeat (with_reducible refine ah ?_)))
     (first | refine al.at (hlt) ⟨leA, trivial⟩ ?_ | refine ak.at (hlt) ⟨leA, trivial⟩ ?_)
     (repeat ((repeat1' (first | simp -implicitDefEqProofs -dsimp only [go_sem, an.oc] | simp -dsimp (disch := omega) only [wrap_i64])); repeat (with_reducible refine ah ?_)))
     refine aj.pick [0, 1, 2, 4, 5] (by decide) (by decide) (.inl rfl) ?_
     simp [bb, bj, ren, bf, posOf, ae, an.oc, cW]
 · have e : j8 b 4 n = some (num (b.Next - 1)) := rfl
   rw [e]
   refine Ctr.intro Tryz.mixed Tryz.func148 rfl Tryz.ta ?_
   simp -implicitDefEqProofs -dsimp only [go_sem, Tryz.ntmps148, Tryz.results148]
   (repeat ((repeat1' (first | simp -implicitDefEqProofs -dsimp only [go_sem, an.oc] | simp -dsimp (disch := omega) only [wrap_i64])); repeat (with_reducible refine ah ?_)))
   (first | refine al.at (iS) ⟨leA, leA, trivial⟩ ?_ | refine ak.at (iS) ⟨leA, leA, trivial⟩ ?_)
   (repeat ((repeat1' (first | simp -implicitDefEqProofs -dsimp only [go_sem, ab.o, an.oc] | simp -dsimp (disch := omega) only [wrap_i64])); repeat (with_reducible refine ah ?_)))
   (have ct := qh (b.Next - 1) ⟨by omega, by omega⟩; (first | refine al.at ct ⟨leA, trivial⟩ ?_ | refine ak.at ct ⟨leA, trivial⟩ ?_); clear ct)
   (repeat ((repeat1' (first | simp -implicitDefEqProofs -dsimp only [go_sem, an.oc] | simp -dsimp (disch := omega) only [wrap_i64])); repeat (with_reducible refine ah ?_)))
   refine aj.pick [0, 1, 2, 4, 5] (by decide) (by decide) (.inl rfl) ?_
   simp [bb, bj, ren, bf, posOf, ae, an.oc, cW]
 · have e : j8 b 8 n = some (num b.Archived) := rfl
   rw [e]
   refine Ctr.intro Tryz.mixed Tryz.func148 rfl Tryz.ta ?_
   simp -implicitDefEqProofs -dsimp only [go_sem, Tryz.ntmps148, Tryz.results148]
   (repeat ((repeat1' (first | simp -implicitDefEqProofs -dsimp only [go_sem, an.oc] | simp -dsimp (disch := omega) only [wrap_i64])); repeat (with_reducible refine ah ?_)))
   (first | refine al.at (iS) ⟨leA, leA, trivial⟩ ?_ | refine ak.at (iS) ⟨leA, leA, trivial⟩ ?_)
   (repeat ((repeat1' (first | simp -implicitDefEqProofs -dsimp only [go_sem, ab.o, an.oc] | simp -dsimp (disch := omega) only [wrap_i64])); repeat (with_reducible refine ah ?_)))
   (have ct := qh b.Archived ⟨by omega, by omega⟩; (first | refine al.at ct ⟨leA, trivial⟩ ?_ | refine ak.at ct ⟨leA, trivial⟩ ?_); clear ct)
   (repeat ((repeat1' (first | simp -implicitDefEqProofs -dsimp only [go_sem, an.oc] | simp -dsimp (disch := omega) only [wrap_i64])); repeat (with_reducible refine ah ?_)))
   refine aj.pick [0, 1, 2, 4, 5] (by decide) (by decide) (.inl rfl) ?_
   simp [bb, bj, ren, bf, posOf, ae, an.oc, cW]
 · have hT := vn b n (by omega) (by omega)
   rw [ye hb] at hT
   have e : j8 b k n = aad b n := by rcases hk with rfl | rfl | rfl <;> rfl
   rw [e]
   rcases hk with rfl | rfl | rfl
   · skip
     refine Ctr.intro Tryz.mixed Tryz.func148 rfl Tryz.ta ?_
     simp -implicitDefEqProofs -dsimp only [go_sem, Tryz.ntmps148, Tryz.results148]
     (repeat ((repeat1' (first | simp -implicitDefEqProofs -dsimp only [go_sem, an.oc] | simp -dsimp (disch := omega) only [wrap_i64])); repeat (with_reducible refine ah ?_)))
     (first | refine al.at (iS) ⟨leA, leA, trivial⟩ ?_ | refine ak.at (iS) ⟨leA, leA, trivial⟩ ?_)
     (repeat ((repeat1' (first | simp -implicitDefEqProofs -dsimp only [go_sem, ab.o, an.oc] | simp -dsimp (disch := omega) only [wrap_i64])); repeat (with_reducible refine ah ?_)))
     (first | refine al.at (hT) ⟨leA, leA, trivial⟩ ?_ | refine ak.at (hT) ⟨leA, leA, trivial⟩ ?_)
     (repeat ((repeat1' (first | simp -implicitDefEqProofs -dsimp only [go_sem, an.oc] | simp -dsimp (disch := omega) only [wrap_i64])); repeat (with_reducible refine ah ?_)))
     refine aj.pick [0, 1, 2, 4, 5] (by decide) (by decide) (.inl rfl) ?_
     simp [bb, bj, ren, bf, posOf, ae, an.oc, cW]
   · skip
     refine Ctr.intro Tryz.mixed Tryz.func148 rfl Tryz.ta ?_
     simp -implicitDefEqProofs -dsimp only [go_sem, Tryz.ntmps148, Tryz.results148]
     (repeat ((repeat1' (first | simp -implicitDefEqProofs -dsimp only [go_sem, an.oc] | simp -dsimp (disch := omega) only [wrap_i64])); repeat (with_reducible refine ah ?_)))
     (first | refine al.at (iS) ⟨leA, leA, trivial⟩ ?_ | refine ak.at (iS) ⟨leA, leA, trivial⟩ ?_)
     (repeat ((repeat1' (first | simp -implicitDefEqProofs -dsimp only [go_sem, ab.o, an.oc] | simp -dsimp (disch := omega) only [wrap_i64])); repeat (with_reducible refine ah ?_)))
     (first | refine al.at (hT) ⟨leA, leA, trivial⟩ ?_ | refine ak.at (hT) ⟨leA, leA, trivial⟩ ?_)
     (repeat ((repeat1' (first | simp -implicitDefEqProofs -dsimp only [go_sem, an.oc] | simp -dsimp (disch := omega) only [wrap_i64])); repeat (with_reducible refine ah ?_)))
     refine aj.pick [0, 1, 2, 4, 5] (by decide) (by decide) (.inl rfl) ?_
     simp [bb, bj, ren, bf, posOf, ae, an.oc, cW]
   · skip
     refine Ctr.intro Tryz.mixed Tryz.func148 rfl Tryz.ta ?_
     simp -implicitDefEqProofs -dsimp only [go_sem, Tryz.ntmps148, Tryz.results148]
     (repeat ((repeat1' (first | simp -implicitDefEqProofs -dsimp only [go_sem, an.oc] | simp -dsimp (disch := omega) only [wrap_i64])); repeat (with_reducible refine ah ?_)))
     (first | refine al.at (iS) ⟨leA, leA, trivial⟩ ?_ | refine ak.at (iS) ⟨leA, leA, trivial⟩ ?_)
     (repeat ((repeat1' (first | simp -implicitDefEqProofs -dsimp only [go_sem, ab.o, an.oc] | simp -dsimp (disch := omega) only [wrap_i64])); repeat (with_reducible refine ah ?_)))
     (first | refine al.at (hT) ⟨leA, leA, trivial⟩ ?_ | refine ak.at (hT) ⟨leA, leA, trivial⟩ ?_)
     (repeat ((repeat1' (first | simp -implicitDefEqProofs -dsimp only [go_sem, an.oc] | simp -dsimp (disch := omega) only [wrap_i64])); repeat (with_reducible refine ah ?_)))
     refine aj.pick [0, 1, 2, 4, 5] (by decide) (by decide) (.inl rfl) ?_
     simp [bb, bj, ren, bf, posOf, ae, an.oc, cW]
end Go.Proofs
end
section
set_option maxRecDepth 100000
set_option maxHeartbeats 4000000
namespace Go.Proofs
open Go.Lv
theorem an7 {α : Type} {lt : α → α → Bool} {y : α} {L : List α} (h : y ∈ cg lt L) : y ∈ L := by
 have key : ∀ (L S : List α), y ∈ L.foldl (ins lt) S → y ∈ S ∨ y ∈ L := by
  intro L
  induction L with
  | nil => intro S h; exact .inl h
  | cons a L ih =>
   intro S h
   rw [List.foldl_cons] at h
   rcases ih _ h with h | h
   · unfold ins putAt at h
     rcases List.mem_append.1 h with h | h
     · exact .inl (List.mem_of_mem_take h)
     · rcases List.mem_cons.1 h with h | h
       · exact .inr (h ▸ List.mem_cons_self)
       · exact .inl (List.mem_of_mem_drop h)
   · exact .inr (List.mem_cons_of_mem _ h)
 rcases key L [] h with h | h
 · cases h
 · exact h
theorem atf {w : ab} (h : wB w = true) : (∀ n ∈ ups w, gz n ∧ 1 ≤ n ∧ n ≤ 99) ∧ (ups w).length ≤ 8 := by
 have W := dt h
 refine ⟨fun x hx => ?_, by have := xq w.Posts w.Posts.length; have := W.plen; rw [ups]; omega⟩
 obtain ⟨p, hp, rfl⟩ := List.mem_map.1 hx
 have := (o7.1 (W.posts p (List.mem_of_mem_take (List.mem_filter.1 hp).1))).1
 exact ⟨⟨by omega, by omega⟩, this⟩
theorem at1 {w : ab} (h : wB w = true) : (∀ n ∈ (np w).map ai.Number, gz n ∧ 1 ≤ n ∧ n ≤ 999) ∧ ((np w).map ai.Number).length ≤ 6 := by
 have W := dt h
 refine ⟨fun x hx => ?_, ?_⟩
 · obtain ⟨y, hy, rfl⟩ := List.mem_map.1 hx
   have := (gj.1 (W.shocks y (List.mem_filter.1 (an7 hy)).1)).1
   have := W.next
   exact ⟨⟨by omega, by omega⟩, by omega, by omega⟩
 · have h1 := List.length_filter_le j4 w.Shocks
   have := W.slen
   rw [List.length_map, np, ij]; omega
theorem ato {w : ab} (h : wB w = true) : (∀ n ∈ cm w.Shocks, gz n ∧ 0 ≤ n ∧ n ≤ 6) ∧ (cm w.Shocks).length ≤ 8 := by
 have W := dt h
 have h1 := qj (L := w.Shocks) w.Shocks.length (Nat.le_refl _)
 have h2 := gu (L := w.Shocks) w.Shocks.length (Nat.le_refl _)
 rw [List.take_length] at h1 h2
 have := W.slen
 exact ⟨fun n hn => by have := h1 n hn; exact ⟨⟨by omega, by omega⟩, by omega, by omega⟩, by omega⟩
theorem lg_r {w : ab} (h : wB w = true) : (1 ≤ ((lgO w).map Prod.fst).getD 1 ∧ ((lgO w).map Prod.fst).getD 1 ≤ 99) ∧ (0 ≤ ((lgO w).map Prod.snd).getD 0 ∧ ((lgO w).map Prod.snd).getD 0 ≤ 1000000) ∧ gz (((lgO w).map Prod.fst).getD 0) := by
 have W := dt h
 have hn := W.now
 rw [lgO]
 cases hl : ld w.Posts w.Posts.length with
 | none => refine ⟨⟨?_, ?_⟩, ⟨?_, ?_⟩, ⟨?_, ?_⟩⟩ <;> simp
 | some b =>
  dsimp only
  cases hp : w.Posts[b]? with
  | none => refine ⟨⟨?_, ?_⟩, ⟨?_, ?_⟩, ⟨?_, ?_⟩⟩ <;> simp
  | some p =>
   have hm : p ∈ w.Posts := List.mem_of_getElem? hp
   have := o7.1 (W.posts p hm)
   simp only [Option.map_some, Option.getD_some]
   exact ⟨by omega, by omega, by omega, by omega⟩
def aq0 (w : ab) (q : Nat) : ByteArray := if q = 14 then l7 [((lgO w).map Prod.fst).getD 0, ((lgO w).map Prod.snd).getD 0] else (wi w q).getD ⟨#[]⟩
theorem apu {w : ab} {q : Nat} {x : ByteArray} (h : wi w q = some x) : aq0 w q = x := by
 unfold aq0
 split
 · rename_i e
   subst e
   rw [show wi w 14 = (lgO w).map fun p => l7 [p.1, p.2] from rfl] at h
   cases hl : lgO w with
   | none => rw [hl] at h; cases h
   | some p => rw [hl] at h; simpa using h
 · rw [h]; rfl
theorem aen (L : List Int) (b : Bool) (hL : ∀ n ∈ L, gz n) (hl : L.length ≤ 100000) : Ctr Tryz.prog 204 [IntS.sl L, .bool b] [] (.tup [.str (l7 L), .bool b]) [] := by
 refine Ctr.intro Tryz.mixed Tryz.func204 rfl Tryz.aw4 ?_
 simp -implicitDefEqProofs -dsimp only [go_sem, Tryz.ntmps204, Tryz.results204]
 (repeat ((repeat1' (first | simp -implicitDefEqProofs -dsimp only [go_sem] | simp -dsimp (disch := omega) only [wrap_i64])); repeat (with_reducible refine ah ?_)))
 (have ct := tw L hL hl; (first | refine al.at ct ⟨leA, trivial⟩ ?_ | refine ak.at ct ⟨leA, trivial⟩ ?_); clear ct)
 (repeat ((repeat1' (first | simp -implicitDefEqProofs -dsimp only [go_sem] | simp -dsimp (disch := omega) only [wrap_i64])); repeat (with_reducible refine ah ?_)))
 exact aj.au rfl (by rfl)
theorem avg (c : an) (h : ByteArray) (hw : wB c.ab = true) : Ctr Tryz.prog 150 [.ptr 0 0, .str h] [some (c.oc 1 2), some (rows ay.cs c.ab.Posts), some (rows ai.cs c.ab.Shocks)] (.tup [.str (aq0 c.ab (kwd h)), .bool (wi c.ab (kwd h)).isSome]) [some (c.oc 1 2), some (rows ay.cs c.ab.Posts), some (rows ai.cs c.ab.Shocks)] := by
 have W := dt hw
 have pl := W.plen
 have sl := W.slen
 have bn := W.now
 have iU := ahg c.ab (by omega) (by omega)
 have iT := afd c.ab (by omega) (by omega)
 have iS := aae c.ab (by omega) (by omega)
 have iL := aaa c.ab (by omega) (by omega)
 rw [amc hw] at iU
 rw [acq hw] at iT
 rw [abq hw] at iS
 rw [ahb hw] at iL
 simp only [tz, nr] at iU iT iS
 have u := atf hw
 have r := at1 hw
 have s := ato hw
 have l := lg_r hw
 have lU := aen (ups c.ab) true (fun n hn => (u.1 n hn).1) (by omega)
 have lT := aen ((np c.ab).map ai.Number) true (fun n hn => (r.1 n hn).1) (by omega)
 have lS := aen (cm c.ab.Shocks) true (fun n hn => (s.1 n hn).1) (by omega)
 have lL := tw [((lgO c.ab).map Prod.fst).getD 0, ((lgO c.ab).map Prod.snd).getD 0] (fun n hn => by
  simp only [List.mem_cons, List.not_mem_nil, or_false] at hn
  rcases hn with rfl | rfl
  · exact l.2.2
  · exact ⟨by omega, by omega⟩) (by simp)
 have b10 := aso h
 have b11 := atq h
 have b12 := at6 h
 have b13 := asn h
 have b14 := atl h
 generalize kwd h = q at *
 have hq : q = 10 ∨ q = 11 ∨ q = 12 ∨ q = 13 ∨ q = 14 ∨ (q ≠ 10 ∧ q ≠ 11 ∧ q ≠ 12 ∧ q ≠ 13 ∧ q ≠ 14) := by omega
 rcases hq with rfl | rfl | rfl | rfl | rfl | ⟨q1, q2, q3, q4, q5⟩
 · skip
   refine Ctr.intro Tryz.mixed Tryz.func150 rfl Tryz.yu ?_
   simp -implicitDefEqProofs -dsimp only [go_sem, Tryz.ntmps150, Tryz.results150]
   (repeat ((repeat1' (first | simp -implicitDefEqProofs -dsimp only [go_sem, an.oc, b10, b11, b12, b13, b14] | simp -dsimp (disch := omega) only [wrap_i64])); repeat (with_reducible refine ah ?_)))
   (have ct := qh c.ab.Now ⟨by omega, by omega⟩; (first | refine al.at ct ⟨leA, trivial⟩ ?_ | refine ak.at ct ⟨leA, trivial⟩ ?_); clear ct)
   (repeat ((repeat1' (first | simp -implicitDefEqProofs -dsimp only [go_sem] | simp -dsimp (disch := omega) only [wrap_i64])); repeat (with_reducible refine ah ?_)))
   refine aj.pick [0, 1, 2] (by decide) (by decide) (.inl rfl) ?_
   simp [bb, bj, ren, bf, posOf, ae, an.oc]
 · skip
   refine Ctr.intro Tryz.mixed Tryz.func150 rfl Tryz.yu ?_
   simp -implicitDefEqProofs -dsimp only [go_sem, Tryz.ntmps150, Tryz.results150]
   (repeat ((repeat1' (first | simp -implicitDefEqProofs -dsimp only [go_sem, an.oc, b10, b11, b12, b13, b14] | simp -dsimp (disch := omega) only [wrap_i64])); repeat (with_reducible refine ah ?_)))
   (first | refine al.at (iU) ⟨leA, trivial⟩ ?_ | refine ak.at (iU) ⟨leA, trivial⟩ ?_)
   (repeat ((repeat1' (first | simp -implicitDefEqProofs -dsimp only [go_sem] | simp -dsimp (disch := omega) only [wrap_i64])); repeat (with_reducible refine ah ?_)))
   (first | refine al.at (lU) ⟨leA, leA, trivial⟩ ?_ | refine ak.at (lU) ⟨leA, leA, trivial⟩ ?_)
   (repeat ((repeat1' (first | simp -implicitDefEqProofs -dsimp only [go_sem] | simp -dsimp (disch := omega) only [wrap_i64])); repeat (with_reducible refine ah ?_)))
   refine aj.pick [0, 1, 2] (by decide) (by decide) (.inl rfl) ?_
   simp [bb, bj, ren, bf, posOf, ae, an.oc]
 · skip
   refine Ctr.intro Tryz.mixed Tryz.func150 rfl Tryz.yu ?_
   simp -implicitDefEqProofs -dsimp only [go_sem, Tryz.ntmps150, Tryz.results150]
   (repeat ((repeat1' (first | simp -implicitDefEqProofs -dsimp only [go_sem, an.oc, b10, b11, b12, b13, b14] | simp -dsimp (disch := omega) only [wrap_i64])); repeat (with_reducible refine ah ?_)))
   (first | refine al.at (iT) ⟨leA, trivial⟩ ?_ | refine ak.at (iT) ⟨leA, trivial⟩ ?_)
   (repeat ((repeat1' (first | simp -implicitDefEqProofs -dsimp only [go_sem] | simp -dsimp (disch := omega) only [wrap_i64])); repeat (with_reducible refine ah ?_)))
   (first | refine al.at (lT) ⟨leA, leA, trivial⟩ ?_ | refine ak.at (lT) ⟨leA, leA, trivial⟩ ?_)
   (repeat ((repeat1' (first | simp -implicitDefEqProofs -dsimp only [go_sem] | simp -dsimp (disch := omega) only [wrap_i64])); repeat (with_reducible refine ah ?_)))
   refine aj.pick [0, 1, 2] (by decide) (by decide) (.inl rfl) ?_
   simp [bb, bj, ren, bf, posOf, ae, an.oc]
 · skip
   refine Ctr.intro Tryz.mixed Tryz.func150 rfl Tryz.yu ?_
   simp -implicitDefEqProofs -dsimp only [go_sem, Tryz.ntmps150, Tryz.results150]
   (repeat ((repeat1' (first | simp -implicitDefEqProofs -dsimp only [go_sem, an.oc, b10, b11, b12, b13, b14] | simp -dsimp (disch := omega) only [wrap_i64])); repeat (with_reducible refine ah ?_)))
   (first | refine al.at (iS) ⟨leA, trivial⟩ ?_ | refine ak.at (iS) ⟨leA, trivial⟩ ?_)
   (repeat ((repeat1' (first | simp -implicitDefEqProofs -dsimp only [go_sem] | simp -dsimp (disch := omega) only [wrap_i64])); repeat (with_reducible refine ah ?_)))
   (first | refine al.at (lS) ⟨leA, leA, trivial⟩ ?_ | refine ak.at (lS) ⟨leA, leA, trivial⟩ ?_)
   (repeat ((repeat1' (first | simp -implicitDefEqProofs -dsimp only [go_sem] | simp -dsimp (disch := omega) only [wrap_i64])); repeat (with_reducible refine ah ?_)))
   refine aj.pick [0, 1, 2] (by decide) (by decide) (.inl rfl) ?_
   simp [bb, bj, ren, bf, posOf, ae, an.oc]
 · have e : (wi c.ab 14).isSome = (lgO c.ab).isSome := by
    rw [show wi c.ab 14 = (lgO c.ab).map fun p => l7 [p.1, p.2] from rfl]; cases lgO c.ab <;> rfl
   rw [e]
   refine Ctr.intro Tryz.mixed Tryz.func150 rfl Tryz.yu ?_
   simp -implicitDefEqProofs -dsimp only [go_sem, Tryz.ntmps150, Tryz.results150]
   (repeat ((repeat1' (first | simp -implicitDefEqProofs -dsimp only [go_sem, an.oc, b10, b11, b12, b13, b14] | simp -dsimp (disch := omega) only [wrap_i64])); repeat (with_reducible refine ah ?_)))
   (first | refine al.at (iL) ⟨leA, trivial⟩ ?_ | refine ak.at (iL) ⟨leA, trivial⟩ ?_)
   (repeat ((repeat1' (first | simp -implicitDefEqProofs -dsimp only [go_sem] | simp -dsimp (disch := omega) only [wrap_i64])); repeat (with_reducible refine ah ?_)))
   (first | refine al.at (lL) ⟨leA, trivial⟩ ?_ | refine ak.at (lL) ⟨leA, trivial⟩ ?_)
   (repeat ((repeat1' (first | simp -implicitDefEqProofs -dsimp only [go_sem] | simp -dsimp (disch := omega) only [wrap_i64])); repeat (with_reducible refine ah ?_)))
   refine aj.pick [0, 1, 2] (by decide) (by decide) (.inl rfl) ?_
   simp [bb, bj, ren, bf, posOf, ae, an.oc]
 · have d0 : decide (q = 10) = false := decide_eq_false q1
   have d1 : decide (q = 11) = false := decide_eq_false q2
   have d2 : decide (q = 12) = false := decide_eq_false q3
   have d3 : decide (q = 13) = false := decide_eq_false q4
   have d4 : decide (q = 14) = false := decide_eq_false q5
   have e : wi c.ab q = none := by rw [wi, if_neg q1, if_neg q2, if_neg q3, if_neg q4, if_neg q5]
   rw [aq0, if_neg q5, e]
   refine Ctr.intro Tryz.mixed Tryz.func150 rfl Tryz.yu ?_
   simp -implicitDefEqProofs -dsimp only [go_sem, Tryz.ntmps150, Tryz.results150]
   (repeat ((repeat1' (first | simp -implicitDefEqProofs -dsimp only [go_sem, an.oc, b10, b11, b12, b13, b14, d0, d1, d2, d3, d4] | simp -dsimp (disch := omega) only [wrap_i64])); repeat (with_reducible refine ah ?_)))
   refine aj.pick [0, 1, 2] (by decide) (by decide) (.inl rfl) ?_
   simp [bb, bj, ren, bf, posOf, ae, an.oc]
end Go.Proofs
end
section
namespace Go.Lv
theorem Ctr.vk {P : Program} {f : FuncId} {args : List V} {r r' : V} {hout hout' : Hp} (h : Ctr P f args [] r hout) (hw : aj 0 r hout r' hout') : Ctr P f args [] r' hout' :=
 ⟨h.1, fun w vs m av h1 h2 h3 h4 h5 => (h.2 w vs m av h1 h2 h3 h4 h5).mono fun e w' ⟨v, m', g1, g2, g3, g4, g5⟩ => by
  obtain ⟨m2, k1, k2, k3⟩ := hw w m [] av w' m' v rfl (Nat.zero_le _) h2 g2.size g3 g4 g5
  exact ⟨v, m2, g1, g2, k1, k2, k3⟩⟩
section
variable {α : Type} {cs : α → List V} {w : Nat} [lq cs w]
end
end Go.Lv
end
section
set_option maxRecDepth 100000
set_option maxHeartbeats 4000000
namespace Go.Proofs
open Go.Lv
theorem aeb (s : ByteArray) (c : UInt8) (hs : s.size ≤ 16777216) : Ctr Tryz.prog 66 [.str s, .str ⟨#[c]⟩] [] (StringS.sl (iz c s)) [] :=
 (aoo s c hs).vk (by
  refine aj.pick [] (by decide) (fun j hj => by omega) (.inl ?_) rfl
  have e := ig (cs := StringS.cs) (iz c s)
  simp [ren, bf, posOf, vj, ae] at e ⊢
  exact e.symm)
noncomputable def w6 (w : ab) (line : ByteArray) : Option ab := match sg (iz 32 line).tail with
 | none => none
 | some ns => match iq (kwd ((iz 32 line).headD ⟨#[]⟩)) ns with
  | some (k, n, v) => ey w k n v
  | none => none
theorem af9 (w : ab) (line : ByteArray) : (e9 w line).1 = (w6 w line).getD w := by
 unfold e9 w6
 cases sg (iz 32 line).tail with
 | none => rfl
 | some ns =>
  dsimp only
  unfold l9
  cases iq (kwd ((iz 32 line).headD ⟨#[]⟩)) ns with
  | none => cases ns with
   | nil => rfl
   | cons a l => cases l <;> rfl
  | some p =>
   obtain ⟨k, n, v⟩ := p
   dsimp only
   unfold lb
   cases ey w k n v <;> rfl
theorem agq {w : ab} {q : Nat} (h : iq q [] = none) : l9 w q [] = (w, (wi w q).getD wQ) := by unfold l9; rw [h]
theorem ahj {w : ab} {q : Nat} {n : Int} (h : iq q [n] = none) : l9 w q [n] = (w, if q = 9 then (aad w n).getD wQ else wQ) := by unfold l9; rw [h]
theorem acp {w : ab} {q : Nat} {a b : Int} {L : List Int} (h : iq q (a :: b :: L) = none) : l9 w q (a :: b :: L) = (w, wQ) := by unfold l9; rw [h]
theorem ajd (c : an) (line : ByteArray) (hl : line.size ≤ 1000) (hw : wB c.ab = true) (hs : w6 c.ab line = none) : Ctr Tryz.prog 95 [.ptr 0 0, .str line] [some (c.oc 1 2), some (rows ay.cs c.ab.Posts), some (rows ai.cs c.ab.Shocks)] (.str (e9 c.ab line).2) [some (c.oc 1 2), some (rows ay.cs c.ab.Posts), some (rows ai.cs c.ab.Shocks)] := by
 have W := dt hw
 have pl := W.plen
 have sl := W.slen
 obtain ⟨x, T, hS⟩ := yx 32 line
 have hT : (iz 32 line).tail = T := by rw [hS]; rfl
 have hx : (iz 32 line).headD ⟨#[]⟩ = x := by rw [hS]; rfl
 have hsp := aeb line 32 (by omega)
 have hlen := abx 32 line
 have hsz : ∀ y ∈ x :: T, y.size ≤ line.size := fun y hy => yn 32 line (by rw [hS]; exact hy)
 rw [hS] at hsp hlen
 simp only [List.length_cons] at hlen
 have hr0 : (rows StringS.cs (x :: T)).take 1 = [.str x] := rfl
 have hr1 : (rows StringS.cs (x :: T)).drop 1 = rows StringS.cs T := rfl
 refine Ctr.intro Tryz.mixed Tryz.func95 rfl Tryz.asz ?_
 simp -implicitDefEqProofs -dsimp only [go_sem, Tryz.ntmps95, Tryz.results95]
 (first | refine al.at (hsp) ⟨leA, leA, trivial⟩ ?_ | refine ak.at (hsp) ⟨leA, leA, trivial⟩ ?_)
 (repeat ((repeat1' (first | simp -implicitDefEqProofs -dsimp only [go_sem, hr1] | simp -dsimp (disch := omega) only [wrap_i64])); repeat (with_reducible refine ah ?_)))
 refine de.intro (fun i : Nat => i ≤ T.length ∧ (T.take i).all (fun s => (cq s).isSome) = true) (fun i => ⟨[.ptr 0 0, .undef, .undef, .undef, .undef, StringS.sl (x :: T), .osl 3 0 i 1, .undef, .undef, .undef, .undef, .undef, .undef, .undef, .undef, .undef, .undef, .undef, .undef, StringS.sl T, .int .i64 T.length, .int .i64 i, .undef, .undef, .undef, .undef, .undef, .undef, .undef, .undef, .undef, .undef, .undef, .undef, .undef, .undef, .undef, .undef, .undef, .undef, .undef, .undef, .undef, .undef, .undef, .undef, .undef, .undef, .undef, .undef, .undef, .undef, .undef, .undef, .undef, .undef, .undef, .undef, .undef, .undef, .undef, .undef, .undef, .undef, .undef, .undef, .undef, .undef, .undef, .undef, .undef, .undef, .undef, .undef, .undef, .undef, .undef, .undef, .undef, .undef, .undef, .undef, .undef, .undef, .undef, .undef, .undef, .undef, .undef], [some (c.oc 1 2), some (rows ay.cs c.ab.Posts), some (rows ai.cs c.ab.Shocks), some (rows IntS.cs ((T.take i).map fun s => (cq s).getD 0))], 3⟩) (fun i => T.length - i) 0 ⟨Nat.zero_le _, rfl⟩ ?_ (fun i hi => ?_)
 · refine bt.cut (4) (by simp) (by simp) ?_ ?_
   · simp [LeC, LeV, ren, br]
   · simp [cd, dd, ren, br, ae, an.oc, abf]
 simp -implicitDefEqProofs -dsimp only [go_sem]
 refine bc.split (fun h1 => ?_) (fun h1 => ?_)
 · have hi' : i < T.length := by have := of_decide_eq_true h1; omega
   have hr := bu StringS.csl hi'
   have hst : (T.take (i + 1)).map (fun s => (cq s).getD 0) = (T.take i).map (fun s => (cq s).getD 0) ++ [(cq T[i]).getD 0] := by rw [List.take_succ_eq_append_getElem hi', List.map_append]; rfl
   have hlen2 : ((T.take i).map fun s => (cq s).getD 0).length = i := by simp; omega
   have ip := yb T[i] (by have := hsz T[i] (List.mem_cons_of_mem _ (List.getElem_mem hi')); omega)
   rw [jc] at ip
   (repeat ((repeat1' (first | simp -implicitDefEqProofs -dsimp only [go_sem, h1, hr, StringS.cs] | simp -dsimp (disch := omega) only [wrap_i64])); repeat (with_reducible refine ah ?_)))
   cases hread : (cq T[i]).isSome with
   | false =>
    have hno := yz hi' hread
    have hrun : e9 c.ab line = (c.ab, wQ) := by unfold e9; rw [hT, hno]
    rw [hread] at ip
    (first | refine al.at (ip) ⟨leA, trivial⟩ ?_ | refine ak.at (ip) ⟨leA, trivial⟩ ?_)
    (repeat ((repeat1' (first | simp -implicitDefEqProofs -dsimp only [go_sem] | simp -dsimp (disch := omega) only [wrap_i64])); repeat (with_reducible refine ah ?_)))
    first
     | (rw [hrun]; refine aj.pick [0, 1, 2] (by decide) (by decide) (.inl rfl) ?_; simp [bb, bj, ren, bf, posOf, ae, an.oc]; done)
     | (exfalso; unfold w6 at hs; rw [hT, hno] at hs; cases hs; done)
   | true =>
    rw [hread] at ip
    (first | refine al.at (ip) ⟨leA, trivial⟩ ?_ | refine ak.at (ip) ⟨leA, trivial⟩ ?_)
    (repeat ((repeat1' (first | simp -implicitDefEqProofs -dsimp only [go_sem, aw, a8, Nat.mul_one, hlen2] | simp -dsimp (disch := omega) only [wrap_i64])); repeat (with_reducible refine ah ?_)))
    refine ⟨i + 1, ⟨hi', by rw [List.take_succ_eq_append_getElem hi', List.all_append, hi.2]; simp [hread]⟩, ?_, by omega⟩
    refine bt.cut (4) (by simp) (by simp) ?_ ?_
    · simp [LeC, LeV, ren, br]
    · rw [hst, ← eg]
      simp [cd, dd, ren, br, ae, cz, mc, IntS.cs, an.oc]
 have hi' : i = T.length := by have := of_decide_eq_false h1; omega
 subst hi'
 have hnum := v8 hi.2
 have hbd := y4 hnum
 rw [List.take_length]
 have hnl : (T.map fun s => (cq s).getD 0).length = T.length := List.length_map _
 simp only [← hnl]
 have hrun : e9 c.ab line = l9 c.ab (kwd x) (T.map fun s => (cq s).getD 0) := by unfold e9; rw [hT, hnum, hx]
 have hstp : w6 c.ab line = match iq (kwd x) (T.map fun s => (cq s).getD 0) with
  | some (k, n, v) => ey c.ab k n v
  | none => none := by unfold w6; rw [hT, hnum, hx]
 rw [hstp] at hs
 clear hstp hnum
 have hns : (T.map fun s => (cq s).getD 0).length ≤ 1000 := by omega
 generalize (T.map fun s => (cq s).getD 0) = ns at *
 have so := ad3 x ns (by omega)
 (repeat ((repeat1' (first | simp -implicitDefEqProofs -dsimp only [go_sem, h1, hr0] | simp -dsimp (disch := omega) only [wrap_i64])); repeat (with_reducible refine ah ?_)))
 (first | refine al.at (so) ⟨leA, leA, trivial⟩ ?_ | refine ak.at (so) ⟨leA, leA, trivial⟩ ?_)
 have b9 := kwb9 x
 have ha := avg c x hw
 generalize kwd x = q at *
 cases hst : iq q ns with
 | some p =>
  obtain ⟨k, n, v⟩ := p
  rw [hst] at hs so
  have hs' : ey c.ab k n v = none := hs
  have hR : l9 c.ab q ns = (c.ab, wQ) := by unfold l9; rw [hst]; show lb c.ab k n v = _; rw [lb, hs']
  rw [hrun, hR]
  simp only [zf, Option.map_some, Option.getD_some, Option.isSome_some] at so
  have hC := alq c k n v hw hs'
  (repeat ((repeat1' (first | simp -implicitDefEqProofs -dsimp only [go_sem, zf, Option.map_some, Option.getD_some] | simp -dsimp (disch := omega) only [wrap_i64])); repeat (with_reducible refine ah ?_)))
  refine ak.tj [0, 1, 2] false hC (by decide) ⟨leO, leO, trivial⟩ (by simp [bb, bj, ren, bf, posOf, ae, an.oc]) ⟨⟨rfl, rfl⟩, ⟨rfl, rfl⟩, ⟨rfl, rfl⟩, trivial⟩ (.inl rfl) ?_
  (repeat ((repeat1' (first | simp -implicitDefEqProofs -dsimp only [go_sem, an.oc] | simp -dsimp (disch := omega) only [wrap_i64])); repeat (with_reducible refine ah ?_)))
  refine aj.pick [0, 1, 2] (by decide) (by decide) (.inl rfl) ?_
  simp [bb, bj, ren, bf, posOf, gi, ae, an.oc]
 | none =>
  rw [hst] at so
  rw [hrun]
  clear hrun hs
  have z00 : (((0 : Nat) : Int) == 0) = true := rfl
  have z01 : (((0 : Nat) : Int) == 1) = false := rfl
  have z02 : (((0 : Nat) : Int) == 2) = false := rfl
  have z10 : (((1 : Nat) : Int) == 0) = false := rfl
  have z11 : (((1 : Nat) : Int) == 1) = true := rfl
  have z12 : (((1 : Nat) : Int) == 2) = false := rfl
  have z20 : (((2 : Nat) : Int) == 0) = false := rfl
  have z21 : (((2 : Nat) : Int) == 1) = false := rfl
  have z22 : (((2 : Nat) : Int) == 2) = true := rfl
  rcases ns with _ | ⟨n1, _ | ⟨n2, L⟩⟩
  · rw [agq hst]
    have c9 : decide (q = 9) = true ∨ decide (q = 9) = false := by cases decide (q = 9) <;> simp
    rcases c9 with c9 | c9
    all_goals
     (repeat ((repeat1' (first | simp -implicitDefEqProofs -dsimp only [go_sem, zf, Option.map_none, Option.getD_none, b9, c9, hr0, z00, z01, z02, z10, z11, z12, z20, z21, z22] | simp -dsimp (disch := omega) only [wrap_i64])); repeat (with_reducible refine ah ?_)))
     refine ak.tj [0, 1, 2] false ha (by decide) ⟨leO, leO, trivial⟩ (by simp [bb, bj, ren, bf, posOf, ae, an.oc]) ⟨⟨rfl, rfl⟩, ⟨rfl, rfl⟩, ⟨rfl, rfl⟩, trivial⟩ (.inl rfl) ?_
     (repeat ((repeat1' (first | simp -implicitDefEqProofs -dsimp only [go_sem] | simp -dsimp (disch := omega) only [wrap_i64])); repeat (with_reducible refine ah ?_)))
     cases hA : wi c.ab q with
     | none =>
      (repeat ((repeat1' (first | simp -implicitDefEqProofs -dsimp only [go_sem] | simp -dsimp (disch := omega) only [wrap_i64])); repeat (with_reducible refine ah ?_)))
      refine aj.pick [0, 1, 2] (by decide) (by decide) (.inl rfl) ?_
      simp [bb, bj, ren, bf, posOf, gi, ae, an.oc]
     | some y =>
      rw [apu hA]
      (repeat ((repeat1' (first | simp -implicitDefEqProofs -dsimp only [go_sem] | simp -dsimp (disch := omega) only [wrap_i64])); repeat (with_reducible refine ah ?_)))
      refine aj.pick [0, 1, 2] (by decide) (by decide) (.inl rfl) ?_
      simp [bb, bj, ren, bf, posOf, gi, ae, an.oc]
  · rw [ahj hst]
    have hn1 := hbd n1 (by simp)
    have hr3 : rows IntS.cs [n1] = [.int .i64 n1] := rfl
    have hT9 := vn c.ab n1 (by omega) (by omega)
    rw [ye hw] at hT9
    by_cases c9 : q = 9
    · have d9 : decide (q = 9) = true := decide_eq_true c9
      rw [if_pos c9]
      (repeat ((repeat1' (first | simp -implicitDefEqProofs -dsimp only [go_sem, zf, Option.map_none, Option.getD_none, b9, d9, hr3, hr0, an.oc, z00, z01, z02, z10, z11, z12, z20, z21, z22] | simp -dsimp (disch := omega) only [wrap_i64])); repeat (with_reducible refine ah ?_)))
      (first | refine al.at (hT9) ⟨leA, leA, trivial⟩ ?_ | refine ak.at (hT9) ⟨leA, leA, trivial⟩ ?_)
      (repeat ((repeat1' (first | simp -implicitDefEqProofs -dsimp only [go_sem] | simp -dsimp (disch := omega) only [wrap_i64])); repeat (with_reducible refine ah ?_)))
      cases hA : aad c.ab n1 with
      | none =>
       (repeat ((repeat1' (first | simp -implicitDefEqProofs -dsimp only [go_sem] | simp -dsimp (disch := omega) only [wrap_i64])); repeat (with_reducible refine ah ?_)))
       refine aj.pick [0, 1, 2] (by decide) (by decide) (.inl rfl) ?_
       simp [bb, bj, ren, bf, posOf, gi, ae, an.oc]
      | some y =>
       (repeat ((repeat1' (first | simp -implicitDefEqProofs -dsimp only [go_sem] | simp -dsimp (disch := omega) only [wrap_i64])); repeat (with_reducible refine ah ?_)))
       refine aj.pick [0, 1, 2] (by decide) (by decide) (.inl rfl) ?_
       simp [bb, bj, ren, bf, posOf, gi, ae, an.oc]
    · have d9 : decide (q = 9) = false := decide_eq_false c9
      rw [if_neg c9]
      (repeat ((repeat1' (first | simp -implicitDefEqProofs -dsimp only [go_sem, zf, Option.map_none, Option.getD_none, b9, d9, hr3, hr0, z00, z01, z02, z10, z11, z12, z20, z21, z22] | simp -dsimp (disch := omega) only [wrap_i64])); repeat (with_reducible refine ah ?_)))
      refine aj.pick [0, 1, 2] (by decide) (by decide) (.inl rfl) ?_
      simp [bb, bj, ren, bf, posOf, gi, ae, an.oc]
  · rw [acp hst]
    clear hst
    have c1 : (((n1 :: n2 :: L).length : Int) == 1) = false := by simp; omega
    have c0 : (((n1 :: n2 :: L).length : Int) == 0) = false := by simp; omega
    generalize n1 :: n2 :: L = ns at *
    have c9 : decide (q = 9) = true ∨ decide (q = 9) = false := by cases decide (q = 9) <;> simp
    rcases c9 with c9 | c9
    all_goals
     (repeat ((repeat1' (first | simp -implicitDefEqProofs -dsimp only [go_sem, zf, Option.map_none, Option.getD_none, b9, c9, hr0, c1, c0] | simp -dsimp (disch := omega) only [wrap_i64])); repeat (with_reducible refine ah ?_)))
     refine aj.pick [0, 1, 2] (by decide) (by decide) (.inl rfl) ?_
     simp [bb, bj, ren, bf, posOf, gi, ae, an.oc]
theorem ag3 (c : an) (b : ab) (line : ByteArray) (hl : line.size ≤ 1000) (hw : wB c.ab = true) (hs : w6 c.ab line = some b) : Ctr Tryz.prog 95 [.ptr 0 0, .str line] [some (c.oc 1 2), some (rows ay.cs c.ab.Posts), some (rows ai.cs c.ab.Shocks)] (.str (e9 c.ab line).2) [some ((cW c b).oc 3 4), some (rows ay.cs c.ab.Posts), some (rows ai.cs c.ab.Shocks), some (rows ay.cs b.Posts), some (rows ai.cs b.Shocks)] := by
 have W := dt hw
 have pl := W.plen
 have sl := W.slen
 obtain ⟨x, T, hS⟩ := yx 32 line
 have hT : (iz 32 line).tail = T := by rw [hS]; rfl
 have hx : (iz 32 line).headD ⟨#[]⟩ = x := by rw [hS]; rfl
 have hsp := aeb line 32 (by omega)
 have hlen := abx 32 line
 have hsz : ∀ y ∈ x :: T, y.size ≤ line.size := fun y hy => yn 32 line (by rw [hS]; exact hy)
 rw [hS] at hsp hlen
 simp only [List.length_cons] at hlen
 have hr0 : (rows StringS.cs (x :: T)).take 1 = [.str x] := rfl
 have hr1 : (rows StringS.cs (x :: T)).drop 1 = rows StringS.cs T := rfl
 refine Ctr.intro Tryz.mixed Tryz.func95 rfl Tryz.asz ?_
 simp -implicitDefEqProofs -dsimp only [go_sem, Tryz.ntmps95, Tryz.results95]
 (first | refine al.at (hsp) ⟨leA, leA, trivial⟩ ?_ | refine ak.at (hsp) ⟨leA, leA, trivial⟩ ?_)
 (repeat ((repeat1' (first | simp -implicitDefEqProofs -dsimp only [go_sem, hr1] | simp -dsimp (disch := omega) only [wrap_i64])); repeat (with_reducible refine ah ?_)))
 refine de.intro (fun i : Nat => i ≤ T.length ∧ (T.take i).all (fun s => (cq s).isSome) = true) (fun i => ⟨[.ptr 0 0, .undef, .undef, .undef, .undef, StringS.sl (x :: T), .osl 3 0 i 1, .undef, .undef, .undef, .undef, .undef, .undef, .undef, .undef, .undef, .undef, .undef, .undef, StringS.sl T, .int .i64 T.length, .int .i64 i, .undef, .undef, .undef, .undef, .undef, .undef, .undef, .undef, .undef, .undef, .undef, .undef, .undef, .undef, .undef, .undef, .undef, .undef, .undef, .undef, .undef, .undef, .undef, .undef, .undef, .undef, .undef, .undef, .undef, .undef, .undef, .undef, .undef, .undef, .undef, .undef, .undef, .undef, .undef, .undef, .undef, .undef, .undef, .undef, .undef, .undef, .undef, .undef, .undef, .undef, .undef, .undef, .undef, .undef, .undef, .undef, .undef, .undef, .undef, .undef, .undef, .undef, .undef, .undef, .undef, .undef, .undef], [some (c.oc 1 2), some (rows ay.cs c.ab.Posts), some (rows ai.cs c.ab.Shocks), some (rows IntS.cs ((T.take i).map fun s => (cq s).getD 0))], 3⟩) (fun i => T.length - i) 0 ⟨Nat.zero_le _, rfl⟩ ?_ (fun i hi => ?_)
 · refine bt.cut (4) (by simp) (by simp) ?_ ?_
   · simp [LeC, LeV, ren, br]
   · simp [cd, dd, ren, br, ae, an.oc, abf]
 simp -implicitDefEqProofs -dsimp only [go_sem]
 refine bc.split (fun h1 => ?_) (fun h1 => ?_)
 · have hi' : i < T.length := by have := of_decide_eq_true h1; omega
   have hr := bu StringS.csl hi'
   have hst : (T.take (i + 1)).map (fun s => (cq s).getD 0) = (T.take i).map (fun s => (cq s).getD 0) ++ [(cq T[i]).getD 0] := by rw [List.take_succ_eq_append_getElem hi', List.map_append]; rfl
   have hlen2 : ((T.take i).map fun s => (cq s).getD 0).length = i := by simp; omega
   have ip := yb T[i] (by have := hsz T[i] (List.mem_cons_of_mem _ (List.getElem_mem hi')); omega)
   rw [jc] at ip
   (repeat ((repeat1' (first | simp -implicitDefEqProofs -dsimp only [go_sem, h1, hr, StringS.cs] | simp -dsimp (disch := omega) only [wrap_i64])); repeat (with_reducible refine ah ?_)))
   cases hread : (cq T[i]).isSome with
   | false =>
    have hno := yz hi' hread
    have hrun : e9 c.ab line = (c.ab, wQ) := by unfold e9; rw [hT, hno]
    rw [hread] at ip
    (first | refine al.at (ip) ⟨leA, trivial⟩ ?_ | refine ak.at (ip) ⟨leA, trivial⟩ ?_)
    (repeat ((repeat1' (first | simp -implicitDefEqProofs -dsimp only [go_sem] | simp -dsimp (disch := omega) only [wrap_i64])); repeat (with_reducible refine ah ?_)))
    first
     | (rw [hrun]; refine aj.pick [0, 1, 2] (by decide) (by decide) (.inl rfl) ?_; simp [bb, bj, ren, bf, posOf, ae, an.oc]; done)
     | (exfalso; unfold w6 at hs; rw [hT, hno] at hs; cases hs; done)
   | true =>
    rw [hread] at ip
    (first | refine al.at (ip) ⟨leA, trivial⟩ ?_ | refine ak.at (ip) ⟨leA, trivial⟩ ?_)
    (repeat ((repeat1' (first | simp -implicitDefEqProofs -dsimp only [go_sem, aw, a8, Nat.mul_one, hlen2] | simp -dsimp (disch := omega) only [wrap_i64])); repeat (with_reducible refine ah ?_)))
    refine ⟨i + 1, ⟨hi', by rw [List.take_succ_eq_append_getElem hi', List.all_append, hi.2]; simp [hread]⟩, ?_, by omega⟩
    refine bt.cut (4) (by simp) (by simp) ?_ ?_
    · simp [LeC, LeV, ren, br]
    · rw [hst, ← eg]
      simp [cd, dd, ren, br, ae, cz, mc, IntS.cs, an.oc]
 have hi' : i = T.length := by have := of_decide_eq_false h1; omega
 subst hi'
 have hnum := v8 hi.2
 have hbd := y4 hnum
 rw [List.take_length]
 have hnl : (T.map fun s => (cq s).getD 0).length = T.length := List.length_map _
 simp only [← hnl]
 have hrun : e9 c.ab line = l9 c.ab (kwd x) (T.map fun s => (cq s).getD 0) := by unfold e9; rw [hT, hnum, hx]
 have hstp : w6 c.ab line = match iq (kwd x) (T.map fun s => (cq s).getD 0) with
  | some (k, n, v) => ey c.ab k n v
  | none => none := by unfold w6; rw [hT, hnum, hx]
 rw [hstp] at hs
 clear hstp hnum
 have hns : (T.map fun s => (cq s).getD 0).length ≤ 1000 := by omega
 generalize (T.map fun s => (cq s).getD 0) = ns at *
 have so := ad3 x ns (by omega)
 (repeat ((repeat1' (first | simp -implicitDefEqProofs -dsimp only [go_sem, h1, hr0] | simp -dsimp (disch := omega) only [wrap_i64])); repeat (with_reducible refine ah ?_)))
 (first | refine al.at (so) ⟨leA, leA, trivial⟩ ?_ | refine ak.at (so) ⟨leA, leA, trivial⟩ ?_)
 generalize kwd x = q at *
 cases hst : iq q ns with
 | some p =>
  obtain ⟨k, n, v⟩ := p
  rw [hst] at hs so
  have hs' : ey c.ab k n v = some b := hs
  have hR : l9 c.ab q ns = (b, (j8 b k n).getD wQ) := by unfold l9; rw [hst]; show lb c.ab k n v = _; rw [lb, hs']
  rw [hrun, hR]
  have hC := ah8 c b k n v hs'
  (repeat ((repeat1' (first | simp -implicitDefEqProofs -dsimp only [go_sem, zf, Option.map_some, Option.getD_some] | simp -dsimp (disch := omega) only [wrap_i64])); repeat (with_reducible refine ah ?_)))
  refine ak.tj [0, 1, 2] false hC (by decide) ⟨leO, leO, trivial⟩ (by simp [bb, bj, ren, bf, posOf, ae, an.oc]) ⟨⟨rfl, rfl⟩, ⟨rfl, rfl⟩, ⟨rfl, rfl⟩, trivial⟩ (.inl rfl) ?_
  (repeat ((repeat1' (first | simp -implicitDefEqProofs -dsimp only [go_sem, an.oc] | simp -dsimp (disch := omega) only [wrap_i64])); repeat (with_reducible refine ah ?_)))
  cases hA : j8 b k n with
  | none =>
   (repeat ((repeat1' (first | simp -implicitDefEqProofs -dsimp only [go_sem] | simp -dsimp (disch := omega) only [wrap_i64])); repeat (with_reducible refine ah ?_)))
   refine aj.pick [0, 1, 2, 5, 6] (by decide) (by decide) (.inl rfl) ?_
   simp [bb, bj, ren, bf, posOf, gi, ae, an.oc, cW]
  | some y =>
   (repeat ((repeat1' (first | simp -implicitDefEqProofs -dsimp only [go_sem] | simp -dsimp (disch := omega) only [wrap_i64])); repeat (with_reducible refine ah ?_)))
   refine aj.pick [0, 1, 2, 5, 6] (by decide) (by decide) (.inl rfl) ?_
   simp [bb, bj, ren, bf, posOf, gi, ae, an.oc, cW]
 | none =>
  rw [hst] at hs
  cases hs
end Go.Proofs
end
section
set_option maxRecDepth 100000
set_option maxHeartbeats 4000000
namespace Go.Proofs
open Go.Lv
def wNo : ByteArray := ⟨#[110, 111]⟩
def au7 : ByteArray := ⟨#[98, 97, 100]⟩
def aob : ByteArray := ⟨#[102, 117, 108, 108]⟩
def aea : ByteArray := ⟨#[108, 111, 110, 103]⟩
def rj (r : ByteArray) : ByteArray := if 200 < (r.size : Int) then aea else r
def aol (l : Log) (e : az) : Log := if qx l = true ∧ ix e = true then (if l.Count = 60 then l else ⟨l.Durable, l.Pending ++ gm l.Count e, l.Count + 1⟩) else l
theorem ajp (l : Log) (e : az) : ∃ z : Int, aag l e = [(aol l e).v, .int .i64 z] := by
 unfold aag aol
 split
 · split
   · exact ⟨_, rfl⟩
   · exact ⟨_, rfl⟩
 · exact ⟨_, rfl⟩
noncomputable def gy (c : an) (line : ByteArray) : an × ByteArray :=
 if uz c = false then (c, wNo) else if ix ⟨line, ByteArray.empty⟩ = false then (c, au7) else if c.Log.Count = 60 then (c, aob)
 else (⟨(e9 c.ab line).1, aol c.Log ⟨line, rj (e9 c.ab line).2⟩⟩, rj (e9 c.ab line).2)
theorem adp {line : ByteArray} {r : ByteArray} (h : ix ⟨line, r⟩ = true) : line.size ≤ 160 := by
 simp only [ix, Bool.and_eq_true, decide_eq_true_eq] at h
 omega
theorem yk {c : an} (h : uz c = true) : wB c.ab = true ∧ qx c.Log = true := by
 simpa [uz] using h
theorem ao4 (c : an) (line : ByteArray) (hc : c.fits) (hl : line.size ≤ 4194304) : Ctr Tryz.prog 33 [c.v, .str line] [] (.tup [(gy c line).1.o 0 1, .str (gy c line).2]) [some (rows ay.cs (gy c line).1.ab.Posts), some (rows ai.cs (gy c line).1.ab.Shocks)] := by
 obtain ⟨f0, f1, f2, f3⟩ := hc
 have hc : c.fits := ⟨f0, f1, f2, f3⟩
 have he2 : (ByteArray.empty : ByteArray).size = 0 := rfl
 have hV := ln ⟨line, ByteArray.empty⟩ (by dsimp only; omega) (by dsimp only; omega)
 cases hb : uz c with
 | false =>
  rw [show gy c line = (c, wNo) by rw [gy, if_pos hb]]
  refine Ctr.intro Tryz.mixed Tryz.func33 rfl Tryz.agm ?_
  simp -implicitDefEqProofs -dsimp only [go_sem, Tryz.ntmps33, Tryz.results33]
  (repeat ((repeat1' (first | simp -implicitDefEqProofs -dsimp only [go_sem, an.v] | simp -dsimp (disch := omega) only [wrap_i64])); repeat (with_reducible refine ah ?_)))
  (have ct := c7 c.ab (by omega) (by omega); (first | refine al.at ct ⟨leA, trivial⟩ ?_ | refine ak.at ct ⟨leA, trivial⟩ ?_); clear ct)
  (repeat ((repeat1' (first | simp -implicitDefEqProofs -dsimp only [go_sem, ab.o] | simp -dsimp (disch := omega) only [wrap_i64])); repeat (with_reducible refine ah ?_)))
  (have ct := gf c hc; (first | refine al.at ct ⟨leA, trivial⟩ ?_ | refine ak.at ct ⟨leA, trivial⟩ ?_); clear ct)
  rw [hb]
  (repeat ((repeat1' (first | simp -implicitDefEqProofs -dsimp only [go_sem] | simp -dsimp (disch := omega) only [wrap_i64])); repeat (with_reducible refine ah ?_)))
  refine aj.pick [2, 3] (by decide) (fun j hj => by omega) (.inl ?_) ?_
  · first | rfl | (simp [ren, bf, posOf, an.o]; done)
  · simp only [bb, List.map_cons, List.map_nil, bj, List.getElem?_cons_zero, List.getElem?_cons_succ, ae]
 | true =>
  cases hr : ix ⟨line, ByteArray.empty⟩ with
  | false =>
   rw [show gy c line = (c, au7) by rw [gy, if_neg (by simp [hb]), if_pos hr]]
   rw [hr] at hV
   refine Ctr.intro Tryz.mixed Tryz.func33 rfl Tryz.agm ?_
   simp -implicitDefEqProofs -dsimp only [go_sem, Tryz.ntmps33, Tryz.results33]
   (repeat ((repeat1' (first | simp -implicitDefEqProofs -dsimp only [go_sem, an.v] | simp -dsimp (disch := omega) only [wrap_i64])); repeat (with_reducible refine ah ?_)))
   (have ct := c7 c.ab (by omega) (by omega); (first | refine al.at ct ⟨leA, trivial⟩ ?_ | refine ak.at ct ⟨leA, trivial⟩ ?_); clear ct)
   (repeat ((repeat1' (first | simp -implicitDefEqProofs -dsimp only [go_sem, ab.o] | simp -dsimp (disch := omega) only [wrap_i64])); repeat (with_reducible refine ah ?_)))
   (have ct := gf c hc; (first | refine al.at ct ⟨leA, trivial⟩ ?_ | refine ak.at ct ⟨leA, trivial⟩ ?_); clear ct)
   rw [hb]
   (repeat ((repeat1' (first | simp -implicitDefEqProofs -dsimp only [go_sem] | simp -dsimp (disch := omega) only [wrap_i64])); repeat (with_reducible refine ah ?_)))
   (first | refine al.at (hV) ⟨leA, trivial⟩ ?_ | refine ak.at (hV) ⟨leA, trivial⟩ ?_)
   (repeat ((repeat1' (first | simp -implicitDefEqProofs -dsimp only [go_sem, az.v] | simp -dsimp (disch := omega) only [wrap_i64])); repeat (with_reducible refine ah ?_)))
   refine aj.pick [2, 3] (by decide) (fun j hj => by omega) (.inl ?_) ?_
   · first | rfl | (simp [ren, bf, posOf, an.o]; done)
   · simp only [bb, List.map_cons, List.map_nil, bj, List.getElem?_cons_zero, List.getElem?_cons_succ, ae]
  | true =>
   have hl2 := adp hr
   obtain ⟨hw, hlg⟩ := yk hb
   rw [hr] at hV
   by_cases hf : c.Log.Count = 60
   · have hf' : (c.Log.Count == 60) = true := by simpa using hf
     rw [show gy c line = (c, aob) by rw [gy, if_neg (by simp [hb]), if_neg (by simp [hr]), if_pos hf]]
     refine Ctr.intro Tryz.mixed Tryz.func33 rfl Tryz.agm ?_
     simp -implicitDefEqProofs -dsimp only [go_sem, Tryz.ntmps33, Tryz.results33]
     (repeat ((repeat1' (first | simp -implicitDefEqProofs -dsimp only [go_sem, an.v] | simp -dsimp (disch := omega) only [wrap_i64])); repeat (with_reducible refine ah ?_)))
     (have ct := c7 c.ab (by omega) (by omega); (first | refine al.at ct ⟨leA, trivial⟩ ?_ | refine ak.at ct ⟨leA, trivial⟩ ?_); clear ct)
     (repeat ((repeat1' (first | simp -implicitDefEqProofs -dsimp only [go_sem, ab.o] | simp -dsimp (disch := omega) only [wrap_i64])); repeat (with_reducible refine ah ?_)))
     (have ct := gf c hc; (first | refine al.at ct ⟨leA, trivial⟩ ?_ | refine ak.at ct ⟨leA, trivial⟩ ?_); clear ct)
     rw [hb]
     (repeat ((repeat1' (first | simp -implicitDefEqProofs -dsimp only [go_sem] | simp -dsimp (disch := omega) only [wrap_i64])); repeat (with_reducible refine ah ?_)))
     (first | refine al.at (hV) ⟨leA, trivial⟩ ?_ | refine ak.at (hV) ⟨leA, trivial⟩ ?_)
     (repeat ((repeat1' (first | simp -implicitDefEqProofs -dsimp only [go_sem, az.v, hf'] | simp -dsimp (disch := omega) only [wrap_i64])); repeat (with_reducible refine ah ?_)))
     refine aj.pick [2, 3] (by decide) (fun j hj => by omega) (.inl ?_) ?_
     · first | rfl | (simp [ren, bf, posOf, an.o]; done)
     · simp only [bb, List.map_cons, List.map_nil, bj, List.getElem?_cons_zero, List.getElem?_cons_succ, ae]
   · have hf' : (c.Log.Count == 60) = false := by simpa using hf
     rw [show gy c line = (⟨(e9 c.ab line).1, aol c.Log ⟨line, rj (e9 c.ab line).2⟩⟩, rj (e9 c.ab line).2) by rw [gy, if_neg (by simp [hb]), if_neg (by simp [hr]), if_neg hf]]
     rw [af9]
     have hcap : rj (e9 c.ab line).2 = if 200 < ((e9 c.ab line).2.size : Int) then aea else (e9 c.ab line).2 := rfl
     have hcs : (rj (e9 c.ab line).2).size ≤ 200 := by
      rw [hcap]; split
      · decide
      · omega
     obtain ⟨z, hz⟩ := ajp c.Log ⟨line, rj (e9 c.ab line).2⟩
     have iA := zd c.Log ⟨line, rj (e9 c.ab line).2⟩ f2 f3 (by dsimp only; omega) (by dsimp only; omega)
     rw [hz] at iA
     cases hs : w6 c.ab line with
     | none =>
      have hP := ajd c line (by omega) hw hs
      rw [Option.getD_none]
      refine Ctr.intro Tryz.mixed Tryz.func33 rfl Tryz.agm ?_
      simp -implicitDefEqProofs -dsimp only [go_sem, Tryz.ntmps33, Tryz.results33]
      (repeat ((repeat1' (first | simp -implicitDefEqProofs -dsimp only [go_sem, an.v] | simp -dsimp (disch := omega) only [wrap_i64])); repeat (with_reducible refine ah ?_)))
      (have ct := c7 c.ab (by omega) (by omega); (first | refine al.at ct ⟨leA, trivial⟩ ?_ | refine ak.at ct ⟨leA, trivial⟩ ?_); clear ct)
      (repeat ((repeat1' (first | simp -implicitDefEqProofs -dsimp only [go_sem, ab.o] | simp -dsimp (disch := omega) only [wrap_i64])); repeat (with_reducible refine ah ?_)))
      (have ct := gf c hc; (first | refine al.at ct ⟨leA, trivial⟩ ?_ | refine ak.at ct ⟨leA, trivial⟩ ?_); clear ct)
      rw [hb]
      (repeat ((repeat1' (first | simp -implicitDefEqProofs -dsimp only [go_sem] | simp -dsimp (disch := omega) only [wrap_i64])); repeat (with_reducible refine ah ?_)))
      (first | refine al.at (hV) ⟨leA, trivial⟩ ?_ | refine ak.at (hV) ⟨leA, trivial⟩ ?_)
      (repeat ((repeat1' (first | simp -implicitDefEqProofs -dsimp only [go_sem, az.v, hf'] | simp -dsimp (disch := omega) only [wrap_i64])); repeat (with_reducible refine ah ?_)))
      refine ak.tj [4, 2, 3] false hP (by decide) ⟨leO, leO, trivial⟩ (by simp [bb, bj, ren, bf, posOf, ae, an.oc]) ⟨⟨rfl, rfl⟩, ⟨rfl, rfl⟩, ⟨rfl, rfl⟩, trivial⟩ (.inl rfl) ?_
      (repeat ((repeat1' (first | simp -implicitDefEqProofs -dsimp only [go_sem, an.oc] | simp -dsimp (disch := omega) only [wrap_i64])); repeat (with_reducible refine ah ?_)))
      refine bc.split (fun hg => ?_) (fun hg => ?_)
      · have e : rj (e9 c.ab line).2 = aea := by rw [hcap, if_pos (of_decide_eq_true hg)]
        rw [e] at iA hz ⊢
        (repeat ((repeat1' (first | simp -implicitDefEqProofs -dsimp only [go_sem, hg] | simp -dsimp (disch := omega) only [wrap_i64])); repeat (with_reducible refine ah ?_)))
        (first | refine al.at (iA) ⟨leA, leA, trivial⟩ ?_ | refine ak.at (iA) ⟨leA, leA, trivial⟩ ?_)
        (repeat ((repeat1' (first | simp -implicitDefEqProofs -dsimp only [go_sem, Log.v] | simp -dsimp (disch := omega) only [wrap_i64])); repeat (with_reducible refine ah ?_)))
        refine aj.pick [2, 3] (by decide) (fun j hj => by omega) (.inl ?_) ?_
        · first | rfl | (simp [ren, bf, posOf, an.o]; done)
        · simp only [bb, List.map_cons, List.map_nil, bj, List.getElem?_cons_zero, List.getElem?_cons_succ, ae]
      · have e : rj (e9 c.ab line).2 = (e9 c.ab line).2 := by rw [hcap, if_neg (of_decide_eq_false hg)]
        rw [e] at iA hz ⊢
        (repeat ((repeat1' (first | simp -implicitDefEqProofs -dsimp only [go_sem, hg] | simp -dsimp (disch := omega) only [wrap_i64])); repeat (with_reducible refine ah ?_)))
        (first | refine al.at (iA) ⟨leA, leA, trivial⟩ ?_ | refine ak.at (iA) ⟨leA, leA, trivial⟩ ?_)
        (repeat ((repeat1' (first | simp -implicitDefEqProofs -dsimp only [go_sem, Log.v] | simp -dsimp (disch := omega) only [wrap_i64])); repeat (with_reducible refine ah ?_)))
        refine aj.pick [2, 3] (by decide) (fun j hj => by omega) (.inl ?_) ?_
        · first | rfl | (simp [ren, bf, posOf, an.o]; done)
        · simp only [bb, List.map_cons, List.map_nil, bj, List.getElem?_cons_zero, List.getElem?_cons_succ, ae]
     | some b =>
      have hP := ag3 c b line (by omega) hw hs
      rw [Option.getD_some]
      refine Ctr.intro Tryz.mixed Tryz.func33 rfl Tryz.agm ?_
      simp -implicitDefEqProofs -dsimp only [go_sem, Tryz.ntmps33, Tryz.results33]
      (repeat ((repeat1' (first | simp -implicitDefEqProofs -dsimp only [go_sem, an.v] | simp -dsimp (disch := omega) only [wrap_i64])); repeat (with_reducible refine ah ?_)))
      (have ct := c7 c.ab (by omega) (by omega); (first | refine al.at ct ⟨leA, trivial⟩ ?_ | refine ak.at ct ⟨leA, trivial⟩ ?_); clear ct)
      (repeat ((repeat1' (first | simp -implicitDefEqProofs -dsimp only [go_sem, ab.o] | simp -dsimp (disch := omega) only [wrap_i64])); repeat (with_reducible refine ah ?_)))
      (have ct := gf c hc; (first | refine al.at ct ⟨leA, trivial⟩ ?_ | refine ak.at ct ⟨leA, trivial⟩ ?_); clear ct)
      rw [hb]
      (repeat ((repeat1' (first | simp -implicitDefEqProofs -dsimp only [go_sem] | simp -dsimp (disch := omega) only [wrap_i64])); repeat (with_reducible refine ah ?_)))
      (first | refine al.at (hV) ⟨leA, trivial⟩ ?_ | refine ak.at (hV) ⟨leA, trivial⟩ ?_)
      (repeat ((repeat1' (first | simp -implicitDefEqProofs -dsimp only [go_sem, az.v, hf'] | simp -dsimp (disch := omega) only [wrap_i64])); repeat (with_reducible refine ah ?_)))
      refine ak.tj [4, 2, 3] false hP (by decide) ⟨leO, leO, trivial⟩ (by simp [bb, bj, ren, bf, posOf, ae, an.oc]) ⟨⟨rfl, rfl⟩, ⟨rfl, rfl⟩, ⟨rfl, rfl⟩, trivial⟩ (.inl rfl) ?_
      (repeat ((repeat1' (first | simp -implicitDefEqProofs -dsimp only [go_sem, an.oc, cW, List.getElem?_nil] | simp -dsimp (disch := omega) only [wrap_i64])); repeat (with_reducible refine ah ?_)))
      refine bc.split (fun hg => ?_) (fun hg => ?_)
      · have e : rj (e9 c.ab line).2 = aea := by rw [hcap, if_pos (of_decide_eq_true hg)]
        rw [e] at iA hz ⊢
        (repeat ((repeat1' (first | simp -implicitDefEqProofs -dsimp only [go_sem, hg, List.getElem?_nil] | simp -dsimp (disch := omega) only [wrap_i64])); repeat (with_reducible refine ah ?_)))
        (first | refine al.at (iA) ⟨leA, leA, trivial⟩ ?_ | refine ak.at (iA) ⟨leA, leA, trivial⟩ ?_)
        (repeat ((repeat1' (first | simp -implicitDefEqProofs -dsimp only [go_sem, Log.v, List.getElem?_nil] | simp -dsimp (disch := omega) only [wrap_i64])); repeat (with_reducible refine ah ?_)))
        refine aj.pick [5, 6] (by decide) (fun j hj => by omega) (.inl ?_) ?_
        · first | rfl | (simp [ren, bf, posOf, an.o]; done)
        · simp only [bb, List.map_cons, List.map_nil, bj, List.getElem?_cons_zero, List.getElem?_cons_succ, ae]
      · have e : rj (e9 c.ab line).2 = (e9 c.ab line).2 := by rw [hcap, if_neg (of_decide_eq_false hg)]
        rw [e] at iA hz ⊢
        (repeat ((repeat1' (first | simp -implicitDefEqProofs -dsimp only [go_sem, hg, List.getElem?_nil] | simp -dsimp (disch := omega) only [wrap_i64])); repeat (with_reducible refine ah ?_)))
        (first | refine al.at (iA) ⟨leA, leA, trivial⟩ ?_ | refine ak.at (iA) ⟨leA, leA, trivial⟩ ?_)
        (repeat ((repeat1' (first | simp -implicitDefEqProofs -dsimp only [go_sem, Log.v, List.getElem?_nil] | simp -dsimp (disch := omega) only [wrap_i64])); repeat (with_reducible refine ah ?_)))
        refine aj.pick [5, 6] (by decide) (fun j hj => by omega) (.inl ?_) ?_
        · first | rfl | (simp [ren, bf, posOf, an.o]; done)
        · simp only [bb, List.map_cons, List.map_nil, bj, List.getElem?_cons_zero, List.getElem?_cons_succ, ae]
end Go.Proofs
end
section
set_option maxRecDepth 100000
set_option maxHeartbeats 4000000
namespace Go.Proofs
open Go.Lv
def W00 : ab := ⟨0, [], [], 0, 0⟩
theorem frzW (o : Option ab) : aj 0 (ac1 o) (ac8 o) (.tup [(o.getD W00).v, .bool o.isSome]) [] := by
 cases o with
 | none =>
  intro w0 m0 h0 av0 W m val e1 e2 hlt hle H hx hi
  refine ⟨m, H, ?_, hi⟩
  change RV W m [] _ true val (.tup [.agg [.int .i64 0, .nilsl, .nilsl, .int .i64 0, .int .i64 0], .bool false]) at hx
  cases hx with
  | tup a vs ha hra =>
   refine .tup _ _ ha (fun i hi => ?_)
   match i, hi with
   | 0, _ => exact (hra 0 (by simp)).le (LeV.agg ⟨LeE.refl _, LeE.nil, LeE.nil, LeE.refl _, LeE.refl _, trivial⟩)
   | 1, _ => exact hra 1 (by simp)
 | some b =>
  refine aj.pick [] (by decide) (fun j hj => by omega) (.inl ?_) rfl
  have e1 := ig (cs := ay.cs) b.Posts
  have e2 := ig (cs := ai.cs) b.Shocks
  simp [ac1, ac8, ab.o, ab.v, ren, bf, posOf, vj, ae] at e1 e2 ⊢
  exact ⟨e1.symm, e2.symm⟩
theorem alm (w : ab) (k n v : Int) (hp : w.Posts.length ≤ 16777216) (hs : w.Shocks.length ≤ 16777216) (hv : v ≤ 9223372036854775807) : Ctr Tryz.prog 195 [w.v, .agg [.int .i64 k, .int .i64 n, .int .i64 v]] [] (.tup [((ey w k n v).getD W00).v, .bool (ey w k n v).isSome]) [] :=
 (ac5 w k n v hp hs hv).vk (frzW _)
theorem afq (s : ByteArray) (hs : s.size ≤ 281474976710656) : Ctr Tryz.prog 156 [.str s] [] (jc s) [] := by
 have h := ak8 s hs
 rw [jc] at h ⊢
 refine Ctr.intro Tryz.mixed Tryz.func156 rfl Tryz.av7 ?_
 simp -implicitDefEqProofs -dsimp only [go_sem, Tryz.ntmps156, Tryz.results156]
 (first | refine al.at (h) ⟨leA, trivial⟩ ?_ | refine ak.at (h) ⟨leA, trivial⟩ ?_)
 (repeat ((repeat1' (first | simp -implicitDefEqProofs -dsimp only [go_sem] | simp -dsimp (disch := omega) only [wrap_i64])); repeat (with_reducible refine ah ?_)))
 exact aj.au rfl (by rfl)
theorem qb (L : List Int) (b : Bool) (hL : ∀ n ∈ L, gz n ∧ -9223372036854775807 ≤ n) (hl : L.length ≤ 100000) : Ctr Tryz.prog 215 [IntS.sl L, .bool b] [] (.str (if b then l7 L else wQ)) [] := by
 cases b with
 | false =>
  refine Ctr.intro Tryz.mixed Tryz.func215 rfl Tryz.aiv ?_
  simp -implicitDefEqProofs -dsimp only [go_sem, Tryz.ntmps215, Tryz.results215]
  (repeat ((repeat1' (first | simp -implicitDefEqProofs -dsimp only [go_sem] | simp -dsimp (disch := omega) only [wrap_i64])); repeat (with_reducible refine ah ?_)))
  exact aj.au rfl (by rfl)
 | true =>
  by_cases he : L = []
  · have c0 : ((L.length : Int) == 0) = true := by rw [he]; rfl
    refine Ctr.intro Tryz.mixed Tryz.func215 rfl Tryz.aiv ?_
    simp -implicitDefEqProofs -dsimp only [go_sem, Tryz.ntmps215, Tryz.results215]
    (repeat ((repeat1' (first | simp -implicitDefEqProofs -dsimp only [go_sem, c0] | simp -dsimp (disch := omega) only [wrap_i64])); repeat (with_reducible refine ah ?_)))
    exact aj.au (by rw [l7, if_pos he]; rfl) (by rfl)
  have hpos : 0 < L.length := List.length_pos_iff.2 he
  have c0 : ((L.length : Int) == 0) = false := by simp; omega
  have hr0 : (rows IntS.cs L).take 1 = [.int .i64 L[0]] := by
   have := bu IntS.csl hpos
   rw [Nat.zero_mul, List.drop_zero] at this
   exact this
  have hsz := fun i => we (L.take i) (fun n hn => (hL n (List.mem_of_mem_take hn)).1)
  refine Ctr.intro Tryz.mixed Tryz.func215 rfl Tryz.aiv ?_
  simp -implicitDefEqProofs -dsimp only [go_sem, Tryz.ntmps215, Tryz.results215]
  (repeat ((repeat1' (first | simp -implicitDefEqProofs -dsimp only [go_sem, c0, hr0] | simp -dsimp (disch := omega) only [wrap_i64])); repeat (with_reducible refine ah ?_)))
  (first | refine al.at (fh L[0] (hL _ (List.getElem_mem hpos)).2 (hL _ (List.getElem_mem hpos)).1.2) ⟨leA, trivial⟩ ?_ | refine ak.at (fh L[0] (hL _ (List.getElem_mem hpos)).2 (hL _ (List.getElem_mem hpos)).1.2) ⟨leA, trivial⟩ ?_)
  (repeat ((repeat1' (first | simp -implicitDefEqProofs -dsimp only [go_sem] | simp -dsimp (disch := omega) only [wrap_i64])); repeat (with_reducible refine ah ?_)))
  refine de.intro (fun i : Nat => 1 ≤ i ∧ i ≤ L.length) (fun i => ⟨[IntS.sl L, .undef, .undef, .undef, .undef, .str (n5 (L.take i)), .int .i64 i, .undef, .undef, .undef, .undef, .undef, .undef, .undef, .undef, .undef, .undef, .undef, .undef, .undef, .undef, .undef, .undef, .undef, .undef, .undef, .undef, .undef, .undef, .undef, .undef], [], 0⟩) (fun i => L.length - i) 1 ⟨Nat.le_refl _, hpos⟩ ?_ (fun i hi => ?_)
  · refine bt.cut (0) (by simp) (by simp) ?_ ?_
    · have e1 : n5 (L.take 1) = num L[0] := by rw [List.take_succ_eq_append_getElem hpos]; rfl
      rw [e1]
      simp [LeC, LeV, ren, br]
    · rfl
  simp -implicitDefEqProofs -dsimp only [go_sem]
  refine bc.split (fun h1 => ?_) (fun h1 => ?_)
  · have hi' : i < L.length := by have := of_decide_eq_true h1; omega
    have hr := bu IntS.csl hi'
    have hs1 := hsz i
    rw [List.length_take] at hs1
    have hst : n5 (L.take (i + 1)) = n5 (L.take i) ++ ⟨#[32]⟩ ++ num L[i] := by
     rw [List.take_succ_eq_append_getElem hi']
     exact abh _ _ (fun e => by have := congrArg List.length e; rw [List.length_take, List.length_nil] at this; omega)
    have hnz := wy (hL _ (List.getElem_mem hi')).1
    (repeat ((repeat1' (first | simp -implicitDefEqProofs -dsimp only [go_sem, h1, hr, IntS.cs] | simp -dsimp (disch := omega) only [wrap_i64])); repeat (with_reducible refine ah ?_)))
    have hz32 : (#[32] : Array UInt8).size = 1 := rfl
    refine ⟨by omega, ⟨by omega, by omega⟩, ?_⟩
    (first | refine al.at (fh L[i] (hL _ (List.getElem_mem hi')).2 (hL _ (List.getElem_mem hi')).1.2) ⟨leA, trivial⟩ ?_ | refine ak.at (fh L[i] (hL _ (List.getElem_mem hi')).2 (hL _ (List.getElem_mem hi')).1.2) ⟨leA, trivial⟩ ?_)
    (repeat ((repeat1' (first | simp -implicitDefEqProofs -dsimp only [go_sem, ByteArray.size_append, bm] | simp -dsimp (disch := omega) only [wrap_i64])); repeat (with_reducible refine ah ?_)))
    refine ⟨i + 1, ⟨by omega, hi'⟩, ?_, by omega⟩
    refine bt.cut (0) (by simp) (by simp) ?_ ?_
    · rw [hst]
      simp [LeC, LeV, ren, br]
    · rfl
  · have hi' : i = L.length := by have := of_decide_eq_false h1; omega
    subst hi'
    (repeat ((repeat1' (first | simp -implicitDefEqProofs -dsimp only [go_sem, h1, List.take_length] | simp -dsimp (disch := omega) only [wrap_i64])); repeat (with_reducible refine ah ?_)))
    exact aj.au (by rw [l7, if_neg he]) (by rfl)
theorem zp (w : ab) (n : Int) (hw : wB w = true) : Ctr Tryz.prog 213 [w.v, .int .i64 n] [] (.str ((aad w n).getD wQ)) [] := by
 have W := dt hw
 have pl := W.plen
 have sl := W.slen
 have hT := ac7 w n (by omega) (by omega)
 rw [ye hw] at hT
 refine Ctr.intro Tryz.mixed Tryz.func213 rfl Tryz.au0 ?_
 simp -implicitDefEqProofs -dsimp only [go_sem, Tryz.ntmps213, Tryz.results213]
 (repeat ((repeat1' (first | simp -implicitDefEqProofs -dsimp only [go_sem, ab.v] | simp -dsimp (disch := omega) only [wrap_i64])); repeat (with_reducible refine ah ?_)))
 (first | refine al.at (hT) ⟨leA, leA, trivial⟩ ?_ | refine ak.at (hT) ⟨leA, leA, trivial⟩ ?_)
 (repeat ((repeat1' (first | simp -implicitDefEqProofs -dsimp only [go_sem] | simp -dsimp (disch := omega) only [wrap_i64])); repeat (with_reducible refine ah ?_)))
 cases hA : aad w n with
 | none =>
  (repeat ((repeat1' (first | simp -implicitDefEqProofs -dsimp only [go_sem] | simp -dsimp (disch := omega) only [wrap_i64])); repeat (with_reducible refine ah ?_)))
  exact aj.au rfl (by rfl)
 | some y =>
  (repeat ((repeat1' (first | simp -implicitDefEqProofs -dsimp only [go_sem] | simp -dsimp (disch := omega) only [wrap_i64])); repeat (with_reducible refine ah ?_)))
  exact aj.au rfl (by rfl)
theorem agk (w : ab) (hw : wB w = true) : Ctr Tryz.prog 212 [w.v] [] (.str (l7 (ups w))) [] := by
 have W := dt hw
 have pl := W.plen
 have sl := W.slen
 have hU := aho w (by omega) (by omega)
 rw [amc hw] at hU
 simp only [aar, va] at hU
 have u := atf hw
 have hL := qb (ups w) true (fun n hn => ⟨(u.1 n hn).1, by have := (u.1 n hn).2; omega⟩) (by omega)
 refine Ctr.intro Tryz.mixed Tryz.func212 rfl Tryz.axf ?_
 simp -implicitDefEqProofs -dsimp only [go_sem, Tryz.ntmps212, Tryz.results212]
 (repeat ((repeat1' (first | simp -implicitDefEqProofs -dsimp only [go_sem, ab.v] | simp -dsimp (disch := omega) only [wrap_i64])); repeat (with_reducible refine ah ?_)))
 (first | refine al.at (hU) ⟨leA, trivial⟩ ?_ | refine ak.at (hU) ⟨leA, trivial⟩ ?_)
 (repeat ((repeat1' (first | simp -implicitDefEqProofs -dsimp only [go_sem] | simp -dsimp (disch := omega) only [wrap_i64])); repeat (with_reducible refine ah ?_)))
 (first | refine al.at (hL) ⟨leA, leA, trivial⟩ ?_ | refine ak.at (hL) ⟨leA, leA, trivial⟩ ?_)
 (repeat ((repeat1' (first | simp -implicitDefEqProofs -dsimp only [go_sem] | simp -dsimp (disch := omega) only [wrap_i64])); repeat (with_reducible refine ah ?_)))
 exact aj.au rfl (by rfl)
theorem ait {w : ab} {k n v : Int} (h : ey w k n v = none) : lb w k n v = (w, wQ) := by rw [lb, h]
theorem aik {w b : ab} {k n v : Int} (h : ey w k n v = some b) : lb w k n v = (b, (j8 b k n).getD wQ) := by rw [lb, h]
theorem jr (c : an) (k n v : Int) (hw : wB c.ab = true) (hv : v ≤ 999999) : Ctr Tryz.prog 157 [c.v, .agg [.int .i64 k, .int .i64 n, .int .i64 v]] [] (.tup [(cW c (lb c.ab k n v).1).v, .str (lb c.ab k n v).2]) [] := by
 have W := dt hw
 have pl := W.plen
 have sl := W.slen
 have hS := alm c.ab k n v (by omega) (by omega) (by omega)
 cases hs : ey c.ab k n v with
 | none =>
  rw [hs, Option.getD_none] at hS
  rw [ait hs]
  refine Ctr.intro Tryz.mixed Tryz.func157 rfl Tryz.s6 ?_
  simp -implicitDefEqProofs -dsimp only [go_sem, Tryz.ntmps157, Tryz.results157]
  (repeat ((repeat1' (first | simp -implicitDefEqProofs -dsimp only [go_sem, an.v, an.cs] | simp -dsimp (disch := omega) only [wrap_i64])); repeat (with_reducible refine ah ?_)))
  (first | refine al.at (hS) ⟨leA, leA, trivial⟩ ?_ | refine ak.at (hS) ⟨leA, leA, trivial⟩ ?_)
  (repeat ((repeat1' (first | simp -implicitDefEqProofs -dsimp only [go_sem, ab.v] | simp -dsimp (disch := omega) only [wrap_i64])); repeat (with_reducible refine ah ?_)))
  exact aj.au rfl (by rfl)
 | some b =>
  rw [hs, Option.getD_some] at hS
  rw [aik hs]
  obtain ⟨_, hst, _, _, hb⟩ := wq hs
  have B := dt hb
  have bl := B.plen
  have bs := B.slen
  have bn := B.now
  have bx := B.next
  have ba := B.arch
  have hU := agk b hb
  rcases ob hst with ⟨rfl, h1⟩ | hk | rfl | rfl | ⟨hk, h1⟩
  · have e : j8 b 1 n = some (num b.Now) := rfl
    rw [e]
    refine Ctr.intro Tryz.mixed Tryz.func157 rfl Tryz.s6 ?_
    simp -implicitDefEqProofs -dsimp only [go_sem, Tryz.ntmps157, Tryz.results157]
    (repeat ((repeat1' (first | simp -implicitDefEqProofs -dsimp only [go_sem, an.v, an.cs] | simp -dsimp (disch := omega) only [wrap_i64])); repeat (with_reducible refine ah ?_)))
    (first | refine al.at (hS) ⟨leA, leA, trivial⟩ ?_ | refine ak.at (hS) ⟨leA, leA, trivial⟩ ?_)
    (repeat ((repeat1' (first | simp -implicitDefEqProofs -dsimp only [go_sem, ab.v] | simp -dsimp (disch := omega) only [wrap_i64])); repeat (with_reducible refine ah ?_)))
    (have ct := fh b.Now (by omega) (by omega); (first | refine al.at ct ⟨leA, trivial⟩ ?_ | refine ak.at ct ⟨leA, trivial⟩ ?_); clear ct)
    (repeat ((repeat1' (first | simp -implicitDefEqProofs -dsimp only [go_sem] | simp -dsimp (disch := omega) only [wrap_i64])); repeat (with_reducible refine ah ?_)))
    exact aj.au rfl (by rfl)
  · have e : j8 b k n = some (l7 (ups b)) := by rcases hk with rfl | rfl <;> rfl
    rw [e]
    rcases hk with rfl | rfl
    · skip
      refine Ctr.intro Tryz.mixed Tryz.func157 rfl Tryz.s6 ?_
      simp -implicitDefEqProofs -dsimp only [go_sem, Tryz.ntmps157, Tryz.results157]
      (repeat ((repeat1' (first | simp -implicitDefEqProofs -dsimp only [go_sem, an.v, an.cs] | simp -dsimp (disch := omega) only [wrap_i64])); repeat (with_reducible refine ah ?_)))
      (first | refine al.at (hS) ⟨leA, leA, trivial⟩ ?_ | refine ak.at (hS) ⟨leA, leA, trivial⟩ ?_)
      (repeat ((repeat1' (first | simp -implicitDefEqProofs -dsimp only [go_sem, ab.v] | simp -dsimp (disch := omega) only [wrap_i64])); repeat (with_reducible refine ah ?_)))
      (first | refine al.at (hU) ⟨leA, trivial⟩ ?_ | refine ak.at (hU) ⟨leA, trivial⟩ ?_)
      (repeat ((repeat1' (first | simp -implicitDefEqProofs -dsimp only [go_sem] | simp -dsimp (disch := omega) only [wrap_i64])); repeat (with_reducible refine ah ?_)))
      exact aj.au rfl (by rfl)
    · skip
      refine Ctr.intro Tryz.mixed Tryz.func157 rfl Tryz.s6 ?_
      simp -implicitDefEqProofs -dsimp only [go_sem, Tryz.ntmps157, Tryz.results157]
      (repeat ((repeat1' (first | simp -implicitDefEqProofs -dsimp only [go_sem, an.v, an.cs] | simp -dsimp (disch := omega) only [wrap_i64])); repeat (with_reducible refine ah ?_)))
      (first | refine al.at (hS) ⟨leA, leA, trivial⟩ ?_ | refine ak.at (hS) ⟨leA, leA, trivial⟩ ?_)
      (repeat ((repeat1' (first | simp -implicitDefEqProofs -dsimp only [go_sem, ab.v] | simp -dsimp (disch := omega) only [wrap_i64])); repeat (with_reducible refine ah ?_)))
      (first | refine al.at (hU) ⟨leA, trivial⟩ ?_ | refine ak.at (hU) ⟨leA, trivial⟩ ?_)
      (repeat ((repeat1' (first | simp -implicitDefEqProofs -dsimp only [go_sem] | simp -dsimp (disch := omega) only [wrap_i64])); repeat (with_reducible refine ah ?_)))
      exact aj.au rfl (by rfl)
  · have e : j8 b 4 n = some (num (b.Next - 1)) := rfl
    rw [e]
    refine Ctr.intro Tryz.mixed Tryz.func157 rfl Tryz.s6 ?_
    simp -implicitDefEqProofs -dsimp only [go_sem, Tryz.ntmps157, Tryz.results157]
    (repeat ((repeat1' (first | simp -implicitDefEqProofs -dsimp only [go_sem, an.v, an.cs] | simp -dsimp (disch := omega) only [wrap_i64])); repeat (with_reducible refine ah ?_)))
    (first | refine al.at (hS) ⟨leA, leA, trivial⟩ ?_ | refine ak.at (hS) ⟨leA, leA, trivial⟩ ?_)
    (repeat ((repeat1' (first | simp -implicitDefEqProofs -dsimp only [go_sem, ab.v] | simp -dsimp (disch := omega) only [wrap_i64])); repeat (with_reducible refine ah ?_)))
    (have ct := fh (b.Next - 1) (by omega) (by omega); (first | refine al.at ct ⟨leA, trivial⟩ ?_ | refine ak.at ct ⟨leA, trivial⟩ ?_); clear ct)
    (repeat ((repeat1' (first | simp -implicitDefEqProofs -dsimp only [go_sem] | simp -dsimp (disch := omega) only [wrap_i64])); repeat (with_reducible refine ah ?_)))
    exact aj.au rfl (by rfl)
  · have e : j8 b 8 n = some (num b.Archived) := rfl
    rw [e]
    refine Ctr.intro Tryz.mixed Tryz.func157 rfl Tryz.s6 ?_
    simp -implicitDefEqProofs -dsimp only [go_sem, Tryz.ntmps157, Tryz.results157]
    (repeat ((repeat1' (first | simp -implicitDefEqProofs -dsimp only [go_sem, an.v, an.cs] | simp -dsimp (disch := omega) only [wrap_i64])); repeat (with_reducible refine ah ?_)))
    (first | refine al.at (hS) ⟨leA, leA, trivial⟩ ?_ | refine ak.at (hS) ⟨leA, leA, trivial⟩ ?_)
    (repeat ((repeat1' (first | simp -implicitDefEqProofs -dsimp only [go_sem, ab.v] | simp -dsimp (disch := omega) only [wrap_i64])); repeat (with_reducible refine ah ?_)))
    (have ct := fh b.Archived (by omega) (by omega); (first | refine al.at ct ⟨leA, trivial⟩ ?_ | refine ak.at ct ⟨leA, trivial⟩ ?_); clear ct)
    (repeat ((repeat1' (first | simp -implicitDefEqProofs -dsimp only [go_sem] | simp -dsimp (disch := omega) only [wrap_i64])); repeat (with_reducible refine ah ?_)))
    exact aj.au rfl (by rfl)
  · have hT := zp b n hb
    have e : j8 b k n = aad b n := by rcases hk with rfl | rfl | rfl <;> rfl
    rw [e]
    rcases hk with rfl | rfl | rfl
    · skip
      refine Ctr.intro Tryz.mixed Tryz.func157 rfl Tryz.s6 ?_
      simp -implicitDefEqProofs -dsimp only [go_sem, Tryz.ntmps157, Tryz.results157]
      (repeat ((repeat1' (first | simp -implicitDefEqProofs -dsimp only [go_sem, an.v, an.cs] | simp -dsimp (disch := omega) only [wrap_i64])); repeat (with_reducible refine ah ?_)))
      (first | refine al.at (hS) ⟨leA, leA, trivial⟩ ?_ | refine ak.at (hS) ⟨leA, leA, trivial⟩ ?_)
      (repeat ((repeat1' (first | simp -implicitDefEqProofs -dsimp only [go_sem, ab.v] | simp -dsimp (disch := omega) only [wrap_i64])); repeat (with_reducible refine ah ?_)))
      (first | refine al.at (hT) ⟨leA, leA, trivial⟩ ?_ | refine ak.at (hT) ⟨leA, leA, trivial⟩ ?_)
      (repeat ((repeat1' (first | simp -implicitDefEqProofs -dsimp only [go_sem] | simp -dsimp (disch := omega) only [wrap_i64])); repeat (with_reducible refine ah ?_)))
      exact aj.au rfl (by rfl)
    · skip
      refine Ctr.intro Tryz.mixed Tryz.func157 rfl Tryz.s6 ?_
      simp -implicitDefEqProofs -dsimp only [go_sem, Tryz.ntmps157, Tryz.results157]
      (repeat ((repeat1' (first | simp -implicitDefEqProofs -dsimp only [go_sem, an.v, an.cs] | simp -dsimp (disch := omega) only [wrap_i64])); repeat (with_reducible refine ah ?_)))
      (first | refine al.at (hS) ⟨leA, leA, trivial⟩ ?_ | refine ak.at (hS) ⟨leA, leA, trivial⟩ ?_)
      (repeat ((repeat1' (first | simp -implicitDefEqProofs -dsimp only [go_sem, ab.v] | simp -dsimp (disch := omega) only [wrap_i64])); repeat (with_reducible refine ah ?_)))
      (first | refine al.at (hT) ⟨leA, leA, trivial⟩ ?_ | refine ak.at (hT) ⟨leA, leA, trivial⟩ ?_)
      (repeat ((repeat1' (first | simp -implicitDefEqProofs -dsimp only [go_sem] | simp -dsimp (disch := omega) only [wrap_i64])); repeat (with_reducible refine ah ?_)))
      exact aj.au rfl (by rfl)
    · skip
      refine Ctr.intro Tryz.mixed Tryz.func157 rfl Tryz.s6 ?_
      simp -implicitDefEqProofs -dsimp only [go_sem, Tryz.ntmps157, Tryz.results157]
      (repeat ((repeat1' (first | simp -implicitDefEqProofs -dsimp only [go_sem, an.v, an.cs] | simp -dsimp (disch := omega) only [wrap_i64])); repeat (with_reducible refine ah ?_)))
      (first | refine al.at (hS) ⟨leA, leA, trivial⟩ ?_ | refine ak.at (hS) ⟨leA, leA, trivial⟩ ?_)
      (repeat ((repeat1' (first | simp -implicitDefEqProofs -dsimp only [go_sem, ab.v] | simp -dsimp (disch := omega) only [wrap_i64])); repeat (with_reducible refine ah ?_)))
      (first | refine al.at (hT) ⟨leA, leA, trivial⟩ ?_ | refine ak.at (hT) ⟨leA, leA, trivial⟩ ?_)
      (repeat ((repeat1' (first | simp -implicitDefEqProofs -dsimp only [go_sem] | simp -dsimp (disch := omega) only [wrap_i64])); repeat (with_reducible refine ah ?_)))
      exact aj.au rfl (by rfl)
theorem aib (w : ab) (h : ByteArray) (hw : wB w = true) : Ctr Tryz.prog 158 [w.v, .str h] [] (.str ((wi w (kwd h)).getD wQ)) [] := by
 have W := dt hw
 have pl := W.plen
 have sl := W.slen
 have bn := W.now
 have iU := agk w hw
 have iT := afo w (by omega) (by omega)
 have iS := aaf w (by omega) (by omega)
 have iL := aac w (by omega) (by omega)
 rw [acq hw] at iT
 rw [abq hw] at iS
 rw [ahb hw] at iL
 simp only [aar, va] at iT iS
 have r := at1 hw
 have s := ato hw
 have l := lg_r hw
 have lT := qb ((np w).map ai.Number) true (fun n hn => ⟨(r.1 n hn).1, by have := (r.1 n hn).2; omega⟩) (by omega)
 have lS := qb (cm w.Shocks) true (fun n hn => ⟨(s.1 n hn).1, by have := (s.1 n hn).2; omega⟩) (by omega)
 have b10 := aso h
 have b11 := atq h
 have b12 := at6 h
 have b13 := asn h
 have b14 := atl h
 generalize kwd h = q at *
 have hq : q = 10 ∨ q = 11 ∨ q = 12 ∨ q = 13 ∨ q = 14 ∨ (q ≠ 10 ∧ q ≠ 11 ∧ q ≠ 12 ∧ q ≠ 13 ∧ q ≠ 14) := by omega
 rcases hq with rfl | rfl | rfl | rfl | rfl | ⟨q1, q2, q3, q4, q5⟩
 · skip
   refine Ctr.intro Tryz.mixed Tryz.func158 rfl Tryz.wu ?_
   simp -implicitDefEqProofs -dsimp only [go_sem, Tryz.ntmps158, Tryz.results158]
   (repeat ((repeat1' (first | simp -implicitDefEqProofs -dsimp only [go_sem, ab.v, b10, b11, b12, b13, b14] | simp -dsimp (disch := omega) only [wrap_i64])); repeat (with_reducible refine ah ?_)))
   (have ct := fh w.Now (by omega) (by omega); (first | refine al.at ct ⟨leA, trivial⟩ ?_ | refine ak.at ct ⟨leA, trivial⟩ ?_); clear ct)
   (repeat ((repeat1' (first | simp -implicitDefEqProofs -dsimp only [go_sem] | simp -dsimp (disch := omega) only [wrap_i64])); repeat (with_reducible refine ah ?_)))
   exact aj.au rfl (by rfl)
 · skip
   refine Ctr.intro Tryz.mixed Tryz.func158 rfl Tryz.wu ?_
   simp -implicitDefEqProofs -dsimp only [go_sem, Tryz.ntmps158, Tryz.results158]
   (repeat ((repeat1' (first | simp -implicitDefEqProofs -dsimp only [go_sem, ab.v, b10, b11, b12, b13, b14] | simp -dsimp (disch := omega) only [wrap_i64])); repeat (with_reducible refine ah ?_)))
   (first | refine al.at (iU) ⟨leA, trivial⟩ ?_ | refine ak.at (iU) ⟨leA, trivial⟩ ?_)
   (repeat ((repeat1' (first | simp -implicitDefEqProofs -dsimp only [go_sem] | simp -dsimp (disch := omega) only [wrap_i64])); repeat (with_reducible refine ah ?_)))
   exact aj.au rfl (by rfl)
 · skip
   refine Ctr.intro Tryz.mixed Tryz.func158 rfl Tryz.wu ?_
   simp -implicitDefEqProofs -dsimp only [go_sem, Tryz.ntmps158, Tryz.results158]
   (repeat ((repeat1' (first | simp -implicitDefEqProofs -dsimp only [go_sem, ab.v, b10, b11, b12, b13, b14] | simp -dsimp (disch := omega) only [wrap_i64])); repeat (with_reducible refine ah ?_)))
   (first | refine al.at (iT) ⟨leA, trivial⟩ ?_ | refine ak.at (iT) ⟨leA, trivial⟩ ?_)
   (repeat ((repeat1' (first | simp -implicitDefEqProofs -dsimp only [go_sem] | simp -dsimp (disch := omega) only [wrap_i64])); repeat (with_reducible refine ah ?_)))
   (first | refine al.at (lT) ⟨leA, leA, trivial⟩ ?_ | refine ak.at (lT) ⟨leA, leA, trivial⟩ ?_)
   (repeat ((repeat1' (first | simp -implicitDefEqProofs -dsimp only [go_sem] | simp -dsimp (disch := omega) only [wrap_i64])); repeat (with_reducible refine ah ?_)))
   exact aj.au rfl (by rfl)
 · skip
   refine Ctr.intro Tryz.mixed Tryz.func158 rfl Tryz.wu ?_
   simp -implicitDefEqProofs -dsimp only [go_sem, Tryz.ntmps158, Tryz.results158]
   (repeat ((repeat1' (first | simp -implicitDefEqProofs -dsimp only [go_sem, ab.v, b10, b11, b12, b13, b14] | simp -dsimp (disch := omega) only [wrap_i64])); repeat (with_reducible refine ah ?_)))
   (first | refine al.at (iS) ⟨leA, trivial⟩ ?_ | refine ak.at (iS) ⟨leA, trivial⟩ ?_)
   (repeat ((repeat1' (first | simp -implicitDefEqProofs -dsimp only [go_sem] | simp -dsimp (disch := omega) only [wrap_i64])); repeat (with_reducible refine ah ?_)))
   (first | refine al.at (lS) ⟨leA, leA, trivial⟩ ?_ | refine ak.at (lS) ⟨leA, leA, trivial⟩ ?_)
   (repeat ((repeat1' (first | simp -implicitDefEqProofs -dsimp only [go_sem] | simp -dsimp (disch := omega) only [wrap_i64])); repeat (with_reducible refine ah ?_)))
   exact aj.au rfl (by rfl)
 · have e : wi w 14 = (lgO w).map fun p => l7 [p.1, p.2] := rfl
   rw [e]
   have hr : ∀ a b : Int, rows IntS.cs [a, b] = [.int .i64 a, .int .i64 b] := fun a b => rfl
   cases hl : lgO w with
   | none =>
    rw [hl] at iL
    simp only [Option.map_none, Option.getD_none, Option.isSome_none] at iL
    have lL := qb [0, 0] false (fun n hn => by simp at hn; subst hn; exact ⟨⟨by decide, by decide⟩, by decide⟩) (by simp)
    refine Ctr.intro Tryz.mixed Tryz.func158 rfl Tryz.wu ?_
    simp -implicitDefEqProofs -dsimp only [go_sem, Tryz.ntmps158, Tryz.results158]
    (repeat ((repeat1' (first | simp -implicitDefEqProofs -dsimp only [go_sem, ab.v, b10, b11, b12, b13, b14] | simp -dsimp (disch := omega) only [wrap_i64])); repeat (with_reducible refine ah ?_)))
    (first | refine al.at (iL) ⟨leA, trivial⟩ ?_ | refine ak.at (iL) ⟨leA, trivial⟩ ?_)
    (repeat ((repeat1' (first | simp -implicitDefEqProofs -dsimp only [go_sem] | simp -dsimp (disch := omega) only [wrap_i64])); repeat (with_reducible refine ah ?_)))
    (first | refine al.at (lL) ⟨leA, leA, trivial⟩ ?_ | refine ak.at (lL) ⟨leA, leA, trivial⟩ ?_)
    (repeat ((repeat1' (first | simp -implicitDefEqProofs -dsimp only [go_sem] | simp -dsimp (disch := omega) only [wrap_i64])); repeat (with_reducible refine ah ?_)))
    exact aj.au rfl (by rfl)
   | some p =>
    rw [hl] at iL l
    simp only [Option.map_some, Option.getD_some, Option.isSome_some] at iL l
    have lL := qb [p.1, p.2] true (fun n hn => by
     simp only [List.mem_cons, List.not_mem_nil, or_false] at hn
     rcases hn with rfl | rfl
     · exact ⟨⟨by omega, by omega⟩, by omega⟩
     · exact ⟨⟨by omega, by omega⟩, by omega⟩) (by simp)
    refine Ctr.intro Tryz.mixed Tryz.func158 rfl Tryz.wu ?_
    simp -implicitDefEqProofs -dsimp only [go_sem, Tryz.ntmps158, Tryz.results158]
    (repeat ((repeat1' (first | simp -implicitDefEqProofs -dsimp only [go_sem, ab.v, b10, b11, b12, b13, b14] | simp -dsimp (disch := omega) only [wrap_i64])); repeat (with_reducible refine ah ?_)))
    (first | refine al.at (iL) ⟨leA, trivial⟩ ?_ | refine ak.at (iL) ⟨leA, trivial⟩ ?_)
    (repeat ((repeat1' (first | simp -implicitDefEqProofs -dsimp only [go_sem] | simp -dsimp (disch := omega) only [wrap_i64])); repeat (with_reducible refine ah ?_)))
    (first | refine al.at (lL) ⟨leA, leA, trivial⟩ ?_ | refine ak.at (lL) ⟨leA, leA, trivial⟩ ?_)
    (repeat ((repeat1' (first | simp -implicitDefEqProofs -dsimp only [go_sem] | simp -dsimp (disch := omega) only [wrap_i64])); repeat (with_reducible refine ah ?_)))
    exact aj.au rfl (by rfl)
 · have d0 : decide (q = 10) = false := decide_eq_false q1
   have d1 : decide (q = 11) = false := decide_eq_false q2
   have d2 : decide (q = 12) = false := decide_eq_false q3
   have d3 : decide (q = 13) = false := decide_eq_false q4
   have d4 : decide (q = 14) = false := decide_eq_false q5
   have e : wi w q = none := by rw [wi, if_neg q1, if_neg q2, if_neg q3, if_neg q4, if_neg q5]
   rw [e]
   refine Ctr.intro Tryz.mixed Tryz.func158 rfl Tryz.wu ?_
   simp -implicitDefEqProofs -dsimp only [go_sem, Tryz.ntmps158, Tryz.results158]
   (repeat ((repeat1' (first | simp -implicitDefEqProofs -dsimp only [go_sem, ab.v, b10, b11, b12, b13, b14, d0, d1, d2, d3, d4] | simp -dsimp (disch := omega) only [wrap_i64])); repeat (with_reducible refine ah ?_)))
   exact aj.au rfl (by rfl)
theorem alz (c : an) (h : ByteArray) (n : Int) (hw : wB c.ab = true) (hn : -999999 ≤ n ∧ n ≤ 999999) : Ctr Tryz.prog 159 [c.v, .str h, .int .i64 n] [] (.tup [(cW c (l9 c.ab (kwd h) [n]).1).v, .str (l9 c.ab (kwd h) [n]).2]) [] := by
 have m1 := jr c 1 0 n hw hn.2
 have m2 := jr c 2 n 0 hw (by omega)
 have m3 := jr c 3 n 0 hw (by omega)
 have m5 := jr c 7 n 0 hw (by omega)
 have m6 := jr c 8 n 0 hw (by omega)
 have mT := zp c.ab n hw
 have b1 := kwb1 h
 have b3 := kwb3 h
 have b4 := kwb4 h
 have b5 := kwb5 h
 have b6 := kwb6 h
 have b9 := kwb9 h
 generalize kwd h = q at *
 have hq : q = 1 ∨ q = 3 ∨ q = 4 ∨ q = 5 ∨ q = 6 ∨ q = 9 ∨ (q ≠ 1 ∧ q ≠ 3 ∧ q ≠ 4 ∧ q ≠ 5 ∧ q ≠ 6 ∧ q ≠ 9) := by omega
 rcases hq with rfl | rfl | rfl | rfl | rfl | rfl | ⟨q1, q2, q3, q4, q5, q6⟩
 · rw [show l9 c.ab 1 [n] = lb c.ab 1 0 n from rfl]
   refine Ctr.intro Tryz.mixed Tryz.func159 rfl Tryz.vy ?_
   simp -implicitDefEqProofs -dsimp only [go_sem, Tryz.ntmps159, Tryz.results159]
   (repeat ((repeat1' (first | simp -implicitDefEqProofs -dsimp only [go_sem, an.v, b1, b3, b4, b5, b6, b9] | simp -dsimp (disch := omega) only [wrap_i64])); repeat (with_reducible refine ah ?_)))
   (first | refine al.at (m1) ⟨leA, leA, trivial⟩ ?_ | refine ak.at (m1) ⟨leA, leA, trivial⟩ ?_)
   (repeat ((repeat1' (first | simp -implicitDefEqProofs -dsimp only [go_sem, an.v] | simp -dsimp (disch := omega) only [wrap_i64])); repeat (with_reducible refine ah ?_)))
   exact aj.au rfl (by rfl)
 · rw [show l9 c.ab 3 [n] = lb c.ab 2 n 0 from rfl]
   refine Ctr.intro Tryz.mixed Tryz.func159 rfl Tryz.vy ?_
   simp -implicitDefEqProofs -dsimp only [go_sem, Tryz.ntmps159, Tryz.results159]
   (repeat ((repeat1' (first | simp -implicitDefEqProofs -dsimp only [go_sem, an.v, b1, b3, b4, b5, b6, b9] | simp -dsimp (disch := omega) only [wrap_i64])); repeat (with_reducible refine ah ?_)))
   (first | refine al.at (m2) ⟨leA, leA, trivial⟩ ?_ | refine ak.at (m2) ⟨leA, leA, trivial⟩ ?_)
   (repeat ((repeat1' (first | simp -implicitDefEqProofs -dsimp only [go_sem, an.v] | simp -dsimp (disch := omega) only [wrap_i64])); repeat (with_reducible refine ah ?_)))
   exact aj.au rfl (by rfl)
 · rw [show l9 c.ab 4 [n] = lb c.ab 3 n 0 from rfl]
   refine Ctr.intro Tryz.mixed Tryz.func159 rfl Tryz.vy ?_
   simp -implicitDefEqProofs -dsimp only [go_sem, Tryz.ntmps159, Tryz.results159]
   (repeat ((repeat1' (first | simp -implicitDefEqProofs -dsimp only [go_sem, an.v, b1, b3, b4, b5, b6, b9] | simp -dsimp (disch := omega) only [wrap_i64])); repeat (with_reducible refine ah ?_)))
   (first | refine al.at (m3) ⟨leA, leA, trivial⟩ ?_ | refine ak.at (m3) ⟨leA, leA, trivial⟩ ?_)
   (repeat ((repeat1' (first | simp -implicitDefEqProofs -dsimp only [go_sem, an.v] | simp -dsimp (disch := omega) only [wrap_i64])); repeat (with_reducible refine ah ?_)))
   exact aj.au rfl (by rfl)
 · rw [show l9 c.ab 5 [n] = lb c.ab 7 n 0 from rfl]
   refine Ctr.intro Tryz.mixed Tryz.func159 rfl Tryz.vy ?_
   simp -implicitDefEqProofs -dsimp only [go_sem, Tryz.ntmps159, Tryz.results159]
   (repeat ((repeat1' (first | simp -implicitDefEqProofs -dsimp only [go_sem, an.v, b1, b3, b4, b5, b6, b9] | simp -dsimp (disch := omega) only [wrap_i64])); repeat (with_reducible refine ah ?_)))
   (first | refine al.at (m5) ⟨leA, leA, trivial⟩ ?_ | refine ak.at (m5) ⟨leA, leA, trivial⟩ ?_)
   (repeat ((repeat1' (first | simp -implicitDefEqProofs -dsimp only [go_sem, an.v] | simp -dsimp (disch := omega) only [wrap_i64])); repeat (with_reducible refine ah ?_)))
   exact aj.au rfl (by rfl)
 · rw [show l9 c.ab 6 [n] = lb c.ab 8 n 0 from rfl]
   refine Ctr.intro Tryz.mixed Tryz.func159 rfl Tryz.vy ?_
   simp -implicitDefEqProofs -dsimp only [go_sem, Tryz.ntmps159, Tryz.results159]
   (repeat ((repeat1' (first | simp -implicitDefEqProofs -dsimp only [go_sem, an.v, b1, b3, b4, b5, b6, b9] | simp -dsimp (disch := omega) only [wrap_i64])); repeat (with_reducible refine ah ?_)))
   (first | refine al.at (m6) ⟨leA, leA, trivial⟩ ?_ | refine ak.at (m6) ⟨leA, leA, trivial⟩ ?_)
   (repeat ((repeat1' (first | simp -implicitDefEqProofs -dsimp only [go_sem, an.v] | simp -dsimp (disch := omega) only [wrap_i64])); repeat (with_reducible refine ah ?_)))
   exact aj.au rfl (by rfl)
 · rw [show l9 c.ab 9 [n] = (c.ab, (aad c.ab n).getD wQ) from rfl]
   refine Ctr.intro Tryz.mixed Tryz.func159 rfl Tryz.vy ?_
   simp -implicitDefEqProofs -dsimp only [go_sem, Tryz.ntmps159, Tryz.results159]
   (repeat ((repeat1' (first | simp -implicitDefEqProofs -dsimp only [go_sem, an.v, b1, b3, b4, b5, b6, b9] | simp -dsimp (disch := omega) only [wrap_i64])); repeat (with_reducible refine ah ?_)))
   (first | refine al.at (mT) ⟨leA, leA, trivial⟩ ?_ | refine ak.at (mT) ⟨leA, leA, trivial⟩ ?_)
   (repeat ((repeat1' (first | simp -implicitDefEqProofs -dsimp only [go_sem, an.v] | simp -dsimp (disch := omega) only [wrap_i64])); repeat (with_reducible refine ah ?_)))
   exact aj.au rfl (by rfl)
 · have d1 : decide (q = 1) = false := decide_eq_false q1
   have d2 : decide (q = 3) = false := decide_eq_false q2
   have d3 : decide (q = 4) = false := decide_eq_false q3
   have d4 : decide (q = 5) = false := decide_eq_false q4
   have d5 : decide (q = 6) = false := decide_eq_false q5
   have d6 : decide (q = 9) = false := decide_eq_false q6
   have e : iq q [n] = none := by simp only [iq]; rw [if_neg q1, if_neg q2, if_neg q3, if_neg q4, if_neg q5]
   rw [ahj e, if_neg q6]
   refine Ctr.intro Tryz.mixed Tryz.func159 rfl Tryz.vy ?_
   simp -implicitDefEqProofs -dsimp only [go_sem, Tryz.ntmps159, Tryz.results159]
   (repeat ((repeat1' (first | simp -implicitDefEqProofs -dsimp only [go_sem, an.v, b1, b3, b4, b5, b6, b9, d1, d2, d3, d4, d5, d6] | simp -dsimp (disch := omega) only [wrap_i64])); repeat (with_reducible refine ah ?_)))
   exact aj.au rfl (by rfl)
theorem al6 (c : an) (h : ByteArray) (n v : Int) (hw : wB c.ab = true) (hn : -999999 ≤ v ∧ v ≤ 999999) : Ctr Tryz.prog 160 [c.v, .str h, .int .i64 n, .int .i64 v] [] (.tup [(cW c (l9 c.ab (kwd h) [n, v]).1).v, .str (l9 c.ab (kwd h) [n, v]).2]) [] := by
 have m5 := jr c 5 n v hw hn.2
 have m6 := jr c 6 n v hw hn.2
 have b7 := kwb7 h
 have b8 := kwb8 h
 generalize kwd h = q at *
 have hq : q = 7 ∨ q = 8 ∨ (q ≠ 7 ∧ q ≠ 8) := by omega
 rcases hq with rfl | rfl | ⟨q1, q2⟩
 · rw [show l9 c.ab 7 [n, v] = lb c.ab 5 n v from rfl]
   refine Ctr.intro Tryz.mixed Tryz.func160 rfl Tryz.ajj ?_
   simp -implicitDefEqProofs -dsimp only [go_sem, Tryz.ntmps160, Tryz.results160]
   (repeat ((repeat1' (first | simp -implicitDefEqProofs -dsimp only [go_sem, an.v, b7, b8] | simp -dsimp (disch := omega) only [wrap_i64])); repeat (with_reducible refine ah ?_)))
   (first | refine al.at (m5) ⟨leA, leA, trivial⟩ ?_ | refine ak.at (m5) ⟨leA, leA, trivial⟩ ?_)
   (repeat ((repeat1' (first | simp -implicitDefEqProofs -dsimp only [go_sem, an.v] | simp -dsimp (disch := omega) only [wrap_i64])); repeat (with_reducible refine ah ?_)))
   exact aj.au rfl (by rfl)
 · rw [show l9 c.ab 8 [n, v] = lb c.ab 6 n v from rfl]
   refine Ctr.intro Tryz.mixed Tryz.func160 rfl Tryz.ajj ?_
   simp -implicitDefEqProofs -dsimp only [go_sem, Tryz.ntmps160, Tryz.results160]
   (repeat ((repeat1' (first | simp -implicitDefEqProofs -dsimp only [go_sem, an.v, b7, b8] | simp -dsimp (disch := omega) only [wrap_i64])); repeat (with_reducible refine ah ?_)))
   (first | refine al.at (m6) ⟨leA, leA, trivial⟩ ?_ | refine ak.at (m6) ⟨leA, leA, trivial⟩ ?_)
   (repeat ((repeat1' (first | simp -implicitDefEqProofs -dsimp only [go_sem, an.v] | simp -dsimp (disch := omega) only [wrap_i64])); repeat (with_reducible refine ah ?_)))
   exact aj.au rfl (by rfl)
 · have d1 : decide (q = 7) = false := decide_eq_false q1
   have d2 : decide (q = 8) = false := decide_eq_false q2
   have e : iq q [n, v] = none := by simp only [iq]; rw [if_neg q1, if_neg q2]
   rw [acp e]
   refine Ctr.intro Tryz.mixed Tryz.func160 rfl Tryz.ajj ?_
   simp -implicitDefEqProofs -dsimp only [go_sem, Tryz.ntmps160, Tryz.results160]
   (repeat ((repeat1' (first | simp -implicitDefEqProofs -dsimp only [go_sem, an.v, b7, b8, d1, d2] | simp -dsimp (disch := omega) only [wrap_i64])); repeat (with_reducible refine ah ?_)))
   exact aj.au rfl (by rfl)
end Go.Proofs
end
section
set_option maxRecDepth 100000
set_option maxHeartbeats 4000000
namespace Go.Proofs
open Go.Lv
theorem ahh (s : ByteArray) (c : UInt8) (hs : s.size ≤ 16777216) : Ctr Tryz.prog 73 [.str s, .int .u8 c.toNat] [] (StringS.sl (iz c s)) [] :=
 (sf s c hs).vk (by
  refine aj.pick [] (by decide) (fun j hj => by omega) (.inl ?_) rfl
  have e := ig (cs := StringS.cs) (iz c s)
  simp [ren, bf, posOf, vj, ae] at e ⊢
  exact e.symm)
theorem ar6 {w b : ab} {line : ByteArray} (h : w6 w line = some b) : wB b = true := by
 unfold w6 at h
 split at h
 · cases h
 · split at h
   · exact (wq h).2.2.2.2
   · cases h
theorem aj9 {w : ab} {line : ByteArray} (h : wB w = true) : wB (e9 w line).1 = true := by
 rw [af9]
 cases hs : w6 w line with
 | none => exact h
 | some b => exact ar6 hs
def xx : List V := [.int .i64 0, .nilsl, .nilsl, .int .i64 0, .int .i64 0, .str ByteArray.empty, .str ByteArray.empty, .int .i64 0]
theorem aku (c : an) (line : ByteArray) (hl : line.size ≤ 1000) (hw : wB c.ab = true) : Ctr Tryz.prog 100 [c.v, .str line] [] (.tup [(cW c (e9 c.ab line).1).v, .str (e9 c.ab line).2]) [] := by
 have W := dt hw
 have pl := W.plen
 have sl := W.slen
 obtain ⟨x, T, hS⟩ := yx 32 line
 have hT : (iz 32 line).tail = T := by rw [hS]; rfl
 have hx : (iz 32 line).headD ⟨#[]⟩ = x := by rw [hS]; rfl
 have hsp := ahh line 32 (by omega)
 rw [show (((32 : UInt8).toNat : Nat) : Int) = 32 from rfl] at hsp
 have hlen := abx 32 line
 have hsz : ∀ y ∈ x :: T, y.size ≤ line.size := fun y hy => yn 32 line (by rw [hS]; exact hy)
 rw [hS] at hsp hlen
 simp only [List.length_cons] at hlen
 have hr0 : (rows StringS.cs (x :: T)).take 1 = [.str x] := rfl
 refine Ctr.intro Tryz.mixed Tryz.func100 rfl Tryz.awm ?_
 simp -implicitDefEqProofs -dsimp only [go_sem, Tryz.ntmps100, Tryz.results100]
 (repeat ((repeat1' (first | simp -implicitDefEqProofs -dsimp only [go_sem, an.v] | simp -dsimp (disch := omega) only [wrap_i64])); repeat (with_reducible refine ah ?_)))
 (first | refine al.at (hsp) ⟨leA, leA, trivial⟩ ?_ | refine ak.at (hsp) ⟨leA, leA, trivial⟩ ?_)
 (repeat ((repeat1' (first | simp -implicitDefEqProofs -dsimp only [go_sem] | simp -dsimp (disch := omega) only [wrap_i64])); repeat (with_reducible refine ah ?_)))
 refine de.intro (fun i : Nat => i ≤ T.length ∧ (T.take i).all (fun s => (cq s).isSome) = true) (fun i => ⟨[.undef, .str line, .ptr 0 0, .undef, .ptr 1 0, .undef, StringS.sl (x :: T), .osl 2 0 i 1, .int .i64 ((i : Int) + 1), .undef, .undef, .undef, .undef, .undef, .undef, .undef, .undef, .undef, .undef, .undef, .undef, .undef, .undef, .undef, .undef, .undef, .undef, .undef, .undef, .undef, .undef, .undef, .undef, .undef, .undef, .undef, .undef, .undef, .undef, .undef, .undef, .undef, .undef, .undef, .undef, .undef, .undef, .undef, .undef, .undef, .undef, .undef, .undef, .undef, .undef, .undef, .undef, .undef, .undef, .undef, .undef, .undef, .undef, .undef, .undef, .undef, .undef, .undef, .undef, .undef, .undef, .undef, .undef, .undef, .undef, .undef, .undef, .undef, .undef], [some c.cs, some xx, some (rows IntS.cs ((T.take i).map fun s => (cq s).getD 0))], 0⟩) (fun i => T.length - i) 0 ⟨Nat.zero_le _, rfl⟩ ?_ (fun i hi => ?_)
 · refine bt.cut (3) (by simp) (by simp) ?_ ?_
   · simp [LeC, LeV, ren, br]
   · simp [cd, dd, ren, br, ae, an.cs, xx, abf]
 simp -implicitDefEqProofs -dsimp only [go_sem]
 have hll : (((x :: T).length : Nat) : Int) = (T.length : Int) + 1 := by rw [List.length_cons]; omega
 refine bc.split (fun h1 => ?_) (fun h1 => ?_)
 · have hi' : i < T.length := by have := of_decide_eq_true h1; omega
   have hr := bu StringS.csl (L := x :: T) (i := i + 1) (by rw [List.length_cons]; omega)
   rw [List.getElem_cons_succ] at hr
   have hst : (T.take (i + 1)).map (fun s => (cq s).getD 0) = (T.take i).map (fun s => (cq s).getD 0) ++ [(cq T[i]).getD 0] := by rw [List.take_succ_eq_append_getElem hi', List.map_append]; rfl
   have hlen2 : ((T.take i).map fun s => (cq s).getD 0).length = i := by simp; omega
   have ip := afq T[i] (by have := hsz T[i] (List.mem_cons_of_mem _ (List.getElem_mem hi')); omega)
   rw [jc] at ip
   have hti : ((i : Int) + 1).toNat = i + 1 := by omega
   (repeat ((repeat1' (first | simp -implicitDefEqProofs -dsimp only [go_sem, h1, hti, hr, StringS.cs] | simp -dsimp (disch := omega) only [wrap_i64])); repeat (with_reducible refine ah ?_)))
   cases hread : (cq T[i]).isSome with
   | false =>
    have hno := yz hi' hread
    have hrun : e9 c.ab line = (c.ab, wQ) := by unfold e9; rw [hT, hno]
    rw [hread] at ip
    (first | refine al.at (ip) ⟨leA, trivial⟩ ?_ | refine ak.at (ip) ⟨leA, trivial⟩ ?_)
    (repeat ((repeat1' (first | simp -implicitDefEqProofs -dsimp only [go_sem, an.cs, xx] | simp -dsimp (disch := omega) only [wrap_i64])); repeat (with_reducible refine ah ?_)))
    rw [hrun]
    exact aj.au rfl (by rfl)
   | true =>
    rw [hread] at ip
    (first | refine al.at (ip) ⟨leA, trivial⟩ ?_ | refine ak.at (ip) ⟨leA, trivial⟩ ?_)
    (repeat ((repeat1' (first | simp -implicitDefEqProofs -dsimp only [go_sem, aw, a8, Nat.mul_one, hlen2] | simp -dsimp (disch := omega) only [wrap_i64])); repeat (with_reducible refine ah ?_)))
    refine ⟨i + 1, ⟨hi', by rw [List.take_succ_eq_append_getElem hi', List.all_append, hi.2]; simp [hread]⟩, ?_, by omega⟩
    refine bt.cut (3) (by simp) (by simp) ?_ ?_
    · simp [LeC, LeV, ren, br]
    · rw [hst, ← eg]
      simp [cd, dd, ren, br, ae, cz, mc, IntS.cs, an.cs, xx]
 have hi' : i = T.length := by have := of_decide_eq_false h1; omega
 subst hi'
 have hnum := v8 hi.2
 have hbd := y4 hnum
 rw [List.take_length]
 have hnl : (T.map fun s => (cq s).getD 0).length = T.length := List.length_map _
 have hrun : e9 c.ab line = l9 c.ab (kwd x) (T.map fun s => (cq s).getD 0) := by unfold e9; rw [hT, hnum, hx]
 rw [hrun]
 have hxl : T = [] → x = line := fun e => aox (by rw [hS, e])
 clear hnum
 have hns : (T.map fun s => (cq s).getD 0).length ≤ 1000 := by omega
 have htn : T = [] ↔ (T.map fun s => (cq s).getD 0) = [] := by cases T <;> simp
 have h1' : decide ((T.length : Int) + 1 < ((T.length + 1 : Nat) : Int)) = false := decide_eq_false (by omega)
 (repeat ((repeat1' (first | simp -implicitDefEqProofs -dsimp only [go_sem, h1, h1'] | simp -dsimp (disch := omega) only [wrap_i64])); repeat (with_reducible refine ah ?_)))
 rw [← hnl]
 generalize (T.map fun s => (cq s).getD 0) = ns at *
 have z00 : (((0 : Nat) : Int) == 0) = true := rfl
 have z01 : (((0 : Nat) : Int) == 1) = false := rfl
 have z02 : (((0 : Nat) : Int) == 2) = false := rfl
 have z10 : (((1 : Nat) : Int) == 0) = false := rfl
 have z11 : (((1 : Nat) : Int) == 1) = true := rfl
 have z12 : (((1 : Nat) : Int) == 2) = false := rfl
 have z20 : (((2 : Nat) : Int) == 0) = false := rfl
 have z21 : (((2 : Nat) : Int) == 1) = false := rfl
 have z22 : (((2 : Nat) : Int) == 2) = true := rfl
 rcases ns with _ | ⟨n1, _ | ⟨n2, _ | ⟨n3, L⟩⟩⟩
 · have hx2 : x = line := hxl (htn.2 rfl)
   subst hx2
   have b2 := kwb2 x
   have m4 := jr c 4 0 0 hw (by omega)
   have mw := aib c.ab x hw
   by_cases q2 : kwd x = 2
   · have d2 : decide (kwd x = 2) = true := decide_eq_true q2
     have e : l9 c.ab (kwd x) [] = lb c.ab 4 0 0 := by rw [q2]; rfl
     rw [e]
     (repeat ((repeat1' (first | simp -implicitDefEqProofs -dsimp only [go_sem, b2, d2, an.cs, xx, z00, z01, z02, z10, z11, z12, z20, z21, z22] | simp -dsimp (disch := omega) only [wrap_i64])); repeat (with_reducible refine ah ?_)))
     (first | refine al.at (m4) ⟨leA, leA, trivial⟩ ?_ | refine ak.at (m4) ⟨leA, leA, trivial⟩ ?_)
     (repeat ((repeat1' (first | simp -implicitDefEqProofs -dsimp only [go_sem, an.v] | simp -dsimp (disch := omega) only [wrap_i64])); repeat (with_reducible refine ah ?_)))
     exact aj.au rfl (by rfl)
   · have d2 : decide (kwd x = 2) = false := decide_eq_false q2
     have e : iq (kwd x) [] = none := by simp only [iq]; rw [if_neg q2]
     rw [agq e]
     (repeat ((repeat1' (first | simp -implicitDefEqProofs -dsimp only [go_sem, b2, d2, an.cs, xx, z00, z01, z02, z10, z11, z12, z20, z21, z22] | simp -dsimp (disch := omega) only [wrap_i64])); repeat (with_reducible refine ah ?_)))
     (first | refine al.at (mw) ⟨leA, leA, trivial⟩ ?_ | refine ak.at (mw) ⟨leA, leA, trivial⟩ ?_)
     (repeat ((repeat1' (first | simp -implicitDefEqProofs -dsimp only [go_sem, an.v] | simp -dsimp (disch := omega) only [wrap_i64])); repeat (with_reducible refine ah ?_)))
     exact aj.au rfl (by rfl)
 · have hn1 := hbd n1 (by simp)
   have hr3 : rows IntS.cs [n1] = [.int .i64 n1] := rfl
   have m1 := alz c x n1 hw hn1
   (repeat ((repeat1' (first | simp -implicitDefEqProofs -dsimp only [go_sem, hr3, hr0, an.cs, xx, z00, z01, z02, z10, z11, z12, z20, z21, z22] | simp -dsimp (disch := omega) only [wrap_i64])); repeat (with_reducible refine ah ?_)))
   (first | refine al.at (m1) ⟨leA, leA, leA, trivial⟩ ?_ | refine ak.at (m1) ⟨leA, leA, leA, trivial⟩ ?_)
   (repeat ((repeat1' (first | simp -implicitDefEqProofs -dsimp only [go_sem, an.v] | simp -dsimp (disch := omega) only [wrap_i64])); repeat (with_reducible refine ah ?_)))
   exact aj.au rfl (by rfl)
 · have hn2 := hbd n2 (by simp)
   have hr3 : rows IntS.cs [n1, n2] = [.int .i64 n1, .int .i64 n2] := rfl
   have m2 := al6 c x n1 n2 hw hn2
   (repeat ((repeat1' (first | simp -implicitDefEqProofs -dsimp only [go_sem, hr3, hr0, an.cs, xx, z00, z01, z02, z10, z11, z12, z20, z21, z22] | simp -dsimp (disch := omega) only [wrap_i64])); repeat (with_reducible refine ah ?_)))
   (first | refine al.at (m2) ⟨leA, leA, leA, leA, trivial⟩ ?_ | refine ak.at (m2) ⟨leA, leA, leA, leA, trivial⟩ ?_)
   (repeat ((repeat1' (first | simp -implicitDefEqProofs -dsimp only [go_sem, an.v] | simp -dsimp (disch := omega) only [wrap_i64])); repeat (with_reducible refine ah ?_)))
   exact aj.au rfl (by rfl)
 · have c1 : (((n1 :: n2 :: n3 :: L).length : Int) == 1) = false := by simp; omega
   have c2 : (((n1 :: n2 :: n3 :: L).length : Int) == 2) = false := by simp; omega
   have c0 : (((n1 :: n2 :: n3 :: L).length : Int) == 0) = false := by simp; omega
   have e : iq (kwd x) (n1 :: n2 :: n3 :: L) = none := rfl
   rw [acp e]
   generalize n1 :: n2 :: n3 :: L = ns at *
   (repeat ((repeat1' (first | simp -implicitDefEqProofs -dsimp only [go_sem, c0, c1, c2, an.cs, xx] | simp -dsimp (disch := omega) only [wrap_i64])); repeat (with_reducible refine ah ?_)))
   exact aj.au rfl (by rfl)
theorem acr (c : an) (hp : c.ab.Posts.length ≤ 16777216) (hs : c.ab.Shocks.length ≤ 16777216) : Ctr Tryz.prog 97 [c.v] [] (c.o 0 1) [some (rows ay.cs c.ab.Posts), some (rows ai.cs c.ab.Shocks)] := by
 have h := ic c.ab hp hs
 refine Ctr.intro Tryz.mixed Tryz.func97 rfl Tryz.atm ?_
 simp -implicitDefEqProofs -dsimp only [go_sem, Tryz.ntmps97, Tryz.results97]
 (repeat ((repeat1' (first | simp -implicitDefEqProofs -dsimp only [go_sem, an.v] | simp -dsimp (disch := omega) only [wrap_i64])); repeat (with_reducible refine ah ?_)))
 (first | refine al.at (h) ⟨leA, trivial⟩ ?_ | refine ak.at (h) ⟨leA, trivial⟩ ?_)
 (repeat ((repeat1' (first | simp -implicitDefEqProofs -dsimp only [go_sem, ab.o] | simp -dsimp (disch := omega) only [wrap_i64])); repeat (with_reducible refine ah ?_)))
 refine aj.pick [2, 3] (by decide) (fun j hj => by omega) (.inl ?_) ?_
 · first | rfl | (simp [ren, bf, posOf, an.o]; done)
 · simp only [bb, List.map_cons, List.map_nil, bj, List.getElem?_cons_zero, List.getElem?_cons_succ, ae]
theorem a2p (c : an) : aj 0 (c.ab.o 0 1) [some (rows ay.cs c.ab.Posts), some (rows ai.cs c.ab.Shocks)] c.ab.v [] := by
 refine aj.pick [] (by decide) (fun j hj => by omega) (.inl ?_) rfl
 have e1 := ig (cs := ay.cs) c.ab.Posts
 have e2 := ig (cs := ai.cs) c.ab.Shocks
 simp [ab.o, ab.v, ren, bf, posOf, vj, ae] at e1 e2 ⊢
 exact ⟨e1.symm, e2.symm⟩
theorem akt (c : an) (hp : c.ab.Posts.length ≤ 16777216) (hs : c.ab.Shocks.length ≤ 16777216) : Ctr Tryz.prog 97 [c.v] [] c.v [] := by
 have h := (ic c.ab hp hs).vk (a2p c)
 refine Ctr.intro Tryz.mixed Tryz.func97 rfl Tryz.atm ?_
 simp -implicitDefEqProofs -dsimp only [go_sem, Tryz.ntmps97, Tryz.results97]
 (repeat ((repeat1' (first | simp -implicitDefEqProofs -dsimp only [go_sem, an.v] | simp -dsimp (disch := omega) only [wrap_i64])); repeat (with_reducible refine ah ?_)))
 (first | refine al.at (h) ⟨leA, trivial⟩ ?_ | refine ak.at (h) ⟨leA, trivial⟩ ?_)
 (repeat ((repeat1' (first | simp -implicitDefEqProofs -dsimp only [go_sem, ab.v] | simp -dsimp (disch := omega) only [wrap_i64])); repeat (with_reducible refine ah ?_)))
 exact aj.au rfl (by rfl)
theorem alb (c : an) (line : ByteArray) (hc : c.fits) (hl : line.size ≤ 4194304) : Ctr Tryz.prog 34 [c.v, .str line] [] (.tup [(gy c line).1.o 0 1, .str (gy c line).2]) [some (rows ay.cs (gy c line).1.ab.Posts), some (rows ai.cs (gy c line).1.ab.Shocks)] := by
 obtain ⟨f0, f1, f2, f3⟩ := hc
 have hc : c.fits := ⟨f0, f1, f2, f3⟩
 have he2 : (ByteArray.empty : ByteArray).size = 0 := rfl
 have hV := s9 ⟨line, ByteArray.empty⟩ (by dsimp only; omega) (by dsimp only; omega)
 have hO1 := akt c (by omega) (by omega)
 have hO := acr c (by omega) (by omega)
 have hG := aim c hc
 cases hb : uz c with
 | false =>
  rw [show gy c line = (c, wNo) by rw [gy, if_pos hb]]
  rw [hb] at hG
  refine Ctr.intro Tryz.mixed Tryz.func34 rfl Tryz.akd ?_
  simp -implicitDefEqProofs -dsimp only [go_sem, Tryz.ntmps34, Tryz.results34]
  (repeat ((repeat1' (first | simp -implicitDefEqProofs -dsimp only [go_sem, an.v] | simp -dsimp (disch := omega) only [wrap_i64])); repeat (with_reducible refine ah ?_)))
  (first | refine al.at (hO) ⟨leA, trivial⟩ ?_ | refine ak.at (hO) ⟨leA, trivial⟩ ?_)
  (repeat ((repeat1' (first | simp -implicitDefEqProofs -dsimp only [go_sem, an.v, an.o] | simp -dsimp (disch := omega) only [wrap_i64])); repeat (with_reducible refine ah ?_)))
  (first | refine al.at (hG) ⟨leA, trivial⟩ ?_ | refine ak.at (hG) ⟨leA, trivial⟩ ?_)
  (repeat ((repeat1' (first | simp -implicitDefEqProofs -dsimp only [go_sem] | simp -dsimp (disch := omega) only [wrap_i64])); repeat (with_reducible refine ah ?_)))
  refine aj.pick [2, 3] (by decide) (fun j hj => by omega) (.inl ?_) ?_
  · first | rfl | (simp [ren, bf, posOf, an.o]; done)
  · simp only [bb, List.map_cons, List.map_nil, bj, List.getElem?_cons_zero, List.getElem?_cons_succ, ae]
 | true =>
  rw [hb] at hG
  cases hr : ix ⟨line, ByteArray.empty⟩ with
  | false =>
   rw [show gy c line = (c, au7) by rw [gy, if_neg (by simp [hb]), if_pos hr]]
   rw [hr] at hV
   refine Ctr.intro Tryz.mixed Tryz.func34 rfl Tryz.akd ?_
   simp -implicitDefEqProofs -dsimp only [go_sem, Tryz.ntmps34, Tryz.results34]
   (repeat ((repeat1' (first | simp -implicitDefEqProofs -dsimp only [go_sem, an.v] | simp -dsimp (disch := omega) only [wrap_i64])); repeat (with_reducible refine ah ?_)))
   (first | refine al.at (hO) ⟨leA, trivial⟩ ?_ | refine ak.at (hO) ⟨leA, trivial⟩ ?_)
   (repeat ((repeat1' (first | simp -implicitDefEqProofs -dsimp only [go_sem, an.v, an.o] | simp -dsimp (disch := omega) only [wrap_i64])); repeat (with_reducible refine ah ?_)))
   (first | refine al.at (hG) ⟨leA, trivial⟩ ?_ | refine ak.at (hG) ⟨leA, trivial⟩ ?_)
   (repeat ((repeat1' (first | simp -implicitDefEqProofs -dsimp only [go_sem] | simp -dsimp (disch := omega) only [wrap_i64])); repeat (with_reducible refine ah ?_)))
   (first | refine al.at (hV) ⟨leA, trivial⟩ ?_ | refine ak.at (hV) ⟨leA, trivial⟩ ?_)
   (repeat ((repeat1' (first | simp -implicitDefEqProofs -dsimp only [go_sem, az.v] | simp -dsimp (disch := omega) only [wrap_i64])); repeat (with_reducible refine ah ?_)))
   refine aj.pick [2, 3] (by decide) (fun j hj => by omega) (.inl ?_) ?_
   · first | rfl | (simp [ren, bf, posOf, an.o]; done)
   · simp only [bb, List.map_cons, List.map_nil, bj, List.getElem?_cons_zero, List.getElem?_cons_succ, ae]
  | true =>
   have hl2 := adp hr
   obtain ⟨hw, hlg⟩ := yk hb
   rw [hr] at hV
   by_cases hf : c.Log.Count = 60
   · have hf' : (c.Log.Count == 60) = true := by simpa using hf
     rw [show gy c line = (c, aob) by rw [gy, if_neg (by simp [hb]), if_neg (by simp [hr]), if_pos hf]]
     refine Ctr.intro Tryz.mixed Tryz.func34 rfl Tryz.akd ?_
     simp -implicitDefEqProofs -dsimp only [go_sem, Tryz.ntmps34, Tryz.results34]
     (repeat ((repeat1' (first | simp -implicitDefEqProofs -dsimp only [go_sem, an.v] | simp -dsimp (disch := omega) only [wrap_i64])); repeat (with_reducible refine ah ?_)))
     (first | refine al.at (hO) ⟨leA, trivial⟩ ?_ | refine ak.at (hO) ⟨leA, trivial⟩ ?_)
     (repeat ((repeat1' (first | simp -implicitDefEqProofs -dsimp only [go_sem, an.v, an.o] | simp -dsimp (disch := omega) only [wrap_i64])); repeat (with_reducible refine ah ?_)))
     (first | refine al.at (hG) ⟨leA, trivial⟩ ?_ | refine ak.at (hG) ⟨leA, trivial⟩ ?_)
     (repeat ((repeat1' (first | simp -implicitDefEqProofs -dsimp only [go_sem] | simp -dsimp (disch := omega) only [wrap_i64])); repeat (with_reducible refine ah ?_)))
     (first | refine al.at (hV) ⟨leA, trivial⟩ ?_ | refine ak.at (hV) ⟨leA, trivial⟩ ?_)
     (repeat ((repeat1' (first | simp -implicitDefEqProofs -dsimp only [go_sem, az.v, hf'] | simp -dsimp (disch := omega) only [wrap_i64])); repeat (with_reducible refine ah ?_)))
     refine aj.pick [2, 3] (by decide) (fun j hj => by omega) (.inl ?_) ?_
     · first | rfl | (simp [ren, bf, posOf, an.o]; done)
     · simp only [bb, List.map_cons, List.map_nil, bj, List.getElem?_cons_zero, List.getElem?_cons_succ, ae]
   · have hf' : (c.Log.Count == 60) = false := by simpa using hf
     rw [show gy c line = (⟨(e9 c.ab line).1, aol c.Log ⟨line, rj (e9 c.ab line).2⟩⟩, rj (e9 c.ab line).2) by rw [gy, if_neg (by simp [hb]), if_neg (by simp [hr]), if_neg hf]]
     have hcap : rj (e9 c.ab line).2 = if 200 < ((e9 c.ab line).2.size : Int) then aea else (e9 c.ab line).2 := rfl
     have hcs : (rj (e9 c.ab line).2).size ≤ 200 := by
      rw [hcap]; split
      · decide
      · omega
     obtain ⟨z, hz⟩ := ajp c.Log ⟨line, rj (e9 c.ab line).2⟩
     have iA := yy c.Log ⟨line, rj (e9 c.ab line).2⟩ f2 f3 (by dsimp only; omega) (by dsimp only; omega)
     rw [hz] at iA
     have hR := aku c line (by omega) hw
     have hbl : (e9 c.ab line).1.Posts.length ≤ 1048576 ∧ (e9 c.ab line).1.Shocks.length ≤ 1048576 := by
      have h9 := dt (aj9 (line := line) hw)
      have := h9.plen
      have := h9.slen
      omega
     have hO2 := acr (cW c (e9 c.ab line).1) (by have := hbl.1; show (e9 c.ab line).1.Posts.length ≤ _; omega) (by have := hbl.2; show (e9 c.ab line).1.Shocks.length ≤ _; omega)
     have hO := hO1
     refine Ctr.intro Tryz.mixed Tryz.func34 rfl Tryz.akd ?_
     simp -implicitDefEqProofs -dsimp only [go_sem, Tryz.ntmps34, Tryz.results34]
     (repeat ((repeat1' (first | simp -implicitDefEqProofs -dsimp only [go_sem, an.v] | simp -dsimp (disch := omega) only [wrap_i64])); repeat (with_reducible refine ah ?_)))
     (first | refine al.at (hO) ⟨leA, trivial⟩ ?_ | refine ak.at (hO) ⟨leA, trivial⟩ ?_)
     (repeat ((repeat1' (first | simp -implicitDefEqProofs -dsimp only [go_sem, an.v] | simp -dsimp (disch := omega) only [wrap_i64])); repeat (with_reducible refine ah ?_)))
     (first | refine al.at (hG) ⟨leA, trivial⟩ ?_ | refine ak.at (hG) ⟨leA, trivial⟩ ?_)
     (repeat ((repeat1' (first | simp -implicitDefEqProofs -dsimp only [go_sem] | simp -dsimp (disch := omega) only [wrap_i64])); repeat (with_reducible refine ah ?_)))
     (first | refine al.at (hV) ⟨leA, trivial⟩ ?_ | refine ak.at (hV) ⟨leA, trivial⟩ ?_)
     (repeat ((repeat1' (first | simp -implicitDefEqProofs -dsimp only [go_sem, az.v, hf'] | simp -dsimp (disch := omega) only [wrap_i64])); repeat (with_reducible refine ah ?_)))
     (first | refine al.at (hR) ⟨leA, leA, trivial⟩ ?_ | refine ak.at (hR) ⟨leA, leA, trivial⟩ ?_)
     (repeat ((repeat1' (first | simp -implicitDefEqProofs -dsimp only [go_sem, an.v] | simp -dsimp (disch := omega) only [wrap_i64])); repeat (with_reducible refine ah ?_)))
     (first | refine al.at (hO2) ⟨leA, trivial⟩ ?_ | refine ak.at (hO2) ⟨leA, trivial⟩ ?_)
     (repeat ((repeat1' (first | simp -implicitDefEqProofs -dsimp only [go_sem, an.o] | simp -dsimp (disch := omega) only [wrap_i64])); repeat (with_reducible refine ah ?_)))
     refine bc.split (fun hg => ?_) (fun hg => ?_)
     · have e : rj (e9 c.ab line).2 = aea := by rw [hcap, if_pos (of_decide_eq_true hg)]
       rw [e] at iA hz ⊢
       (repeat ((repeat1' (first | simp -implicitDefEqProofs -dsimp only [go_sem, hg] | simp -dsimp (disch := omega) only [wrap_i64])); repeat (with_reducible refine ah ?_)))
       (first | refine al.at (iA) ⟨leA, leA, trivial⟩ ?_ | refine ak.at (iA) ⟨leA, leA, trivial⟩ ?_)
       (repeat ((repeat1' (first | simp -implicitDefEqProofs -dsimp only [go_sem, Log.v] | simp -dsimp (disch := omega) only [wrap_i64])); repeat (with_reducible refine ah ?_)))
       refine aj.pick [4, 5] (by decide) (fun j hj => by omega) (.inl rfl) ?_
       simp only [bb, List.map_cons, List.map_nil, bj, List.getElem?_cons_zero, List.getElem?_cons_succ, ae]
       rfl
     · have e : rj (e9 c.ab line).2 = (e9 c.ab line).2 := by rw [hcap, if_neg (of_decide_eq_false hg)]
       rw [e] at iA hz ⊢
       (repeat ((repeat1' (first | simp -implicitDefEqProofs -dsimp only [go_sem, hg] | simp -dsimp (disch := omega) only [wrap_i64])); repeat (with_reducible refine ah ?_)))
       (first | refine al.at (iA) ⟨leA, leA, trivial⟩ ?_ | refine ak.at (iA) ⟨leA, leA, trivial⟩ ?_)
       (repeat ((repeat1' (first | simp -implicitDefEqProofs -dsimp only [go_sem, Log.v] | simp -dsimp (disch := omega) only [wrap_i64])); repeat (with_reducible refine ah ?_)))
       refine aj.pick [4, 5] (by decide) (fun j hj => by omega) (.inl rfl) ?_
       simp only [bb, List.map_cons, List.map_nil, bj, List.getElem?_cons_zero, List.getElem?_cons_succ, ae]
       rfl
end Go.Proofs
end
